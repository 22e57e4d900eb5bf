/-
  Proved: the law TimersPortions returns true for every input, and each argument reads behind the call as it read before. Conditions: none.
-/
import Derived.Test.YtibdplfdmncgiaaTP
import Derived.Test.YtibdplfdmncgiaaTA
set_option linter.all false
namespace Go.Proofs.Ytibdplfdmncgiaa
open Go.ChangeShapes Go.WideShapes Go.ChangeAt Go.RowKit

theorem cells_i64 : Try.prog.cellsOf 2 = 1 := by kernel_rfl

set_option maxRecDepth 1000000 in
theorem port_contract (H : Type) (enc : TypeId × Value → H) (W : World) (base : Nat) (args : Array Value) (ds gs : List (DataW H)) (before : List MemPlace)
    (hval : ∀ (j : Nat) t v, Try.f3.params[j]? = some t → args[j]? = some v → Value.okWide Try.prog W .any base t v)
    (hW : DataW.Whole enc Try.prog Try.f3.params.toList Rows.timersPortionsSpec.vars false W args.toList ds gs before) :
    Calls Try.prog 3 args W fun e W' => ∃ v, e = .returned v ∧ Rows.timersPortionsSpec.post enc Try.prog Try.f3 false true false false W args v W' := by
  have hW' := hW
  obtain ⟨p, q, hA0, hV, rfl, hfz, hnd⟩ := hW
  have hA : DataW.TrodAll enc Try.prog W 0 (fun _ => true) true Try.f3.params.toList args.toList ds p := hA0
  rw [Try.params3] at hA hval
  obtain ⟨v0, v1, d0, d1, p0, p1, rfl, rfl, rfl, h0, h1⟩ := trodAll_two hA
  obtain ⟨rfl, rfl⟩ := trodVars_none hV
  clear hA0 hA
  have hlt : ∀ x ∈ p0 ++ p1, x.block < W.heap.size := fun x hx => hW'.lt x (by simpa using hx)
  have k0 := h0
  have hlt0 : ∀ x ∈ p0, x.block < W.heap.size := fun x hx => hlt x (by simp [hx])
  have k1 := h1
  have hlt1 : ∀ x ∈ p1, x.block < W.heap.size := fun x hx => hlt x (by simp [hx])
  obtain ⟨a', len', cap', rfl⟩ := okWide_slice Try.underlying22 (hval 1 22 v1 rfl rfl)
  obtain ⟨fu1, hf1⟩ := h1
  obtain ⟨u, M, hu, hM, hwf⟩ := open_row Try.underlying22 Try.underlying2 cells_i64 hf1
  simp only [Value.cells] at hu
  have hu' : Value.slice a' len' cap' = u := by simpa using hu
  subst hu'
  obtain ⟨a, len, cap, rfl⟩ := okWide_slice Try.underlying22 (hval 0 22 v0 rfl rfl)
  obtain ⟨fu0, hf0⟩ := h0
  obtain ⟨v, L, hv, hR, _⟩ := open_row Try.underlying22 Try.underlying2 cells_i64 hf0
  simp only [Value.cells] at hv
  have hv' : Value.slice a len cap = v := by simpa using hv
  subst hv'
  refine (port_any _ _ L M W hR hM hwf).mono fun e W' ⟨he, hg⟩ => ?_
  subst he
  exact ⟨_, rfl, E.post_ext (pa := p0 ++ p1) (pv := []) hW' (fun _ _ _ => trodAll_cons_mk (shut_bool Try.underlying4 _) trodAll_mk0)
    (fun sp hs => trodAll_mk2 (trod_ext E.prog_laid (by kernel_rfl) (of_decide_eq_true (by kernel_rfl)) k0 hg hlt0 (fun x hx => hs x (by simp [hx]))) (trod_ext E.prog_laid (by kernel_rfl) (of_decide_eq_true (by kernel_rfl)) k1 hg hlt1 (fun x hx => hs x (by simp [hx]))))
    (fun _ _ => rfl) rfl hg (ok_one (by kernel_rfl) rfl (okWide_bool_mk Try.underlying4 _))⟩

set_option maxRecDepth 1000000 in
theorem port_lifted (os : Os) (started : os.Started) (H : Type) (enc : TypeId × Value → H) :
    ReturnsInHanded {} Try.checked os 3 .any (Rows.timersPortionsSpec.pre6 enc Try.prog Try.f3 Rows.timersPortionsRow.domain false) (Rows.timersPortionsSpec.post enc Try.prog Try.f3 false true false false) := by
  refine returnsInHanded_of_change (C := Try.checked) E.prog_own started (by kernel_rfl) Try.func3
    (ChangeSpec.witness6 (enc := enc) (C := Try.checked) false ⟨#[], #[.slice none 0 0, .slice none 0 0], []⟩ 8 (by kernel_rfl) (by kernel_rfl) (by kernel_rfl) (by kernel_rfl)) ?_
  intro W base args ds gs before hval hW _ _
  exact port_contract H enc W base args ds gs before hval hW

theorem timers_portions : Rows.TimersPortionsSaid :=
  OpenClaim.holds_of_wide 3 Try.f3 rfl rfl rfl rfl rfl rfl rfl ⟨rfl, rfl, rfl, rfl, rfl⟩ rfl rfl rfl rfl rfl (by kernel_rfl) Try.func3 (by kernel_rfl)
    (of_decide_eq_true (by kernel_rfl)) (by unfold Func.isWrapper; first | (rw [if_pos (by decide +kernel)]; kernel_rfl) | (rw [if_neg (by decide +kernel)]; exact ⟨rfl, rfl⟩))
    (fun os started H enc _ => port_lifted os started H enc)
end Go.Proofs.Ytibdplfdmncgiaa

/-
  Proved: the law TimersCalls returns true for every input whose bulk is at most the row's bound, and each argument reads behind the call as it read before. Conditions: the row's own bound on the bulk of what is read (the second form, '..UptoSaid').
-/
import Derived.Test.YtibdplfdmncgiaaMC25
set_option linter.all false
namespace Go.Proofs.Ytibdplfdmncgiaa
open Go.ChangeShapes Go.WideShapes Go.ChangeAt Go.RowKit

section
variable {H : Type} {enc : TypeId × Value → H} {P : Program}
theorem shut_bool {W : World} {b0 : Nat} {sp : Nat → Bool} {held : Bool} {t : TypeId} (ht : P.underlying t = some .bool) (b : Bool) : DataW.Trod enc P W b0 sp held t (.bool b) (.lit (.bool b)) [] := ⟨1, by simp [DataW.trod, Value.cells, ht]⟩
end

set_option maxRecDepth 1000000 in
theorem calls_contract (H : Type) (enc : TypeId × Value → H) (W : World) (base : Nat) (args : Array Value) (ds gs : List (DataW H)) (before : List MemPlace)
    (hval : ∀ (j : Nat) t v, Try.f7.params[j]? = some t → args[j]? = some v → Value.okWide Try.prog W .any base t v)
    (hW : DataW.Whole enc Try.prog Try.f7.params.toList Rows.timersCallsSpec.vars false W args.toList ds gs before) :
    Calls Try.prog 7 args W fun e W' => ∃ v, e = .returned v ∧ Rows.timersCallsSpec.post enc Try.prog Try.f7 false true false false W args v W' := by
  have hW' := hW
  obtain ⟨p, q, hA0, hV, rfl, hfz, hnd⟩ := hW
  have hA : DataW.TrodAll enc Try.prog W 0 (fun _ => true) true Try.f7.params.toList args.toList ds p := hA0
  rw [Try.params7] at hA hval
  obtain ⟨v1, v2, v3, d1, d2, d3, p1, p2, p3, rfl, rfl, rfl, h1, h2, h3⟩ := trodAll_three hA
  obtain ⟨rfl, rfl⟩ := trodVars_none hV
  clear hA0 hA
  have k1 := h1
  obtain ⟨ag, rfl, rfl, rfl, wf2⟩ := open_int Try.underlying2 (hval 1 2 v2 rfl rfl) h2
  obtain ⟨mo, rfl, rfl, rfl, wf3⟩ := open_int Try.underlying3 (hval 2 3 v3 rfl rfl) h3
  have hlt1 : ∀ x ∈ p1, x.block < W.heap.size := fun x hx => hW'.lt x (by simpa using hx)
  obtain ⟨a, len, cap, rfl⟩ := okWide_slice Try.underlying49 (hval 0 49 v1 rfl rfl)
  obtain ⟨fu1, hf1⟩ := h1
  obtain ⟨v, L, _, _, hv, _, _, hR⟩ := open_acts hf1
  simp only [Value.cells] at hv
  have hv' : Value.slice a len cap = v := by simpa using hv
  subst hv'
  refine (calls_any _ L ag mo W hR).mono fun e W' ⟨he, hg⟩ => ?_
  subst he
  exact ⟨_, rfl, E.post_ext (pa := p1 ++ ([] ++ [])) (pv := []) hW' (fun _ _ _ => trodAll_cons_mk (shut_bool Try.underlying4 _) trodAll_mk0)
    (fun sp hs => trodAll_mk3 (E.trod_ext E.prog_laid (by kernel_rfl) (of_decide_eq_true (by kernel_rfl)) k1 hg hlt1 (fun x hx => hs x (by simp [hx]))) (shut_int Try.underlying2 wf2) (shut_int Try.underlying3 wf3))
    (fun _ _ => rfl) (by simp) hg (ok_one (by kernel_rfl) rfl (okWide_bool_mk Try.underlying4 _))⟩

set_option maxRecDepth 1000000 in
theorem calls_lifted (os : Os) (started : os.Started) (H : Type) (enc : TypeId × Value → H) (F : Stop.Interp) :
    ReturnsInHanded {} Try.checked os 7 .any ((Rows.OpenSpec.upto Rows.timersCallsSpec).pre6 enc Try.prog Try.f7 Rows.timersCallsUptoRow.domain false) (((Rows.OpenSpec.upto Rows.timersCallsSpec).at F).post enc Try.prog Try.f7 false true false false) := by
  refine returnsInHanded_of_cond (C := Try.checked) (s := Rows.OpenSpec.upto Rows.timersCallsSpec) (k := Rows.uptoSmall) rfl E.prog_own started (by kernel_rfl) Try.func7
    (OpenSpec.witness (enc := enc) (C := Try.checked) (s := Rows.OpenSpec.upto Rows.timersCallsSpec) (k := Rows.uptoSmall) rfl false ⟨#[], #[.slice none 0 0, .int .i64 0, .int .i64 0], []⟩ 8 (by kernel_rfl) (by kernel_rfl) (by kernel_rfl)
      (x := ([.nil, .lit (.int .i64 0), .lit (.int .i64 0)], [], [])) (by kernel_rfl) rfl (by kernel_rfl)) ?_
  intro W base args ds gs before hval hW _ _ _
  exact calls_contract H enc W base args ds gs before hval hW

theorem timers_calls : Rows.TimersCallsUptoSaid :=
  OpenClaim.holds_of_cond 7 Try.f7 rfl rfl rfl rfl rfl rfl rfl ⟨rfl, rfl, rfl, rfl, rfl⟩ rfl rfl rfl rfl rfl (by kernel_rfl) Try.func7 (by kernel_rfl)
    (of_decide_eq_true (by kernel_rfl)) (by unfold Func.isWrapper; first | (rw [if_pos (by decide +kernel)]; kernel_rfl) | (rw [if_neg (by decide +kernel)]; exact ⟨rfl, rfl⟩))
    (fun os started H enc _ F => calls_lifted os started H enc F)
end Go.Proofs.Ytibdplfdmncgiaa

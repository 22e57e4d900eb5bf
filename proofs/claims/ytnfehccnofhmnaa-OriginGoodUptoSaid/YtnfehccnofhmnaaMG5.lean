/-
  Proved: the law OriginGood returns true for every input whose bulk is at most the row's bound, and each argument reads behind the call as it read before. Conditions: the row's own bound on the bulk of what is read (the second form, '..UptoSaid').
-/
import Derived.Test.YtnfehccnofhmnaaMG4
namespace Go.Proofs.Ytnfehccnofhmnaa
open Go.ChangeShapes Go.WideShapes Go.ChangeAt Go.RowKit

theorem good_any (c : Int) (v : Value) (L : List Ev) (w : World) (hR : Row w 8 v L.length (L.flatMap Ev.cs)) (hsz : ∀ e ∈ L, e.t.size ≤ 1048576 ∧ e.l.t.size ≤ 1048576) :
    Calls Try.prog 5 #[.int .u64 c, v] w fun e w' => e = .returned (.bool true) ∧ Ext w w' := by
  cases hl : longS L
  · exact good_loop c v L w hR hsz hl
  · have HL := Lib.hid hl
    have HR := Lib.hid hR
    have HS := Lib.hid hsz
    clear hl hR hsz
    go_enter Try.func5, Try.ntmps5
    go_wp2_with fail
    refine (long_any _ L _ HR.out HS.out).mono ?_
    rintro e w1 ⟨rfl, hx1⟩
    rw [HL.out]
    go_wp2_with fail
    refine (live_any _).mono ?_
    rintro e w9 ⟨rfl, hx9⟩
    go_wp2_with fail
    go_ret
    exact ⟨rfl, hx1.trans hx9⟩

theorem good_contract (H : Type) (enc : TypeId × Value → H) (W : World) (base : Nat) (args : Array Value) (ds gs : List (DataW H)) (before : List MemPlace)
    (hval : ∀ (j : Nat) t v, Try.f5.params[j]? = some t → args[j]? = some v → Value.okWide Try.prog W .any base t v)
    (hW : DataW.Whole enc Try.prog Try.f5.params.toList Rows.originGoodSpec.vars false W args.toList ds gs before) (hk : Rows.uptoSmall H (ds ++ gs) = true) :
    Calls Try.prog 5 args W fun e W' => ∃ v, e = .returned v ∧ Rows.originGoodSpec.post enc Try.prog Try.f5 false true false false W args v W' := by
  have hW' := hW
  obtain ⟨p, q, hA0, hV, rfl, hfz, hnd⟩ := hW
  have hA : DataW.TrodAll enc Try.prog W 0 (fun _ => true) true Try.f5.params.toList args.toList ds p := hA0
  rw [Try.params5] at hA hval
  obtain ⟨v0, v1, d0, d1, p0, p1, rfl, rfl, rfl, h0, h1⟩ := trodAll_two hA
  obtain ⟨rfl, rfl⟩ := trodVars_none hV
  clear hA0 hA
  have hlt0 : ∀ x ∈ p0 ++ p1, x.block < W.heap.size := fun x hx => hW'.lt x (by simpa using hx)
  have k1 := h1
  obtain ⟨c, rfl, rfl, rfl, wc⟩ := open_int Try.underlying22 (hval 0 22 v0 rfl rfl) h0
  obtain ⟨a, len, cap, rfl⟩ := okWide_slice Try.underlying30 (hval 1 30 v1 rfl rfl)
  obtain ⟨fu1, hf1⟩ := h1
  obtain ⟨v, L, sp, b, hv, hx1, hb, hR⟩ := open_events hf1
  simp only [Value.cells] at hv
  have hlt : ∀ x ∈ p1, x.block < W.heap.size := fun x hx => hlt0 x (by simp [hx])
  have hbulk : Rows.uptoBulkAll ([_, d1] ++ []) ≤ 1048576 := of_decide_eq_true hk
  have hsize : ∀ e ∈ L, e.t.size ≤ 1048576 ∧ e.l.t.size ≤ 1048576 := fun e he => by
    have h2 := evs_bulk (H := H) (sp := sp) hb he
    rw [← hx1] at h2
    simp only [List.append_nil, Rows.uptoBulkAll] at hbulk
    simp only at h2
    omega
  have hv' : Value.slice a len cap = v := by simpa using hv
  subst hv'
  refine (good_any c _ L W hR hsize).mono fun e W' ⟨he, hg⟩ => ?_
  subst he
  exact ⟨_, rfl, post_ext (pa := [] ++ p1) (pv := []) hW' (fun _ _ _ => trodAll_cons_mk (shut_bool Try.underlying4 _) trodAll_mk0)
    (fun sp hs => trodAll_mk2 (shut_int Try.underlying22 wc)
      (trod_ext prog_laid (by kernel_rfl) (of_decide_eq_true (by kernel_rfl)) k1 hg (fun x hx => hlt x hx) (fun x hx => hs x (by simp [hx]))))
    (fun _ _ => rfl) rfl hg (ok_one (by kernel_rfl) rfl (okWide_bool_mk Try.underlying4 _))⟩

set_option maxRecDepth 100000 in
theorem good_lifted (os : Os) (started : os.Started) (H : Type) (enc : TypeId × Value → H) (F : Stop.Interp) :
    ReturnsInHanded {} Try.checked os 5 .any ((Rows.OpenSpec.upto Rows.originGoodSpec).pre6 enc Try.prog Try.f5 Rows.originGoodUptoRow.domain false) (((Rows.OpenSpec.upto Rows.originGoodSpec).at F).post enc Try.prog Try.f5 false true false false) := by
  refine returnsInHanded_of_cond (C := Try.checked) (s := Rows.OpenSpec.upto Rows.originGoodSpec) (k := Rows.uptoSmall) rfl prog_own started (by kernel_rfl) Try.func5
    (OpenSpec.witness (enc := enc) (C := Try.checked) (s := Rows.OpenSpec.upto Rows.originGoodSpec) (k := Rows.uptoSmall) rfl false ⟨#[], #[.int .u64 0, .slice none 0 0], []⟩ 8 (by kernel_rfl) (by kernel_rfl) (by kernel_rfl)
      (x := ([.lit (.int .u64 0), .nil], [], [])) (by kernel_rfl) rfl (by kernel_rfl)) ?_
  intro W base args ds gs before hval hW _ hk _
  exact good_contract H enc W base args ds gs before hval hW hk

theorem origin_good : Rows.OriginGoodUptoSaid :=
  OpenClaim.holds_of_cond 5 Try.f5 rfl rfl rfl rfl rfl rfl rfl ⟨rfl, rfl, rfl, rfl, rfl⟩ rfl rfl rfl rfl rfl (by kernel_rfl) Try.func5 (by kernel_rfl)
    (of_decide_eq_true (by kernel_rfl)) (by unfold Func.isWrapper; first | (rw [if_pos (by decide +kernel)]; kernel_rfl) | (rw [if_neg (by decide +kernel)]; exact ⟨rfl, rfl⟩))
    (fun os started H enc _ F => good_lifted os started H enc F)
end Go.Proofs.Ytnfehccnofhmnaa

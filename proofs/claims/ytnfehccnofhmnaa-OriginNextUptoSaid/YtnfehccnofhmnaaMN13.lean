/-
  Proved: the law OriginNext returns true for every input whose bulk is at most the row's bound, and each argument reads behind the call as it read before. Conditions: the row's own bound on the bulk of what is read (the second form, '..UptoSaid').
-/
import Derived.Test.YtnfehccnofhmnaaMN12
set_option linter.all false
namespace Go.Proofs.Ytnfehccnofhmnaa
open Go.ChangeShapes Go.WideShapes Go.ChangeAt Go.RowKit

theorem next_contract (H : Type) (enc : TypeId × Value → H) (W : World) (base : Nat) (args : Array Value) (ds gs : List (DataW H)) (before : List MemPlace)
    (hval : ∀ (j : Nat) t v, Try.f7.params[j]? = some t → args[j]? = some v → Value.okWide Try.prog W .any base t v)
    (hW : DataW.Whole enc Try.prog Try.f7.params.toList Rows.originNextSpec.vars false W args.toList ds gs before) (hk : Rows.uptoSmall H (ds ++ gs) = true) :
    Calls Try.prog 7 args W fun e W' => ∃ v, e = .returned v ∧ Rows.originNextSpec.post enc Try.prog Try.f7 false true false false W args v W' := by
  have hW' := hW
  obtain ⟨p, q, hA0, hV, rfl, hfz, hnd⟩ := hW
  have hA : DataW.TrodAll enc Try.prog W 0 (fun _ => true) true Try.f7.params.toList args.toList ds p := hA0
  rw [Try.params7] at hA hval
  obtain ⟨v0, v1, v2, d0, d1, d2, p0, p1, p2, rfl, rfl, rfl, h0, h1, h2⟩ := trodAll_three hA
  obtain ⟨rfl, rfl⟩ := trodVars_none hV
  clear hA0 hA
  have hlt0 : ∀ x ∈ p0 ++ p1 ++ p2, x.block < W.heap.size := fun x hx => hW'.lt x (by simpa using hx)
  have k1 := h1
  have k2 := h2
  obtain ⟨c, rfl, rfl, rfl, wc⟩ := open_int Try.underlying22 (hval 0 22 v0 rfl rfl) h0
  obtain ⟨a, len, cap, rfl⟩ := okWide_slice Try.underlying30 (hval 1 30 v1 rfl rfl)
  obtain ⟨fu1, hf1⟩ := h1
  obtain ⟨v, L, sp, b, hv, hx1, hb, hR⟩ := open_events hf1
  simp only [Value.cells] at hv
  obtain ⟨cs, rfl, hsz2⟩ := okWide_struct Try.underlying28 (hval 2 28 v2 rfl rfl)
  obtain ⟨fu2, hf2⟩ := h2
  obtain ⟨x, hcs, hx2⟩ := open_event hf2
  simp only [Value.cells] at hcs
  have hlt1 : ∀ x ∈ p1, x.block < W.heap.size := fun x hx => hlt0 x (by simp [hx])
  have hlt2 : ∀ x ∈ p2, x.block < W.heap.size := fun x hx => hlt0 x (by simp [hx])
  have hbulk : Rows.uptoBulkAll ([_, d1, d2] ++ []) ≤ 1048576 := of_decide_eq_true hk
  have hd2 : d2 = x.data := congrArg Prod.fst hx2
  have hsize : ∀ e ∈ L, e.t.size ≤ 1048576 ∧ e.l.t.size ≤ 1048576 := fun e he => by
    have h2 := evs_bulk (H := H) (sp := sp) hb he
    rw [← hx1] at h2
    simp only [List.append_nil, Rows.uptoBulkAll] at hbulk
    simp only at h2
    omega
  have hxs : x.t.size ≤ 1048576 ∧ x.l.t.size ≤ 1048576 := by
    have h2 := Ev.bulk (H := H) x
    rw [← hd2] at h2
    simp only [List.append_nil, Rows.uptoBulkAll] at hbulk
    omega
  have hv' : Value.slice a len cap = v := by simpa using hv
  subst hv'
  obtain ⟨l⟩ := cs
  simp only at hcs
  subst hcs
  refine (next_any c _ L x W hR hsize hxs).mono fun e W' ⟨he, hg⟩ => ?_
  subst he
  exact ⟨_, rfl, post_ext (pa := [] ++ (p1 ++ p2)) (pv := []) hW' (fun _ _ _ => trodAll_cons_mk (shut_bool Try.underlying4 _) trodAll_mk0)
    (fun sp hs => trodAll_mk3 (shut_int Try.underlying22 wc)
      (trod_ext prog_laid (by kernel_rfl) (of_decide_eq_true (by kernel_rfl)) k1 hg (fun x hx => hlt1 x hx) (fun x hx => hs x (by simp [hx])))
      (trod_ext prog_laid (by kernel_rfl) (of_decide_eq_true (by kernel_rfl)) k2 hg (fun x hx => hlt2 x hx) (fun x hx => hs x (by simp [hx]))))
    (fun _ _ => rfl) rfl hg (ok_one (by kernel_rfl) rfl (okWide_bool_mk Try.underlying4 _))⟩

set_option maxRecDepth 100000 in
theorem next_lifted (os : Os) (started : os.Started) (H : Type) (enc : TypeId × Value → H) (F : Stop.Interp) :
    ReturnsInHanded {} Try.checked os 7 .any ((Rows.OpenSpec.upto Rows.originNextSpec).pre6 enc Try.prog Try.f7 Rows.originNextUptoRow.domain false) (((Rows.OpenSpec.upto Rows.originNextSpec).at F).post enc Try.prog Try.f7 false true false false) := by
  refine returnsInHanded_of_cond (C := Try.checked) (s := Rows.OpenSpec.upto Rows.originNextSpec) (k := Rows.uptoSmall) rfl prog_own started (by kernel_rfl) Try.func7
    (OpenSpec.witness (enc := enc) (C := Try.checked) (s := Rows.OpenSpec.upto Rows.originNextSpec) (k := Rows.uptoSmall) rfl false ⟨#[], #[.int .u64 0, .slice none 0 0, .agg #[.int .i64 0, .int .u64 0, .string { data := #[] }, .int .i64 0, .int .i64 0, .int .u64 0, .string { data := #[] }, .bool false]], []⟩ 8 (by kernel_rfl) (by kernel_rfl) (by kernel_rfl)
      (x := ([.lit (.int .u64 0), .nil, .agg [.lit (.int .i64 0), .lit (.int .u64 0), .lit (.string []), .agg [.lit (.int .i64 0), .lit (.int .i64 0), .lit (.int .u64 0), .lit (.string []), .lit (.bool false)]]], [], [])) (by kernel_rfl) rfl (by kernel_rfl)) ?_
  intro W base args ds gs before hval hW _ hk _
  exact next_contract H enc W base args ds gs before hval hW hk

theorem origin_next : Rows.OriginNextUptoSaid :=
  OpenClaim.holds_of_cond 7 Try.f7 rfl rfl rfl rfl rfl rfl rfl ⟨rfl, rfl, rfl, rfl, rfl⟩ rfl rfl rfl rfl rfl (by kernel_rfl) Try.func7 (by kernel_rfl)
    (of_decide_eq_true (by kernel_rfl)) (by unfold Func.isWrapper; first | (rw [if_pos (by decide +kernel)]; kernel_rfl) | (rw [if_neg (by decide +kernel)]; exact ⟨rfl, rfl⟩))
    (fun os started H enc _ F => next_lifted os started H enc F)
end Go.Proofs.Ytnfehccnofhmnaa

/-
  Walk: 'long' of the originator's statements. No condition.
-/
import Derived.Test.YtnfehccnofhmnaaW8
namespace Go.Proofs.Ytnfehccnofhmnaa
open Go.RowKit
attribute [local go_sem ↓] eql_lEq eql_sEq eql_eEq eql_oEq neq_lEq neq_sEq neq_eEq neq_oEq
attribute [local go_sem] ExtOf.cell ExtOf.frozen ExtOf.lt ExtOf.le
attribute [local go_sem high] ExtOf.cell2 ExtOf.frozen2 ExtOf.lt2 ExtOf.cell3 ExtOf.frozen3 ExtOf.lt3 ExtOf.cellB ExtOf.frozenB ExtOf.cellX ExtOf.frozenX ExtOf.cellX' ExtOf.frozenX'
attribute [local go_sem] BelOf.cell BelOf.frozen BelOf.lt

/-- Where a slice that is read lies. -/
theorem row_view {w : World} {size : Nat} {v : Value} {n : Nat} {xs : List Value} (h : Row w size v n xs) :
    ∃ a cap, v = .slice a n cap ∧ n ≤ maxLen ∧ (0 < n → ∃ g off, a = some ⟨g, off, none⟩ ∧ (0 < size → g < w.heap.size) ∧ ∀ j u, xs[j]? = some u → w.cell? ⟨g, off + j, none⟩ = some u) := by
  obtain ⟨hl, h0⟩ := h
  rcases h0 with ⟨hn, a, c, hv⟩ | ⟨g, off, cap, hv, hm, hc⟩
  · exact ⟨a, c, by rw [hv, hn], by omega, fun h => by omega⟩
  · refine ⟨_, cap, hv, hm, fun hn => ⟨g, off, rfl, fun hs => ?_, hc⟩⟩
    have h0 : 0 < xs.length := by rw [hl]; exact Nat.mul_pos hn hs
    have := hc 0 _ (List.getElem?_eq_getElem h0)
    exact World.block_lt_of_cell? w _ this

def sumS (L : List Ev) : Nat := (L.map fun e => e.t.size + e.l.t.size).sum
def longS (L : List Ev) : Bool := decide (60 < L.length) || decide (6000 < sumS (L.take 61))

theorem sum_take {L : List Ev} {n : Nat} {x : Ev} (h : L[n]? = some x) : sumS (L.take (n + 1)) = sumS (L.take n) + x.t.size + x.l.t.size := by
  unfold sumS
  rw [List.take_add_one, h]
  simp
  omega
theorem sum_le {L : List Ev} {M : Nat} (h : ∀ e ∈ L, e.t.size ≤ M ∧ e.l.t.size ≤ M) : ∀ n, sumS (L.take n) ≤ n * (M + M)
  | 0 => by simp [sumS]
  | n + 1 => by
    have ih := sum_le h n
    rw [Nat.succ_mul]
    generalize n * (M + M) = q at *
    cases hx : L[n]? with
    | none =>
      rw [List.take_of_length_le (by have := List.getElem?_eq_none_iff.1 hx; omega)]
      rw [List.take_of_length_le (List.getElem?_eq_none_iff.1 hx)] at ih
      omega
    | some x =>
      have hm := h x (List.mem_of_getElem? hx)
      rw [sum_take hx]
      omega

set_option maxHeartbeats 800000 in
theorem long_any (v : Value) (L : List Ev) (w : World) (hR : Row w 8 v L.length (L.flatMap Ev.cs)) (hsz : ∀ e ∈ L, e.t.size ≤ 1048576 ∧ e.l.t.size ≤ 1048576) :
    Calls Try.prog 8 #[v] w fun e w' => e = .returned (.bool (longS L)) ∧ Ext w w' := by
  obtain ⟨a, cap, rfl, hm, hvw⟩ := row_view hR
  have HV := Lib.hid hvw
  have HS := Lib.hid hsz
  clear hvw hR hsz
  unfold maxLen at hm
  go_enter Try.func8, Try.ntmps8
  go_wp2_with fail
  go_loopw [3, 4] (fun s i wr => ∃ (k : Nat) (y : ExtOf w), k ≤ L.length ∧ k ≤ 61 ∧ i = .int .i64 k ∧ s = .int .i64 (sumS (L.take k) : Nat) ∧ wr = y.val) (fun _ i _ => L.length - (intOf i).toNat)
  case atStart => exact ⟨0, ⟨w, Ext.refl _⟩, Nat.zero_le _, by omega, rfl, rfl, rfl⟩
  case round =>
    obtain ⟨k, y, hk, hk61, rfl, rfl, rfl⟩ := hrel
    have hsl := sum_le HS.out k
    by_cases hlt : k < L.length ∧ k ≤ 60
    · obtain ⟨h1, h2⟩ := hlt
      obtain ⟨g, off, rfl, hg, hcell⟩ := HV.out (by omega)
      have hg' := hg (by omega)
      obtain ⟨x, hx⟩ : ∃ x, L[k]? = some x := ⟨_, List.getElem?_eq_getElem h1⟩
      have q2 : w.cell? ⟨g, off + k * 8 + 2, none⟩ = some (.string x.t) := by rw [Nat.add_assoc]; exact hcell _ _ (flat_get Ev.cs 8 (fun _ => rfl) L k x hx 2 (by omega))
      have q6 : w.cell? ⟨g, off + k * 8 + 6, none⟩ = some (.string x.l.t) := by rw [Nat.add_assoc]; exact hcell _ _ (flat_get Ev.cs 8 (fun _ => rfl) L k x hx 6 (by omega))
      have HX := Lib.hid hx
      have hxs := HS.out x (List.mem_of_getElem? hx)
      obtain ⟨hx1, hx2⟩ := hxs
      have HQ := Lib.hid (sum_take hx)
      clear hx hcell hg
      have i0 : (0 : Int) ≤ (k : Int) := by omega
      have i1 : (k : Int) < (L.length : Int) := by omega
      go_wp2_with fail
      refine wp_region_ext (by kernel_rfl) (by kernel_rfl) ?_
      repeat (go_big_quiet_step (fail))
      refine wpQuiet_nil ?_
      intro _ hx'
      obtain ⟨z, rfl⟩ := hx'
      go_wp2_with fail
      go_roundw
      case rel =>
        refine ⟨k + 1, ⟨z.val, y.ext.val z⟩, by omega, by omega, by go_num, ?_, rfl⟩
        rw [HQ.out]
        go_num
      case measure => simp [intOf]; omega
    · have hs : longS L = (decide (60 < L.length) || decide (6000 < sumS (L.take k))) := by
        unfold longS
        by_cases h : k = L.length
        · subst h
          rw [List.take_length, List.take_of_length_le (by omega)]
        · rw [show k = 61 by omega]
      have HS2 := Lib.hid hs
      clear hs HV HS
      go_wp2_with fail
      all_goals
        go_ret
        refine ⟨ret_bool ?_, y.ext⟩
        rw [HS2.out]
        go_light
        first
          | (congr 1 <;> (rw [decide_eq_decide]; omega))
          | (rw [show decide (60 < L.length) = true from decide_eq_true (by omega)]; rfl)
end Go.Proofs.Ytnfehccnofhmnaa

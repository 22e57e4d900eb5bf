/-
  live() runs to true; num hands back what it gets. No condition.
-/
import Derived.Test.YtibdplfdmncgiaaE28
import Derived.Test.YtibdplfdmncgiaaT9
set_option linter.all false
namespace Go.Proofs.Ytibdplfdmncgiaa
open Go.RowKit

set_option maxRecDepth 1000000 in
theorem live_run : E.isTrue (E.callN Try.prog E.X0 E.FT 100 100 8 [] ⟨0, []⟩) = true := by kernel_rfl

theorem live_any (w : World) : Calls Try.prog 8 #[] w fun e w' => e = .returned (.bool true) ∧ Ext w w' := E.calls_true live_run w

theorem num_any (x : Int) (w : World) : Calls Try.prog 11 #[.int .i64 x] w fun e w' => e = .returned (.int .i64 x) ∧ w' = w := by
  go_enter Try.func11, Try.ntmps11
  go_wp2_with fail
  go_ret
  exact ⟨rfl, rfl⟩

/-- All blocks of a wheel are new. -/
theorem all_new {T : TypeId} {f : FuncId} {p : At} {v : Value} {W : Wh} {w : World} (h : WheelW T f p v W w) {n : Nat} (hn : n ≤ p.bM) : ∀ k ∈ p.all v, n ≤ k := fun k hk => by
  have hM := p.hM
  have hH := p.hH
  have hB := p.hW
  have hg := rowB_ge h.2.2
  simp only [At.all, List.mem_cons] at hk
  rcases hk with rfl | rfl | rfl | hk
  · omega
  · omega
  · omega
  · have := hg k hk; omega

theorem keeps_ext2 {X : List Nat} {w a b : World} (h : Ext w a) (hx : ∀ k ∈ X, w.heap.size ≤ k) (hk : Keeps X a b) : Ext w b :=
  ⟨hk.os.trans h.os, hk.tape.trans h.tape, hk.output.trans h.output, Nat.le_trans h.size hk.size, fun k hk2 => (hk.block k (Nat.lt_of_lt_of_le hk2 h.size) (fun hm => by have := hx k hm; omega)).trans (h.block k hk2)⟩

/-- A row of numbers that a turn hands back: nil, or one that lies somewhere. -/
theorem own_ints {w : World} {B n : Nat} {e : TypeId} {v : Value} {l : List Int} (h : w.ownsRow B e 1 v n (intCs l)) : (v = .slice none 0 0 ∧ l = [] ∧ n = 0) ∨
    ∃ g cap, v = .slice (some ⟨g, 0, none⟩) n cap ∧ B ≤ g ∧ n = l.length ∧ ∀ (j : Nat) (x : Int), l[j]? = some x → w.cell? ⟨g, j, none⟩ = some (.int .i64 x) := by
  have hl : l.length = n := by have := h.1; simpa [intCs] using this
  rcases h.2 with ⟨hv, hn⟩ | ⟨g, cap, cur, hv, hb, hg, hc, hcm, hs, ht⟩
  · exact .inl ⟨hv, by cases l with | nil => rfl | cons => simp [hn] at hl, hn⟩
  · refine .inr ⟨g, cap, hv, hb, hl.symm, fun j x hj => ?_⟩
    have hlt : j < l.length := (List.getElem?_eq_some_iff.1 hj).1
    have hcur : cur[j]? = some (.int .i64 x) := by
      have h1 : (intCs l)[j]? = some (.int .i64 x) := by simp [intCs, hj]
      rw [← ht, List.getElem?_take_of_lt (by omega)] at h1
      simpa using h1
    have := cell_of_row w g j _ _ _ hg
    rw [this]
    simpa using hcur
end Go.Proofs.Ytibdplfdmncgiaa

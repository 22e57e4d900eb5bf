/-
  Quick steps of a script, taken in one walk. No condition.
-/
import Derived.Test.YtibdplfdmncgiaaFloat
import Derived.Test.YtibdplfdmncgiaaData
import Derived.Laws.AppendOwnNone
set_option linter.all false
namespace Go.Proofs.Ytibdplfdmncgiaa
open Go.RowKit
section
variable {P : Program} {ops : Array Oper} {C : World → Prop} {Q : Exit → Act → World → Prop}
theorem post_walk {af : Act} {w : World} {r : List Stp} : ∀ (qs : List Stp) (a : Act), qs.all (·.q) = true → walkE P ops C af (qs.map (·.o)) a → wpPost P ops C Q r af w → wpPost P ops C Q (qs ++ r) a w
  | [], a, _, h, hr => by
    have h : a = af := h
    rw [h]; exact hr
  | s :: qs, a, hq, h, hr => by
    simp only [List.all_cons, Bool.and_eq_true] at hq
    obtain ⟨v, hy, hn⟩ := h
    rw [List.cons_append]
    unfold wpPost
    rw [if_pos hq.1]
    exact ⟨v, hy, post_walk qs _ hq.2 hn hr⟩

theorem post_quiet {a af : Act} {w : World} {l : List Stp} (k n : Nat) (hq : (l.take k).all (·.q) = true) (hn : a.tmps.size = n) (hd : dstsOk n ((l.take k).map (·.o)) = true) (hne : ∃ w, C w)
    (h : ∀ w', C w' → wpQuiet P ops (fun w'' => ∃ x : ExtOf w', w'' = x.val) (fun a' => a' = af) ((l.take k).map (·.o)) a) (hr : wpPost P ops C Q (l.drop k) af w) : wpPost P ops C Q l a w := by
  subst hn
  have := post_walk (Q := Q) (w := w) (r := l.drop k) (l.take k) a hq (walkE_of_quiet hne _ a hd h) hr
  rwa [List.take_append_drop] at this
end
/-- append to a row of the call's own (in a block from B on), of any slice of that type. -/
theorem wpList_app4 {P : Program} {ops : Array Oper} {rest : List Oper} {o : Oper} {a : Act} {Q : Exit → Act → World → Prop} {w : World} (B : Nat) (t e : TypeId) (i : TypeInfo) (z : Value) (size bytes : Nat)
    (ht : P.underlying t = some (.slice e)) (hi : P.info? e = some i) (hz : i.zero = some z) (hsize : i.size = size) (hby : i.bytes = bytes) (hzs : z.cells.size = size) (hsz : 0 < size)
    (hgd : o.guard = none) (s x : Operand) (ho : o.op = .call { callee := .builtin .append, args := #[s, x], argTypes := #[t, t] })
    (v : Value) (n : Nat) (xs : List Value) (hs : a.eval s = v) (hown : w.ownsRow B e size v n xs) (hB : B ≤ w.heap.size)
    (v2 : Value) (m : Nat) (news : List Value) (hx : a.eval x = v2) (hrow : Row w size v2 m news) (hnil : v2 = .slice none 0 0 ∨ ∃ a n c, v2 = .slice (some a) n c) (h1 : ∀ u ∈ news, u.oneCell' = true)
    (h63 : n + m ≤ maxLen) (hbytes : (n + m) * bytes ≤ 140737488355328)
    (h : ∀ v' w', w'.ownsRow B e size v' (n + m) (xs ++ news) → Below B w w' → w.grownBy w' v.ownBlock → wpList P ops Q rest (a.put o.dst v') w') : wpList P ops Q (o :: rest) a w := by
  rcases hnil with hnil | ⟨ad, n', c', hnil⟩
  · have hm0 : m = 0 := by
      rcases hrow.2 with ⟨h0, _⟩ | ⟨g, off, cap, hv, _⟩
      · exact h0
      · rw [hnil] at hv; cases hv
    subst hm0
    have hnews : news = [] := List.length_eq_zero_iff.1 (by simpa using hrow.1)
    subst hnews
    refine wpList_append_own_none hgd s x t ho B e i size ht hi v n xs hs hown (by rw [hx, hnil]) (h v w (by simpa using hown) (Below.refl _ _) ⟨rfl, rfl, rfl, Nat.le_refl _, fun _ _ _ => rfl⟩)
  · have key : v2 = .slice (some ad) m c' ∧ ∀ j u, news[j]? = some u → w.cell? (ad.add j) = some u := by
      rcases hrow.2 with ⟨h0, a', c2, hv⟩ | ⟨g, off, cap, hv, _, hc⟩
      · rw [hnil] at hv
        simp only [Value.slice.injEq] at hv
        refine ⟨by rw [hnil, hv.2.1, h0], fun j u hj => ?_⟩
        have : news = [] := List.length_eq_zero_iff.1 (by rw [hrow.1, h0, Nat.zero_mul])
        rw [this] at hj; simp at hj
      · rw [hnil] at hv
        simp only [Value.slice.injEq, Option.some.injEq] at hv
        refine ⟨by rw [hnil, hv.2.1], fun j u hj => ?_⟩
        rw [hv.1]
        have : (⟨g, off, none⟩ : Addr).add j = ⟨g, off + j, none⟩ := by unfold Addr.add; split <;> simp_all
        rw [this]; exact hc j u hj
    exact wpList_append_own w hgd s x t ho B e i z size bytes ht hi hz hsize hby hzs hsz v n xs hs hown ad m c' news (by rw [hx, key.1]) hrow.1 key.2 h1 h63 hbytes hB
      fun v' w' k1 k2 _ => h v' w' k1 (Below.grown (Below.refl _ _) k2 hB fun k hk => (hown.lt k hk).1) k2
end Go.Proofs.Ytibdplfdmncgiaa

/-
  The heap's list: two things exchanged; a thing goes up; rows of things in memory. No condition.
-/
import Derived.Test.YtibdplfdmncgiaaT1
import Derived.Deep.MidRow
import Derived.Laws.AppendOwnNone
set_option linter.all false
namespace Go.Proofs.Ytibdplfdmncgiaa
open Go.RowKit

/-- Two things exchanged. -/
def swapH (L : List Hd) (i j : Nat) : List Hd := match L[i]?, L[j]? with
  | some x, some y => (L.set i y).set j x
  | _, _ => L

theorem swapH_eq {L : List Hd} {i j : Nat} {x y : Hd} (hx : L[i]? = some x) (hy : L[j]? = some y) : swapH L i j = (L.set i y).set j x := by
  unfold swapH; rw [hx, hy]
theorem swapH_length (L : List Hd) (i j : Nat) : (swapH L i j).length = L.length := by
  unfold swapH; split <;> simp

/-- The thing at i goes up, as far as it comes ahead of the one above it. -/
def upH : Nat → List Hd → Nat → List Hd
  | 0, L, _ => L
  | f + 1, L, i => match L[i]?, L[(i - 1) / 2]? with
    | some x, some y => if 0 < i ∧ aheadH x y = true then upH f (swapH L i ((i - 1) / 2)) ((i - 1) / 2) else L
    | _, _ => L

theorem upH_stop {f i : Nat} {L : List Hd} (h : ∀ x y, L[i]? = some x → L[(i - 1) / 2]? = some y → 0 < i → aheadH x y = false) : upH f L i = L := by
  cases f with
  | zero => rfl
  | succ f =>
    unfold upH
    split
    · rename_i x y hx hy
      rw [if_neg]
      rintro ⟨h0, h1⟩
      rw [h x y hx hy h0] at h1
      cases h1
    · rfl
theorem upH_go {f i : Nat} {L : List Hd} {x y : Hd} (hx : L[i]? = some x) (hy : L[(i - 1) / 2]? = some y) (h0 : 0 < i) (h1 : aheadH x y = true) (hf : i ≤ f) : upH f L i = upH (f - 1) (swapH L i ((i - 1) / 2)) ((i - 1) / 2) := by
  obtain ⟨g, rfl⟩ : ∃ g, f = g + 1 := ⟨f - 1, by omega⟩
  show (match L[i]?, L[(i - 1) / 2]? with | some x, some y => if 0 < i ∧ aheadH x y = true then upH g (swapH L i ((i - 1) / 2)) ((i - 1) / 2) else L | _, _ => L) = _
  rw [hx, hy]
  simp only [Nat.add_sub_cancel]
  rw [if_pos ⟨h0, h1⟩]

/-! ### Memory -/
theorem setCell_row {w : World} {b o : Nat} {arr : Array Value} {e : TypeId} {fr : Nat × Nat} (h : w.heap[b]? = some (.cells arr e fr)) (v : Value) : (w.setCell ⟨b, o, none⟩ v).heap[b]? = some (.cells (arr.setIfInBounds o v) e fr) := by
  simp [World.setCell, Array.getElem?_modify, h]

theorem set_four {arr : Array Value} {o : Nat} {a b c d : Value} {j : Nat} (h : o + 4 ≤ arr.size) :
    ((((arr.setIfInBounds o a).setIfInBounds (o + 1) b).setIfInBounds (o + 2) c).setIfInBounds (o + 3) d)[j]? = if j < o ∨ o + 4 ≤ j then arr[j]? else [a, b, c, d][j - o]? := by
  simp only [Array.getElem?_setIfInBounds, Array.size_setIfInBounds]
  by_cases h0 : j < o ∨ o + 4 ≤ j
  · rw [if_pos h0, if_neg (by omega), if_neg (by omega), if_neg (by omega), if_neg (by omega)]
  · rw [if_neg h0]
    obtain rfl | rfl | rfl | rfl : j = o ∨ j = o + 1 ∨ j = o + 2 ∨ j = o + 3 := by omega
    all_goals simp
    all_goals omega

theorem hd_flat (L : List Hd) : (L.flatMap Hd.cs).length = L.length * 4 := by
  induction L with
  | nil => rfl
  | cons x L ih => rw [List.flatMap_cons, List.length_append, ih, List.length_cons, show x.cs.length = 4 from rfl]; omega

theorem hd_at {L : List Hd} {j : Nat} : (L.flatMap Hd.cs)[j]? = (L[j / 4]?).bind fun x => x.cs[j % 4]? := by
  cases hx : L[j / 4]? with
  | none =>
    rw [Option.bind_none, List.getElem?_eq_none_iff, hd_flat]
    have := List.getElem?_eq_none_iff.1 hx
    omega
  | some x =>
    have := flat_get Hd.cs 4 (fun _ => rfl) L (j / 4) x hx (j % 4) (by omega)
    rw [show j / 4 * 4 + j % 4 = j by omega] at this
    rw [this]; rfl

/-- A thing is laid into a row of the call's own. -/
theorem own_put {w : World} {B : Nat} {e : TypeId} {g n cap : Nat} {L : List Hd} (h : w.ownsRow B e 4 (.slice (some ⟨g, 0, none⟩) n cap) n (L.flatMap Hd.cs)) {i : Nat} (hi : i < n) (y : Hd) :
    (w.setCells g (i * 4) y.cs).ownsRow B e 4 (.slice (some ⟨g, 0, none⟩) n cap) n ((L.set i y).flatMap Hd.cs) := by
  obtain ⟨hl, h⟩ := h
  rw [hd_flat] at hl
  refine ⟨by rw [hd_flat, List.length_set]; exact hl, ?_⟩
  rcases h with ⟨hv, _⟩ | ⟨g', cap', cur, hv, hb, hg, hn, hm, hs, hx⟩
  · cases hv
  · cases hv
    refine .inr ⟨g, cap, _, rfl, hb, (setCell_row (setCell_row (setCell_row (setCell_row hg _) _) _) _), hn, hm, by simp [hs], ?_⟩
    have hsz : i * 4 + 4 ≤ cur.size := by rw [hs]; omega
    refine List.ext_getElem? fun j => ?_
    by_cases hj : j < n * 4
    · rw [List.getElem?_take_of_lt hj, Array.getElem?_toList, set_four hsz, hd_at]
      have hL : ∀ j, j < n * 4 → cur[j]? = (L[j / 4]?).bind fun x => x.cs[j % 4]? := fun j hj => by
        rw [← hd_at, ← hx, List.getElem?_take_of_lt hj, Array.getElem?_toList]
      by_cases hc : j < i * 4 ∨ i * 4 + 4 ≤ j
      · rw [if_pos hc, hL j hj, List.getElem?_set_ne (by omega)]
      · rw [if_neg hc]
        have h4 : j / 4 = i := by omega
        rw [h4, List.getElem?_set_self (by omega), Option.bind_some, show j % 4 = j - i * 4 by omega]
        rfl
    · rw [List.getElem?_eq_none (by simp; omega), List.getElem?_eq_none (by rw [hd_flat, List.length_set]; omega)]

theorem puts_other {w : World} {g o k : Nat} {vs : List Value} (h : k ≠ g) : (w.setCells g o vs).heap[k]? = w.heap[k]? := by
  induction vs generalizing w o with
  | nil => rfl
  | cons v vs ih =>
    rw [World.setCells, ih]
    simp only [World.setCell, Array.getElem?_modify]
    rw [if_neg (Ne.symm h)]
theorem puts_size {w : World} {g o : Nat} {vs : List Value} : (w.setCells g o vs).heap.size = w.heap.size := by
  induction vs generalizing w o with
  | nil => rfl
  | cons v vs ih => rw [World.setCells, ih]; simp [World.setCell]
theorem puts_rest {w : World} {g o : Nat} {vs : List Value} : (w.setCells g o vs).os = w.os ∧ (w.setCells g o vs).tape = w.tape ∧ (w.setCells g o vs).output = w.output := by
  induction vs generalizing w o with
  | nil => exact ⟨rfl, rfl, rfl⟩
  | cons v vs ih => rw [World.setCells]; exact ih

/-- The world w' holds the blocks of w, but for those named, as they were. -/
structure Keeps (X : List Nat) (w w' : World) : Prop where
  os : w'.os = w.os
  tape : w'.tape = w.tape
  output : w'.output = w.output
  size : w.heap.size ≤ w'.heap.size
  block : ∀ k, k < w.heap.size → k ∉ X → w'.heap[k]? = w.heap[k]?

theorem Keeps.refl (X : List Nat) (w : World) : Keeps X w w := ⟨rfl, rfl, rfl, Nat.le_refl _, fun _ _ _ => rfl⟩
theorem Keeps.trans {X : List Nat} {a b c : World} (h : Keeps X a b) (k : Keeps X b c) : Keeps X a c :=
  ⟨k.os.trans h.os, k.tape.trans h.tape, k.output.trans h.output, Nat.le_trans h.size k.size, fun i hi hx => (k.block i (Nat.lt_of_lt_of_le hi h.size) hx).trans (h.block i hi hx)⟩
theorem Keeps.mono {X Y : List Nat} {a b : World} (h : Keeps X a b) (hs : ∀ k ∈ X, k ∈ Y) : Keeps Y a b := ⟨h.os, h.tape, h.output, h.size, fun i hi hx => h.block i hi fun he => hx (hs i he)⟩
theorem Keeps.ext {X : List Nat} {a b c : World} (h : Keeps X a b) (k : Ext b c) : Keeps X a c :=
  ⟨k.os.trans h.os, k.tape.trans h.tape, k.output.trans h.output, Nat.le_trans h.size k.size, fun i hi hx => (k.block i (Nat.lt_of_lt_of_le hi h.size)).trans (h.block i hi hx)⟩
/-- .. behind a store into a named block, or into one that is new. -/
theorem Keeps.put {X : List Nat} {a b : World} (h : Keeps X a b) {g : Nat} (hg : g ∈ X ∨ a.heap.size ≤ g) (o : Nat) (vs : List Value) : Keeps X a (b.setCells g o vs) := by
  refine ⟨puts_rest.1.trans h.os, puts_rest.2.1.trans h.tape, puts_rest.2.2.trans h.output, by rw [puts_size]; exact h.size, fun i hi hx => ?_⟩
  refine (puts_other ?_).trans (h.block i hi hx)
  rcases hg with hg | hg
  · rintro rfl; exact hx hg
  · omega
theorem Keeps.cell {X : List Nat} {a b : World} (h : Keeps X a b) {p : Addr} {v : Value} (hp : p.block ∉ X) (hc : a.cell? p = some v) : b.cell? p = some v := by
  rw [← hc]
  exact World.cell?_of_block (h.block _ (World.block_lt_of_cell? a _ hc) hp)

/-- The block of a row. -/
def rowB (v : Value) : List Nat := match v.ownBlock with
  | some g => [g]
  | none => []

section
variable {P : Program}
theorem run_append_where (w : World) (base : Nat) (t ty e : TypeId) (i : TypeInfo) (z : Value) (size bytes : Nat) (ht : P.underlying t = some (.slice e)) (hi : P.info? e = some i) (hz : i.zero = some z)
    (hsize : i.size = size) (hby : i.bytes = bytes) (hzs : z.cells.size = size) (hsz : 0 < size)
    (v : Value) (n : Nat) (xs : List Value) (hown : w.ownsRow base e size v n xs)
    (a : Addr) (m c : Nat) (news : List Value) (hm : 0 < m) (hl : news.length = m * size) (hnews : ∀ j u, news[j]? = some u → w.cell? (a.add j) = some u) (h1 : ∀ u ∈ news, u.oneCell' = true)
    (h63 : n + m ≤ maxLen) (hbytes : (n + m) * bytes ≤ 140737488355328) (hbase : base ≤ w.heap.size) :
    ∃ v' w', (Builtin.append_ #[t, t] ty #[v, .slice (some a) m c]).run P w = .ok v' w' ∧ w'.ownsRow base e size v' (n + m) (xs ++ news) ∧ w.grownBy w' v.ownBlock ∧ (∀ g ∈ rowB v', g ∈ rowB v ∨ w.heap.size ≤ g) := by
  obtain ⟨v', w', hr, h2, h3, _⟩ := run_append_own (P := P) w base t ty e i z size bytes ht hi hz hsize hby hzs hsz v n xs hown a m c news hl hnews h1 h63 hbytes hbase
  refine ⟨v', w', hr, h2, h3, ?_⟩
  subst hsize; subst hby
  have hsmall : n + m ≤ 9223372036854775807 := by simp only [maxLen] at h63; omega
  rcases hown.2 with ⟨hv, hn⟩ | ⟨g, cap, cur, hv, hbg, hg, hnc, hcm, hcs, htake⟩
  · subst hv; subst hn
    have hr2 := run_append_nil (P := P) w t ty e i z ht hi hz a m c news hl hnews hm (by omega) (by have hb := hbytes; simp only [Nat.zero_add] at hb; omega)
    rw [hr2] at hr
    cases hr
    intro g hg
    simp only [rowB, Value.ownBlock, List.mem_singleton] at hg
    exact .inr (by omega)
  · subst hv
    by_cases hroom : n + m ≤ cap
    · have hfit : n * i.size + news.length ≤ cur.size := by rw [hl, hcs, ← Nat.add_mul]; exact Nat.mul_le_mul_right _ hroom
      have hr2 := run_append_room (P := P) w t ty e i ht hi g n cap cur hg a m c news hl hnews h1 hroom hfit
      rw [hr2] at hr
      cases hr
      exact fun k hk => .inl hk
    · have holds : ∀ j u, xs[j]? = some u → w.cell? ((⟨g, 0, none⟩ : Addr).add j) = some u := hown.cells (g := g) rfl
      have hr2 := run_append_grow (P := P) w t ty e i z ht hi hz ⟨g, 0, none⟩ n cap xs hown.1 holds a m c news hl hnews (by omega) (by omega) (growslice_fits (by omega) hbytes)
      rw [hr2] at hr
      cases hr
      intro k hk
      simp only [rowB, Value.ownBlock, List.mem_singleton] at hk
      exact .inr (by omega)

/-- append to a row of the call's own, of what was just built; where the row lies then. -/
theorem wpList_app5 {ops : Array Oper} {rest : List Oper} {o : Oper} {a : Act} {Q : Exit → Act → World → Prop} {w : World} (B : Nat) (t e : TypeId) (i : TypeInfo) (z : Value) (size bytes : Nat)
    (ht : P.underlying t = some (.slice e)) (hi : P.info? e = some i) (hz : i.zero = some z) (hsize : i.size = size) (hby : i.bytes = bytes) (hzs : z.cells.size = size) (hsz : 0 < size)
    (hgd : o.guard = none) (s x : Operand) (ho : o.op = .call { callee := .builtin .append, args := #[s, x], argTypes := #[t, t] })
    (v : Value) (n : Nat) (xs : List Value) (hs : a.eval s = v) (hown : w.ownsRow B e size v n xs) (hB : B ≤ w.heap.size)
    (G m c : Nat) (news : Array Value) (hm : 0 < m) (hx : a.eval x = .slice (some ⟨G, 0, none⟩) m c) (hG : w.heap[G]? = some (.cells news e (0, 0))) (hl : news.size = m * size) (h1 : ∀ u ∈ news.toList, u.oneCell' = true)
    (h63 : n + m ≤ maxLen) (hbytes : (n + m) * bytes ≤ 140737488355328)
    (h : ∀ v' w', w'.ownsRow B e size v' (n + m) (xs ++ news.toList) → w.grownBy w' v.ownBlock → (∀ g ∈ rowB v', g ∈ rowB v ∨ w.heap.size ≤ g) → wpList P ops Q rest (a.put o.dst v') w') : wpList P ops Q (o :: rest) a w := by
  refine wpList_plain hgd fun _ hK => ?_
  obtain ⟨v', w', hr, h2, h3, h4⟩ := run_append_where (P := P) w B t o.type e i z size bytes ht hi hz hsize hby hzs hsz v n xs hown ⟨G, 0, none⟩ m c news.toList hm (by simpa using hl) (fun j u hj => by
      have : (⟨G, 0, none⟩ : Addr).add j = ⟨G, j, none⟩ := by unfold Addr.add; split <;> simp_all
      rw [this, cell_of_row w G j news e (0, 0) hG]
      simpa using hj) h1 h63 hbytes hB
  unfold Oper.wp execOp
  simp only [ho, resolve, invoke, builtin, Sem.run_bind, Sem.run_pure, Result.andThen_ok, List.map_toArray, List.map_cons, List.map_nil, hs, hx, hr]
  exact hK _ _ (h v' w' h2 h3 h4)
end

theorem but_trans {X : Option Nat} {a b c : World} (h : a.grownBy b X) (k : b.grownBy c X) : a.grownBy c X :=
  ⟨k.os.trans h.os, k.tape.trans h.tape, k.output.trans h.output, Nat.le_trans h.size k.size, fun i hi hx => (k.block i (Nat.lt_of_lt_of_le hi h.size) hx).trans (h.block i hi hx)⟩
theorem keeps_grown {X : List Nat} {a b c : World} (h : Keeps X a b) {v : Value} (k : b.grownBy c v.ownBlock) (hv : ∀ g ∈ rowB v, g ∈ X) : Keeps X a c :=
  ⟨k.os.trans h.os, k.tape.trans h.tape, k.output.trans h.output, Nat.le_trans h.size k.size, fun i hi hx => (k.block i (Nat.lt_of_lt_of_le hi h.size) (fun he => hx (hv i (by unfold rowB; rw [← he]; exact .head _)))).trans (h.block i hi hx)⟩
theorem cell_other {w : World} {b o k : Nat} {v : Value} (h : k ≠ b) : (w.setCell ⟨b, o, none⟩ v).heap[k]? = w.heap[k]? := by
  simp only [World.setCell, Array.getElem?_modify]
  rw [if_neg (Ne.symm h)]
theorem Keeps.setCell {X : List Nat} {a b : World} (h : Keeps X a b) {g : Nat} (hg : g ∈ X ∨ a.heap.size ≤ g) (o : Nat) (v : Value) : Keeps X a (b.setCell ⟨g, o, none⟩ v) := by
  refine ⟨h.os, h.tape, h.output, by simpa [World.setCell] using h.size, fun i hi hx => ?_⟩
  refine (cell_other ?_).trans (h.block i hi hx)
  rcases hg with hg | hg
  · rintro rfl; exact hx hg
  · omega
/-- A row stays where its blocks stay. -/
theorem own_same {w w' : World} {base : Nat} {e : TypeId} {size : Nat} {v : Value} {n : Nat} {xs : List Value} (h : w.ownsRow base e size v n xs) (hk : ∀ k, base ≤ k → k < w.heap.size → w'.heap[k]? = w.heap[k]?) : w'.ownsRow base e size v n xs := by
  refine ⟨h.1, h.2.imp id ?_⟩
  rintro ⟨g, cap, cur, hv, hb, hg, r⟩
  exact ⟨g, cap, cur, hv, hb, by rw [hk g hb (Array.getElem?_eq_some_iff.1 hg).1]; exact hg, r⟩

theorem cell_keep {w w' : World} {a : Addr} {v : Value} (h : w.cell? a = some v) (e : Ext w w') : w'.cell? a = some v := by
  rw [Below.cell e (World.block_lt_of_cell? w _ h)]; exact h

/-- A struct in the middle of a block is read, in every world of a class. -/
theorem yieldsE_load {P : Program} {ops : Array Oper} {C : World → Prop} {op : Oper} {a : Act} (hw : Region.wanted op (yielded ops a.tmps) = true) (ty : TypeId) (x : Operand) (ho : op.op = .load ty x)
    (b o : Nat) (hx : a.eval x = .pointer (some ⟨b, o, none⟩)) (cs : List Value) (d : TypeDesc) (hS : ∀ w, C w → w.rangeAt b o cs)
    (hu : P.underlying ty = some d) (hd : d.isRow = true) (hi : (P.info? ty).map (·.size) = some cs.length) : YieldsE P ops C op (.agg cs.toArray) a :=
  .inl ⟨hw, fun w hw' => by
    unfold Oper.quietAt execOp
    simp only [ho, hx, Instr.loadAt, Instr.sureAddr, Sem.run_bind, Sem.run_pure, Result.andThen_ok, run_loadVar_mid w b o ty cs d (hS w hw') hu hd hi]
    exact ⟨rfl, rfl⟩⟩

theorem range_four {w : World} {g o : Nat} {x : Hd} (h : w.cell? ⟨g, o, none⟩ = some (.int .i64 x.a) ∧ w.cell? ⟨g, o + 1, none⟩ = some (.int .i64 x.o) ∧ w.cell? ⟨g, o + 2, none⟩ = some (.int .i64 x.i) ∧ w.cell? ⟨g, o + 3, none⟩ = some (.int .i64 x.n)) {w' : World} (e : Ext w w') : w'.rangeAt g o x.cs := by
  intro j v hj
  match j, hj with
  | 0, hj => simp only [Hd.cs, List.getElem?_cons_zero, Option.some.injEq] at hj; subst hj; exact cell_keep h.1 e
  | 1, hj => simp only [Hd.cs, List.getElem?_cons_succ, List.getElem?_cons_zero, Option.some.injEq] at hj; subst hj; exact cell_keep h.2.1 e
  | 2, hj => simp only [Hd.cs, List.getElem?_cons_succ, List.getElem?_cons_zero, Option.some.injEq] at hj; subst hj; exact cell_keep h.2.2.1 e
  | 3, hj => simp only [Hd.cs, List.getElem?_cons_succ, List.getElem?_cons_zero, Option.some.injEq] at hj; subst hj; exact cell_keep h.2.2.2 e
  | j + 4, hj => simp [Hd.cs] at hj

/-- A thing of an own row may be written. -/
theorem own_there {w : World} {B : Nat} {e : TypeId} {g n cap : Nat} {xs : List Value} (h : w.ownsRow B e 4 (.slice (some ⟨g, 0, none⟩) n cap) n xs) {i : Nat} (hi : i < n) : w.there g (i * 4) 4 := by
  obtain ⟨_, h⟩ := h
  rcases h with ⟨hv, _⟩ | ⟨g', cap', cur, hv, hb, hg, hn, hm, hs, hx⟩
  · cases hv
  · cases hv
    intro j hj
    refine ⟨?_, frozen_of_row w _ _ _ _ hg⟩
    rw [cell_of_row w g _ cur e (0, 0) hg]
    rw [Array.getElem?_eq_getElem (by rw [hs]; omega)]
    rfl

theorem but_puts {X : Nat} {a w : World} (h : a.grownBy w (some X)) (o : Nat) (vs : List Value) : a.grownBy (w.setCells X o vs) (some X) :=
  ⟨puts_rest.1.trans h.os, puts_rest.2.1.trans h.tape, puts_rest.2.2.trans h.output, by rw [puts_size]; exact h.size, fun k hk hn => (puts_other (fun e => hn (by rw [e]))).trans (h.block k hk hn)⟩
theorem info_four (x : Hd) : (Try.prog.info? 127).map (·.size) = some x.cs.length := by
  rw [show x.cs.length = 4 from rfl]
  kernel_rfl

theorem Keeps.setRow {X : List Nat} {a b : World} (h : Keeps X a b) {g : Nat} (hg : g ∈ X ∨ a.heap.size ≤ g) (cs : Array Value) : Keeps X a (b.setRow g cs) := by
  refine ⟨h.os, h.tape, h.output, by simpa using h.size, fun i hi hx => ?_⟩
  refine (setRow_other b g i cs ?_).trans (h.block i hi hx)
  rcases hg with hg | hg
  · rintro rfl; exact hx hg
  · omega
end Go.Proofs.Ytibdplfdmncgiaa

/-
  Walk: the document's wheel: a timer is put into its place. No condition.
-/
import Derived.Test.YtibdplfdmncgiaaMC16
import Derived.IntWalk
set_option linter.all false
namespace Go.Proofs.Ytibdplfdmncgiaa
open Go.RowKit
attribute [local go_sem] ExtOf.cell ExtOf.frozen ExtOf.lt ExtOf.le
attribute [local go_sem high] ExtOf.cell2 ExtOf.frozen2 ExtOf.lt2 ExtOf.cell3 ExtOf.frozen3 ExtOf.lt3 ExtOf.cellX ExtOf.frozenX ExtOf.cellX' ExtOf.frozenX'

def Tr.val (t : Tr) : Value := .agg #[.int .i64 t.id, .int .i64 t.a, .string t.v]

theorem set_three {arr : Array Value} {o : Nat} {a b c : Value} {j : Nat} (h : o + 3 ≤ arr.size) :
    (((arr.setIfInBounds o a).setIfInBounds (o + 1) b).setIfInBounds (o + 2) c)[j]? = if j < o ∨ o + 3 ≤ j then arr[j]? else [a, b, c][j - o]? := by
  simp only [Array.getElem?_setIfInBounds, Array.size_setIfInBounds]
  by_cases h0 : j < o ∨ o + 3 ≤ j
  · rw [if_pos h0, if_neg (by omega), if_neg (by omega), if_neg (by omega)]
  · rw [if_neg h0]
    obtain rfl | rfl | rfl : j = o ∨ j = o + 1 ∨ j = o + 2 := by omega
    all_goals simp
    all_goals omega

/-- A timer is laid into a row of the call's own. -/
theorem own_put3 {w : World} {B : Nat} {e : TypeId} {g n cap : Nat} {L : List Tr} (h : w.ownsRow B e 3 (.slice (some ⟨g, 0, none⟩) n cap) n (L.flatMap Tr.cs)) {i : Nat} (hi : i < n) (y : Tr) :
    (w.setCells g (i * 3) y.cs).ownsRow B e 3 (.slice (some ⟨g, 0, none⟩) n cap) n ((L.set i y).flatMap Tr.cs) := by
  obtain ⟨hl, h⟩ := h
  rw [tr_flat] at hl
  refine ⟨by rw [tr_flat, List.length_set]; exact hl, ?_⟩
  rcases h with ⟨hv, _⟩ | ⟨g', cap', cur, hv, hb, hg, hn, hm, hs, hx⟩
  · cases hv
  · cases hv
    refine .inr ⟨g, cap, _, rfl, hb, (setCell_row (setCell_row (setCell_row hg _) _) _), hn, hm, by simp [hs], ?_⟩
    have hsz : i * 3 + 3 ≤ cur.size := by rw [hs]; omega
    refine List.ext_getElem? fun j => ?_
    by_cases hj : j < n * 3
    · rw [List.getElem?_take_of_lt hj, Array.getElem?_toList, set_three hsz, tr_at]
      have hL : ∀ j, j < n * 3 → cur[j]? = (L[j / 3]?).bind fun x => x.cs[j % 3]? := fun j hj => by
        rw [← tr_at, ← hx, List.getElem?_take_of_lt hj, Array.getElem?_toList]
      by_cases hc : j < i * 3 ∨ i * 3 + 3 ≤ j
      · rw [if_pos hc, hL j hj, List.getElem?_set_ne (by omega)]
      · rw [if_neg hc]
        have h4 : j / 3 = i := by omega
        rw [h4, List.getElem?_set_self (by omega), Option.bind_some, show j % 3 = j - i * 3 by omega]
        rfl
    · rw [List.getElem?_eq_none (by simp; omega), List.getElem?_eq_none (by rw [tr_flat, List.length_set]; omega)]

theorem range_three {w : World} {g o : Nat} {x : Tr} (h : w.cell? ⟨g, o, none⟩ = some (.int .i64 x.id) ∧ w.cell? ⟨g, o + 1, none⟩ = some (.int .i64 x.a) ∧ w.cell? ⟨g, o + 2, none⟩ = some (.string x.v)) {w' : World} (e : Ext w w') : w'.rangeAt g o x.cs := by
  intro j v hj
  match j, hj with
  | 0, hj => simp only [Tr.cs, List.getElem?_cons_zero, Option.some.injEq] at hj; subst hj; exact cell_keep h.1 e
  | 1, hj => simp only [Tr.cs, List.getElem?_cons_succ, List.getElem?_cons_zero, Option.some.injEq] at hj; subst hj; exact cell_keep h.2.1 e
  | 2, hj => simp only [Tr.cs, List.getElem?_cons_succ, List.getElem?_cons_zero, Option.some.injEq] at hj; subst hj; exact cell_keep h.2.2 e
  | j + 3, hj => simp [Tr.cs] at hj

theorem own_there3 {w : World} {B : Nat} {e : TypeId} {g n cap : Nat} {xs : List Value} (h : w.ownsRow B e 3 (.slice (some ⟨g, 0, none⟩) n cap) n xs) {i : Nat} (hi : i < n) : w.there g (i * 3) 3 := by
  obtain ⟨_, h⟩ := h
  rcases h with ⟨hv, _⟩ | ⟨g', cap', cur, hv, hb, hg, hn, hm, hs, hx⟩
  · cases hv
  · cases hv
    intro j hj
    refine ⟨?_, frozen_of_row w _ _ _ _ hg⟩
    rw [cell_of_row w g _ cur e (0, 0) hg]
    rw [Array.getElem?_eq_getElem (by rw [hs]; omega)]
    rfl

/-- .. into a row that begins behind the head of its block. -/
theorem own_put3O {w : World} {B : Nat} {e : TypeId} {g off n C : Nat} {P L : List Tr} (ho : off = P.length * 3) (h : w.ownsRow B e 3 (.slice (some ⟨g, 0, none⟩) (P.length + n) C) (P.length + n) ((P ++ L).flatMap Tr.cs)) {i : Nat} (hi : i < n) (y : Tr) :
    (w.setCells g (off + i * 3) y.cs).ownsRow B e 3 (.slice (some ⟨g, 0, none⟩) (P.length + n) C) (P.length + n) ((P ++ L.set i y).flatMap Tr.cs) := by
  have := own_put3 h (i := P.length + i) (by omega) y
  rw [List.set_append_right _ _ (by omega), Nat.add_sub_cancel_left] at this
  rw [show off + i * 3 = (P.length + i) * 3 by omega]
  exact this
theorem own_there3O {w : World} {B : Nat} {e : TypeId} {g off n C p : Nat} {xs : List Value} (ho : off = p * 3) (h : w.ownsRow B e 3 (.slice (some ⟨g, 0, none⟩) (p + n) C) (p + n) xs) {i : Nat} (hi : i < n) : w.there g (off + i * 3) 3 := by
  have := own_there3 h (i := p + i) (by omega)
  rw [show off + i * 3 = (p + i) * 3 by omega]
  exact this

section
variable {P : Program}
/-- append in the place where the row lies. -/
theorem run_append_offroom (w : World) (t ty e : TypeId) (i : TypeInfo) (ht : P.underlying t = some (.slice e)) (hi : P.info? e = some i)
    (g off sLen sCap : Nat) (cur : Array Value) (hg : w.heap[g]? = some (.cells cur e (0, 0)))
    (a : Addr) (m c : Nat) (news : List Value) (hl : news.length = m * i.size) (hnews : ∀ j u, news[j]? = some u → w.cell? (a.add j) = some u) (h1 : ∀ u ∈ news, u.oneCell' = true)
    (hroom : sLen + m ≤ sCap) (hfit : off + sLen * i.size + news.length ≤ cur.size) :
    (Builtin.append_ #[t, t] ty #[.slice (some ⟨g, off, none⟩) sLen sCap, .slice (some a) m c]).run P w =
      .ok (.slice (some ⟨g, off, none⟩) (sLen + m) sCap) (w.setRow g (cur.toList.take (off + sLen * i.size) ++ news ++ cur.toList.drop (off + sLen * i.size + news.length)).toArray) := by
  have hf := run_firstCells_some (P := P) w i.size m a m c news hl hnews
  have hst := run_storeCells_at P g (off + sLen * i.size) e news 0 cur w hg (by simpa using hfit) h1
  simp only [Nat.add_zero] at hst
  simp [Builtin.append_, run_underlying ht, sizeOf, typeInfo, hi, Builtin.lenOf, hroom, hf, Addr.add_lit, hst]
end

set_option maxRecDepth 100000 in
/-- append of a timer to a row of timers that may begin behind the head of its block. -/
theorem run_append_tr (w : World) (B : Nat) (ty : TypeId) (ti0 : TypeInfo) (hti : Try.prog.info? 72 = some ti0) (hz0 : ti0.zero = some (.agg #[.int .i64 0, .int .i64 0, .string { data := #[] }])) (hz1 : ti0.size = 3) (hz2 : ti0.bytes = 32)
    (v : Value) (L : List Tr) (hO : OwnL w B v L) (hB : B ≤ w.heap.size) (hL : L.length ≤ 100000) (t : Tr) (G c : Nat) (hG : w.heap[G]? = some (.cells #[.int .i64 t.id, .int .i64 t.a, .string t.v] 72 (0, 0))) :
    ∃ v' w', (Builtin.append_ #[54, 54] ty #[v, .slice (some ⟨G, 0, none⟩) 1 c]).run Try.prog w = .ok v' w' ∧ OwnL w' B v' (L ++ [t]) ∧ w.grownBy w' v.ownBlock ∧ (∀ g ∈ rowB v', g ∈ rowB v ∨ w.heap.size ≤ g) := by
  have hnews : ∀ j u, t.cs[j]? = some u → w.cell? ((⟨G, 0, none⟩ : Addr).add j) = some u := fun j u hj => by
    have : (⟨G, 0, none⟩ : Addr).add j = ⟨G, j, none⟩ := by unfold Addr.add; split <;> simp_all
    rw [this, cell_of_row w G j _ _ (0, 0) hG]
    simpa [Tr.cs] using hj
  have h1 : ∀ u ∈ t.cs, u.oneCell' = true := fun u hu => by
    simp [Tr.cs] at hu
    rcases hu with rfl | rfl | rfl <;> rfl
  have hcs : t.cs.length = 1 * 3 := rfl
  have fromOwn : ∀ (v : Value) (n : Nat) (xs : List Value), n ≤ 100000 → n = L.length → xs = L.flatMap Tr.cs → w.ownsRow B 72 3 v n xs → ∃ v' w', (Builtin.append_ #[54, 54] ty #[v, .slice (some ⟨G, 0, none⟩) 1 c]).run Try.prog w = .ok v' w' ∧ OwnL w' B v' (L ++ [t]) ∧ w.grownBy w' v.ownBlock ∧ (∀ g ∈ rowB v', g ∈ rowB v ∨ w.heap.size ≤ g) := by
    intro v n xs hn he hx how
    obtain ⟨v', w', hr, h2, h3, h4⟩ := run_append_where (P := Try.prog) w B 54 ty 72 ti0 _ 3 32 Try.underlying54 hti hz0 hz1 hz2 rfl (by decide) v n xs how ⟨G, 0, none⟩ 1 c t.cs (by decide) hcs hnews h1 (by unfold maxLen; omega) (by omega) hB
    refine ⟨v', w', hr, OwnL.of ?_, h3, h4⟩
    subst he hx
    simpa using h2
  rcases hO with ⟨hv, hL0⟩ | ⟨g, cap, C, P, hv, hcc, ho⟩
  · subst hv hL0
    exact fromOwn _ 0 [] (by omega) rfl rfl (World.ownsRow_nil _ _ _ _)
  · subst hv
    rcases ho.2 with ⟨h0, _⟩ | ⟨g', cap', cur, h0, hbg, hg, hnc, hcm, hcs2, htk⟩
    · cases h0
    · simp only [Value.slice.injEq, Option.some.injEq, Addr.mk.injEq] at h0
      obtain ⟨⟨rfl, _⟩, _, rfl⟩ := h0
      by_cases hroom : L.length + 1 ≤ cap
      · have hr := run_append_offroom (P := Try.prog) w 54 ty 72 ti0 Try.underlying54 hti g (P.length * 3) L.length cap cur hg ⟨G, 0, none⟩ 1 c t.cs (by rw [hz1]; rfl) hnews h1 hroom (by rw [hz1, hcs2]; show _ + 3 ≤ _; have := hcc.2; omega)
        refine ⟨_, _, hr, .inr ⟨g, cap, C, P, by simp, ⟨by simpa using hroom, hcc.2⟩, ?_⟩, ⟨rfl, rfl, rfl, by simp, fun k _ hk => setRow_other w g k _ (fun e => hk (by simp [Value.ownBlock, e]))⟩, fun k hk => .inl hk⟩
        have hfl := tr_flat (P ++ L)
        rw [List.length_append] at hfl
        refine ⟨by rw [tr_flat]; simp, .inr ⟨g, C, _, by simp, hbg, setRow_heap w g cur _ _ _ hg, by have := hcc.2; simp; omega, hcm, ?_, ?_⟩⟩
        · simp only [List.size_toArray, List.length_append, List.length_take, List.length_drop, Array.length_toList]
          rw [hz1, hcs2]
          show _ + 3 + _ = _
          have : t.cs.length = 3 := rfl
          omega
        · have e1 : P.length * 3 + L.length * ti0.size = (P.length + L.length) * 3 := by rw [hz1]; omega
          rw [e1, htk]
          have e2 : (P.length + (L ++ [t]).length) * 3 = ((P ++ L).flatMap Tr.cs ++ t.cs).length := by
            have h3 : t.cs.length = 3 := rfl
            simp only [List.length_append, List.length_singleton, hfl, h3]; omega
          rw [e2, List.toList_toArray, List.take_left]
          simp
      · have hrow := (OwnL.row (w := w) (B := B) (.inr ⟨g, cap, C, P, rfl, hcc, ho⟩))
        have holds : ∀ j u, (L.flatMap Tr.cs)[j]? = some u → w.cell? ((⟨g, P.length * 3, none⟩ : Addr).add j) = some u := fun j u hj => by
          have : (⟨g, P.length * 3, none⟩ : Addr).add j = ⟨g, P.length * 3 + j, none⟩ := by unfold Addr.add; split <;> simp_all
          rw [this]
          rcases hrow.2 with ⟨h0, _⟩ | ⟨g2, off2, cap2, hv2, _, hc⟩
          · have : L = [] := List.length_eq_zero_iff.1 h0
            rw [this] at hj; simp at hj
          · simp only [Value.slice.injEq, Option.some.injEq, Addr.mk.injEq] at hv2
            obtain ⟨⟨rfl, rfl, _⟩, _, _⟩ := hv2
            exact hc j u hj
        have hge := grownCap_ge w (L.length + 1) cap 72
        have hgm : grownCap w (L.length + 1) cap 72 ≤ maxLen := grownCap_le_maxLen w (L.length + 1) cap 72 (by unfold maxLen; omega)
        have hr := run_append_grow (P := Try.prog) w 54 ty 72 ti0 _ Try.underlying54 hti hz0 ⟨g, P.length * 3, none⟩ L.length cap (L.flatMap Tr.cs) (by rw [tr_flat, hz1]) holds ⟨G, 0, none⟩ 1 c t.cs (by rw [hz1]; rfl) hnews (by omega) (by omega) (growslice_fits (by omega) (by rw [hz2]; omega))
        refine ⟨_, _, hr, OwnL.of ⟨by rw [tr_flat], .inr ⟨w.heap.size, _, _, by simp, hB, heap_alloc_new w.drew _, by simpa using hge, hgm, ?_, ?_⟩⟩, ⟨rfl, rfl, rfl, by simp, fun k hk _ => heap_alloc_old w.drew _ hk⟩, fun k hk => .inr ?_⟩
        · simp only [Array.size_append, List.size_toArray, size_zeroCells, tr_flat, List.length_append, List.length_singleton]
          have : t.cs.length = 3 := rfl
          have e3 : (Value.agg #[.int .i64 0, .int .i64 0, .string { data := #[] }]).cells.size = 3 := rfl
          rw [this, e3]
          omega
        · simp only [Array.toList_append, List.append_assoc]
          have e2 : (L ++ [t]).length * 3 = ((L.flatMap Tr.cs) ++ t.cs).length := by
            have h3 : t.cs.length = 3 := rfl
            simp only [List.length_append, List.length_singleton, tr_flat, h3]; omega
          rw [e2, ← List.append_assoc, List.take_left]
          simp
        · have : k = w.heap.size := by simpa [rowB, Value.ownBlock] using hk
          omega

theorem wpList_app_tr {ops : Array Oper} {rest : List Oper} {o : Oper} {a : Act} {Q : Exit → Act → World → Prop} {w : World} (B : Nat) (ti0 : TypeInfo) (hti : Try.prog.info? 72 = some ti0) (hz0 : ti0.zero = some (.agg #[.int .i64 0, .int .i64 0, .string { data := #[] }])) (hz1 : ti0.size = 3) (hz2 : ti0.bytes = 32)
    (hgd : o.guard = none) (s x : Operand) (ho : o.op = .call { callee := .builtin .append, args := #[s, x], argTypes := #[54, 54] })
    (v : Value) (L : List Tr) (hs : a.eval s = v) (hO : OwnL w B v L) (hB : B ≤ w.heap.size) (hL : L.length ≤ 100000) (t : Tr) (G c : Nat) (hx : a.eval x = .slice (some ⟨G, 0, none⟩) 1 c) (hG : w.heap[G]? = some (.cells #[.int .i64 t.id, .int .i64 t.a, .string t.v] 72 (0, 0)))
    (h : ∀ v' w', OwnL w' B v' (L ++ [t]) → w.grownBy w' v.ownBlock → (∀ g ∈ rowB v', g ∈ rowB v ∨ w.heap.size ≤ g) → wpList Try.prog ops Q rest (a.put o.dst v') w') : wpList Try.prog ops Q (o :: rest) a w := by
  refine wpList_plain hgd fun _ hK => ?_
  obtain ⟨v', w', hr, h2, h3, h4⟩ := run_append_tr w B o.type ti0 hti hz0 hz1 hz2 v L hO hB hL t G c hG
  unfold Oper.wp execOp
  simp only [ho, resolve, invoke, builtin, Sem.run_bind, Sem.run_pure, Result.andThen_ok, List.map_toArray, List.map_cons, List.map_nil, hs, hx, hr]
  exact hK _ _ (h v' w' h2 h3 h4)

theorem info_three (x : Tr) : (Try.prog.info? 72).map (·.size) = some x.cs.length := by
  rw [show x.cs.length = 3 from rfl]
  kernel_rfl
theorem info_tr : (Try.prog.info? 72).map (fun i => (i.zero, i.size, i.bytes)) = some (some (.agg #[.int .i64 0, .int .i64 0, .string { data := #[] }]), 3, 32) := by kernel_rfl

/-- What is behind a call that turns the document's wheel. -/
def RefTo (b B : Nat) (v : Value) (R : Rw) (r : Value) (w : World) : Ending → World → Prop := fun e w' =>
  e = .returned r ∧ ∃ v', RefW b B v' R w' ∧ Keeps (b :: rowB v) w w' ∧ ∀ g ∈ rowB v', g ∈ rowB v ∨ w.heap.size ≤ g
def RefIn (b B : Nat) (v : Value) (R : Rw) (w wx : World) : Prop :=
  ∃ v', RefW b B v' R wx ∧ Keeps (b :: rowB v) w wx ∧ ∀ g ∈ rowB v', g ∈ rowB v ∨ w.heap.size ≤ g

theorem upR_stop {k : Nat} {L : List Tr} (h : ∀ x y, L[k]? = some x → L[k - 1]? = some y → 0 < k → ¬ x.a < y.a) : upR k L = L := by
  cases k with
  | zero => rfl
  | succ k =>
    unfold upR
    split
    · rename_i y x hy hx
      rw [if_neg (h x y hx hy (by omega))]
    · rfl
theorem upR_go {k : Nat} {L : List Tr} {x y : Tr} (hx : L[k]? = some x) (hy : L[k - 1]? = some y) (h0 : 0 < k) (h1 : x.a < y.a) : upR k L = upR (k - 1) ((L.set (k - 1) x).set k y) := by
  obtain ⟨k, rfl⟩ : ∃ j, k = j + 1 := ⟨k - 1, by omega⟩
  conv => lhs; unfold upR
  simp only [Nat.add_sub_cancel] at hy ⊢
  rw [hx, hy]
  simp only
  rw [if_pos h1]

set_option maxRecDepth 100000 in
set_option maxHeartbeats 8000000 in
theorem ref_put (b B : Nat) (v : Value) (R : Rw) (t : Tr) (w : World) (hW : RefW b B v R w) (hB : b < B) (hBw : B ≤ w.heap.size) (hL : R.L.length ≤ 100000) :
    Calls Try.prog 65 #[.pointer (some ⟨b, 0, none⟩), .agg #[.int .i64 t.id, .int .i64 t.a, .string t.v]] w (RefTo b B v ⟨R.now, R.next, upR R.L.length (R.L ++ [t])⟩ (.tuple #[]) w) := by
  obtain ⟨ti0, hti, hz0, hz1, hz2⟩ := info_parts info_tr
  obtain ⟨now, next, L⟩ := R
  obtain ⟨hb, hown⟩ := hW
  simp only at hb hown hL ⊢
  have lb : b < w.heap.size := (Array.getElem?_eq_some_iff.1 hb).1
  have hcb := fun j => cell_of_row w _ j _ _ _ hb
  have HHB := Lib.hid hb
  have HO := Lib.hid hown
  clear hb hown
  go_enter Try.func65, Try.ntmps65
  go_upto_region 1 with fail
  go_cut [] (fun wx => Hid (RefIn b B v ⟨now, next, L ++ [t]⟩ w wx))
  case first =>
    obtain ⟨w1, hw1⟩ : ∃ w1, w1 = w.alloc (.cells #[.int .i64 t.id, .int .i64 t.a, .string t.v] 72) := ⟨_, rfl⟩
    have hx1 : Ext w w1 := by rw [hw1]; exact (Ext.refl _).alloc _
    have hbox : w1.heap[w.heap.size]? = some (.cells #[.int .i64 t.id, .int .i64 t.a, .string t.v] 72 (0, 0)) := by rw [hw1]; exact heap_new rfl
    have hb1 := heap_ext HHB.out hx1
    rw [← hw1]
    clear hw1 hcb
    have hcb := fun j => cell_of_row w1 _ j _ _ _ hb1
    have hcx := fun j => cell_of_row w1 _ j _ _ _ hbox
    have lb1 : b < w1.heap.size := (Array.getElem?_eq_some_iff.1 hb1).1
    have lx1 : w.heap.size < w1.heap.size := (Array.getElem?_eq_some_iff.1 hbox).1
    have HB1 := Lib.hid hb1
    have HX1 := Lib.hid hx1
    clear hbox hb1 hx1
    rcases HO.out with ⟨hv, hn⟩ | ⟨g, cap, C, P, hv, hcc, how⟩
    · subst hv hn
      refine wp_region_late (af := ?af1) [true, true, true, true, true, true, false, false, false, false, false] [false, false, false, false, false, false, false, false, true, true, true] 73 (fun w' => w1.grownBy w' none) (by kernel_rfl) rfl (by kernel_rfl) (fun _ _ h e => non_ext h e) (non_of (Ext.refl w1).drew) ?q ?r
      case q =>
        intro w' hw'
        obtain ⟨y, rfl⟩ : ∃ y : ExtOf w1, w' = y.val := ⟨⟨w', ext_grown hw'⟩, rfl⟩
        simp only [pickT, if_true, if_false, Bool.false_eq_true]
        repeat (go_big_quiet_step (fail))
        exact rfl
      case r =>
        simp only [pickN, if_true, if_false, Bool.false_eq_true]
        intro x1
        have e1 : Ext w1 x1.val := (Ext.refl _).drew.val x1
        go_wp2_with fail
        refine ⟨fun _ => non_of (e1.alloc _), ?_⟩
        intro x2
        have e2 : Ext w1 x2.val := (e1.alloc _).val x2
        go_wp2_with (at_builtin; refine unHd ?_)
        unfold Hd2
        have hbx2 : B ≤ x2.val.heap.size := by have := HX1.out.size; have := e2.size; omega
        refine wpList_app_tr B ti0 hti hz0 hz1 hz2 rfl _ _ rfl _ [] rfl (HO.out.ext (HX1.out.trans e2)) hbx2 hL t x1.val.heap.size 1 rfl (heap_ext (heap_new rfl) x2.ext) ?_
        intro v2 w2 hown2 hg2 hr2
        obtain ⟨g2, cap2, P2, rfl, _⟩ : ∃ g2 cap2 P2, v2 = .slice (some ⟨g2, P2, none⟩) (0 + 1) cap2 ∧ True := by
          rcases hown2 with ⟨_, h0⟩ | ⟨g2, cap2, C2, P2, h0, _⟩
          · simp at h0
          · exact ⟨g2, cap2, _, h0, trivial⟩
        have c2 : w1.grownBy w2 none := but_trans (non_of e2) hg2
        refine ⟨c2, ?_⟩
        intro x3
        go_wp2_with fail
        try refine ⟨fun h => absurd h (by decide), ?_⟩
        intro x4
        go_wp2_with fail
        try refine ⟨fun h => absurd h (by decide), ?_⟩
        intro x5
        have c5 : w1.grownBy x5.val none := non_ext c2 ((x3.ext.trans x4.ext).trans x5.ext)
        have hb5 : x5.val.heap[b]? = some (.cells #[.int .i64 now, .int .i64 next, .slice none 0 0] 56 (0, 0)) := (c5.block b lb1 (by simp)).trans HB1.out
        have o5 := hown2.ext ((x3.ext.trans x4.ext).trans x5.ext)
        have hcb5 := fun j => cell_of_row x5.val _ j _ _ _ hb5
        have hfb5 := fun j => frozen_of_row x5.val _ j _ _ hb5
        generalize x5.val = w5 at c5 hb5 o5 hcb5 hfb5 ⊢
        have HB5 := Lib.hid hb5
        clear hb5
        go_wp2_with fail
        try refine ⟨fun h => absurd h (by decide), ?_⟩
        intro x6
        go_wp2_with fail
        go_meet
        refine Lib.hid ⟨.slice (some ⟨g2, P2, none⟩) (0 + 1) cap2, ⟨by simpa using heap_ext (setCell_row HB5.out _) x6.ext, ?_⟩, ?_, fun k hk => (hr2 k hk).imp id (fun h => by have := HX1.out.size; have := e2.size; omega)⟩
        · exact (o5.same (fun k hk _ => cell_other (o := 2) (v := .slice (some ⟨g2, P2, none⟩) (0 + 1) cap2) (show k ≠ b by omega))).ext x6.ext
        · exact ((keeps_grown ((Keeps.refl _ w).ext HX1.out) (v := .slice none 0 0) c5 (fun _ h => List.mem_cons_of_mem _ h)).setCell (.inl (.head _)) 2 _).ext x6.ext
    · subst hv
      have lg : g < w.heap.size := (how.lt g rfl).2
      have lbg : b < g := by have := (how.lt g rfl).1; omega
      clear how
      refine wp_region_late (af := ?af2) [true, true, true, true, true, true, false, false, false, false, false] [false, false, false, false, false, false, false, false, true, true, true] 73 (fun w' => w1.grownBy w' (some g)) (by kernel_rfl) rfl (by kernel_rfl) (fun _ _ h e => but_ext h e) (but_ext (but_refl g w1) (Ext.refl w1).drew) ?q ?r
      case q =>
        intro w' hw'
        obtain ⟨y, rfl⟩ : ∃ y : ButOf g w1, w' = y.val := ⟨⟨w', hw'⟩, rfl⟩
        simp only [pickT, if_true, if_false, Bool.false_eq_true]
        repeat (go_big_quiet_step (fail))
        exact rfl
      case r =>
        simp only [pickN, if_true, if_false, Bool.false_eq_true]
        intro x1
        have e1 : Ext w1 x1.val := (Ext.refl _).drew.val x1
        go_wp2_with fail
        refine ⟨fun _ => but_ext (but_refl g w1) (e1.alloc _), ?_⟩
        intro x2
        have e2 : Ext w1 x2.val := (e1.alloc _).val x2
        go_wp2_with (at_builtin; refine unHd ?_)
        unfold Hd2
        have hbx2 : B ≤ x2.val.heap.size := by have := HX1.out.size; have := e2.size; omega
        refine wpList_app_tr B ti0 hti hz0 hz1 hz2 rfl _ _ rfl _ L rfl (HO.out.ext (HX1.out.trans e2)) hbx2 hL t x1.val.heap.size 1 rfl (heap_ext (heap_new rfl) x2.ext) ?_
        intro v2 w2 hown2 hg2 hr2
        obtain ⟨g2, cap2, P2, rfl, _⟩ : ∃ g2 cap2 P2, v2 = .slice (some ⟨g2, P2, none⟩) (L.length + 1) cap2 ∧ True := by
          rcases hown2 with ⟨_, h0⟩ | ⟨g2, cap2, C2, P2, h0, _⟩
          · simp at h0
          · exact ⟨g2, cap2, _, by simpa using h0, trivial⟩
        have c2 : w1.grownBy w2 (some g) := but_trans (but_ext (but_refl g w1) e2) hg2
        refine ⟨c2, ?_⟩
        intro x3
        go_wp2_with fail
        try refine ⟨fun h => absurd h (by decide), ?_⟩
        intro x4
        go_wp2_with fail
        try refine ⟨fun h => absurd h (by decide), ?_⟩
        intro x5
        have c5 : w1.grownBy x5.val (some g) := but_ext c2 ((x3.ext.trans x4.ext).trans x5.ext)
        have hb5 : x5.val.heap[b]? = some (.cells #[.int .i64 now, .int .i64 next, .slice (some ⟨g, P.length * 3, none⟩) L.length cap] 56 (0, 0)) := (c5.block b lb1 (by simp; omega)).trans HB1.out
        have o5 := hown2.ext ((x3.ext.trans x4.ext).trans x5.ext)
        have hcb5 := fun j => cell_of_row x5.val _ j _ _ _ hb5
        have hfb5 := fun j => frozen_of_row x5.val _ j _ _ hb5
        generalize x5.val = w5 at c5 hb5 o5 hcb5 hfb5 ⊢
        have HB5 := Lib.hid hb5
        clear hb5
        go_wp2_with fail
        try refine ⟨fun h => absurd h (by decide), ?_⟩
        intro x6
        go_wp2_with fail
        go_meet
        refine Lib.hid ⟨.slice (some ⟨g2, P2, none⟩) (L.length + 1) cap2, ⟨by simpa using heap_ext (setCell_row HB5.out _) x6.ext, ?_⟩, ?_, fun k hk => (hr2 k hk).imp id (fun h => by have := HX1.out.size; have := e2.size; omega)⟩
        · exact (o5.same (fun k hk _ => cell_other (o := 2) (v := .slice (some ⟨g2, P2, none⟩) (L.length + 1) cap2) (show k ≠ b by omega))).ext x6.ext
        · exact ((keeps_grown ((Keeps.refl _ w).ext HX1.out) (v := .slice (some ⟨g, P.length * 3, none⟩) L.length cap) c5 (fun _ h => List.mem_cons_of_mem _ h)).setCell (.inl (.head _)) 2 _).ext x6.ext
  case rest =>
    obtain ⟨v', ⟨hb1, hown1⟩, hk1, hr1⟩ := hcut.out
    obtain ⟨g, cap, C, P, rfl, hcc, hown2⟩ : ∃ g cap C P, v' = .slice (some ⟨g, P.length * 3, none⟩) (L.length + 1) cap ∧ (L.length + 1 ≤ cap ∧ P.length + cap ≤ C) ∧ wc.ownsRow B 72 3 (.slice (some ⟨g, 0, none⟩) (P.length + (L.length + 1)) C) (P.length + (L.length + 1)) ((P ++ (L ++ [t])).flatMap Tr.cs) := by
      rcases hown1 with ⟨_, h0⟩ | ⟨g2, cap2, C, P, h0, hc0, h1⟩
      · simp at h0
      · simp only [List.length_append, List.length_cons, List.length_nil, Nat.zero_add] at h0 hc0 h1
        exact ⟨g2, cap2, C, P, h0, hc0, h1⟩
    have hgB : B ≤ g := (hown2.lt g rfl).1
    obtain ⟨off, hoff⟩ : ∃ off, off = P.length * 3 := ⟨_, rfl⟩
    rw [← hoff] at hb1 hr1
    have HOFF := Lib.hid hoff
    have HCC := Lib.hid hcc
    clear hoff hcc
    clear hcut hcb
    have lb2 : b < wc.heap.size := (Array.getElem?_eq_some_iff.1 hb1).1
    have hcb2 := fun j => cell_of_row wc _ j _ _ _ hb1
    have hne : b ≠ g := by omega
    have lbg : b < g := by omega
    have HB2 := Lib.hid hb1
    have HO2 := Lib.hid hown2
    have HK2 := Lib.hid hk1
    clear hb1 hown1 hown2 hk1
    go_wp2_with fail
    go_loopw [4] (fun si wr => ∃ (k : Nat) (Lc : List Tr), si = .int .i64 k ∧ k ≤ L.length ∧ Lc.length = L.length + 1 ∧ Hid (upR k Lc = upR L.length (L ++ [t])) ∧
        Hid (wr.heap[b]? = some (.cells #[.int .i64 now, .int .i64 next, .slice (some ⟨g, off, none⟩) (L.length + 1) cap] 56 (0, 0))) ∧
        Hid (wr.ownsRow B 72 3 (.slice (some ⟨g, 0, none⟩) (P.length + (L.length + 1)) C) (P.length + (L.length + 1)) ((P ++ Lc).flatMap Tr.cs)) ∧ Hid (Keeps (b :: rowB v) w wr)) (fun si _ => (intOf si).toNat)
    case atStart => exact ⟨L.length, L ++ [t], by simp, Nat.le_refl _, by simp, rfl, HB2, HO2, HK2⟩
    case round =>
      obtain ⟨k, Lc, rfl, hkL, hLc, HUP, HB3, HO3, HK3⟩ := hrel
      rename_i wr
      clear HB2 HO2 HK2 hcb2 lb2
      have lb3 : b < wr.heap.size := (Array.getElem?_eq_some_iff.1 HB3.out).1
      have hcb3 := fun j => cell_of_row wr _ j _ _ _ HB3.out
      by_cases h0 : 0 < k
      · obtain ⟨p, hp⟩ : ∃ p, p = k - 1 := ⟨_, rfl⟩
        have HP := Lib.hid hp
        obtain ⟨x, hx⟩ : ∃ y, Lc[k]? = some y := ⟨_, List.getElem?_eq_getElem (by omega)⟩
        obtain ⟨y, hy⟩ : ∃ z, Lc[p]? = some z := ⟨_, List.getElem?_eq_getElem (by omega)⟩
        have HX := Lib.hid hx
        have HY := Lib.hid hy
        have hcell : ∀ j u, (Lc.flatMap Tr.cs)[j]? = some u → wr.cell? ⟨g, off + j, none⟩ = some u := fun j u hj => by
          have := HO3.out.cells (g := g) rfl (off + j) u (by
            rw [HOFF.out, List.flatMap_append, List.getElem?_append_right (by rw [tr_flat]; omega), tr_flat, Nat.add_sub_cancel_left]
            exact hj)
          rwa [show (⟨g, 0, none⟩ : Addr).add (off + j) = ⟨g, off + j, none⟩ by unfold Addr.add; split <;> simp_all] at this
        obtain ⟨x0, x1, x2⟩ := tr_cells hcell hx
        obtain ⟨y0, y1, y2⟩ := tr_cells hcell hy
        have lg3 : g < wr.heap.size := World.block_lt_of_cell? wr _ x0
        clear hx hy hcell
        have e0 : (0 : Int) < (k : Int) := by omega
        have e4 : (k : Int) - 1 = (p : Int) := by omega
        have p0 : (0 : Int) ≤ (p : Int) := by omega
        have p1 : (p : Int) < (L.length : Int) + 1 := by omega
        have k0 : (0 : Int) ≤ (k : Int) := by omega
        have k1 : (k : Int) < (L.length : Int) + 1 := by omega
        have hpk : p < k := by omega
        clear hp
        have e2 : (0 : Int) ≤ (k : Int) - 1 := by omega
        have e3 : (k : Int) ≤ 100000 := by omega
        have w1 : IntKind.i64.wrap ((k : Int) - 1) = (p : Int) := by rw [IntWalk.i64_in _ (by omega)]; exact e4
        rcases hab : decide (x.a < y.a)
        · have hab' : ¬ x.a < y.a := of_decide_eq_false hab
          go_wp2_with fail
          refine wp_region_ext (by kernel_rfl) (by kernel_rfl) ?_
          repeat (go_big_quiet_step (fail))
          refine wpQuiet_nil ?_
          intro _ hx'
          obtain ⟨z, rfl⟩ := hx'
          go_wp2_with fail
          have hR : upR L.length (L ++ [t]) = Lc := by
            rw [← HUP.out]
            exact upR_stop (fun a b ha hb _ => by rw [HX.out] at ha; rw [← HP.out, HY.out] at hb; cases ha; cases hb; omega)
          refine ⟨rfl, .tuple #[], by simp [results, go_sem], rfl, .slice (some ⟨g, off, none⟩) (L.length + 1) cap, ⟨heap_ext HB3.out z.ext, ?_⟩, HK3.out.ext z.ext, fun q hq => hr1 q hq⟩
          rw [hR]
          refine .inr ⟨g, cap, C, P, by rw [HOFF.out, hLc], by rw [hLc]; exact HCC.out, ?_⟩
          rw [hLc]
          exact own_ext HO3.out z.ext
        · have hab' : x.a < y.a := of_decide_eq_true hab
          go_wp2_with fail
          refine wp_region_ext (by kernel_rfl) (by kernel_rfl) ?_
          repeat (go_big_quiet_step (fail))
          refine wpQuiet_nil ?_
          intro _ hx'
          obtain ⟨z, rfl⟩ := hx'
          have HB4 := Lib.hid (heap_ext HB3.out z.ext)
          have HO4 := Lib.hid (own_ext HO3.out z.ext)
          have HK4 := Lib.hid (HK3.out.ext z.ext)
          have HXC := Lib.hid (show z.val.cell? ⟨g, off + k * 3, none⟩ = some (.int .i64 x.id) ∧ z.val.cell? ⟨g, off + k * 3 + 1, none⟩ = some (.int .i64 x.a) ∧ z.val.cell? ⟨g, off + k * 3 + 2, none⟩ = some (.string x.v) from ⟨cell_keep x0 z.ext, cell_keep x1 z.ext, cell_keep x2 z.ext⟩)
          have HYC := Lib.hid (show z.val.cell? ⟨g, off + p * 3, none⟩ = some (.int .i64 y.id) ∧ z.val.cell? ⟨g, off + p * 3 + 1, none⟩ = some (.int .i64 y.a) ∧ z.val.cell? ⟨g, off + p * 3 + 2, none⟩ = some (.string y.v) from ⟨cell_keep y0 z.ext, cell_keep y1 z.ext, cell_keep y2 z.ext⟩)
          have lg4 : g < z.val.heap.size := Nat.lt_of_lt_of_le lg3 z.ext.size
          generalize z.val = w4 at HB4 HO4 HK4 HXC HYC lg4 ⊢
          clear z HB3 HO3 HK3 lb3 hcb3 lg3 x0 x1 x2 y0 y1 y2
          have lb4 : b < w4.heap.size := (Array.getElem?_eq_some_iff.1 HB4.out).1
          have hcb4 := fun j => cell_of_row w4 _ j _ _ _ HB4.out
          go_wp2_with fail
          refine wp_region_pair (af := ?af3) [true, true, true, true, true, true, true, true, true, true, true, true, true, true, true, true, true, false, true, true, true, true, true, true, true, false, false, false, false, false] [true, true, true, true, true, true, true, true, true, true, true, true, true, true, true, true, true, true, true, true, true, true, true, true, true, true, false, false, false, false] 73 17 25 (fun w' => w4.grownBy w' (some g)) (by kernel_rfl) rfl (by kernel_rfl) (fun _ _ h e => but_ext h e) (but_ext (but_refl g w4) (Ext.refl w4).drew) ?q (.agg #[.int .i64 x.id, .int .i64 x.a, .string x.v]) (.agg #[.int .i64 y.id, .int .i64 y.a, .string y.v]) _ _ rfl rfl ?y1 ?y2 ?r
          case q =>
            intro w' hw'
            obtain ⟨s, rfl⟩ : ∃ s : ButOf g w4, w' = s.val := ⟨⟨w', hw'⟩, rfl⟩
            simp only [pickT, if_true, if_false, Bool.false_eq_true]
            repeat (go_big_quiet_step (fail))
            exact rfl
          case y1 => exact yieldsE_load rfl 72 _ rfl g (off + k * 3) rfl x.cs _ (fun w' e => range_three HXC.out ((Ext.refl w4).drew.trans e)) Try.underlying72 rfl (info_three x)
          case y2 => exact yieldsE_load rfl 72 _ rfl g (off + p * 3) rfl y.cs _ (fun w' e => range_three HYC.out ((Ext.refl w4).drew.trans e)) Try.underlying72 rfl (info_three y)
          case r =>
            simp only [pickF, if_true, if_false, Bool.false_eq_true]
            intro x1
            have e1 : Ext w4 x1.val := (Ext.refl _).drew.val x1
            go_wp2_with fail
            refine ⟨but_ext (but_refl g w4) e1, ?_⟩
            intro x2
            have e2 : Ext w4 x2.val := e1.val x2
            go_wp2_with (refine wpList_store_mid rfl 72 _ _ rfl g (off + p * 3) #[.int .i64 x.id, .int .i64 x.a, .string x.v] rfl rfl (own_there3O HOFF.out (own_ext HO4.out e2) (by omega)) (info_three x) (by simp [Value.oneCell']) (unHd ?_))
            have c2 : w4.grownBy (x2.val.setCells g (off + p * 3) x.cs) (some g) := but_puts (but_ext (but_refl g w4) e2) _ _
            have o2 := own_put3O HOFF.out (own_ext HO4.out e2) (show p < L.length + 1 by omega) x
            have b2 : (x2.val.setCells g (off + p * 3) x.cs).heap[b]? = some (.cells #[.int .i64 now, .int .i64 next, .slice (some ⟨g, off, none⟩) (L.length + 1) cap] 56 (0, 0)) := (puts_other hne).trans (heap_ext HB4.out e2)
            have kk2 : Keeps (b :: rowB v) w (x2.val.setCells g (off + p * 3) x.cs) := (HK4.out.ext e2).put ((hr1 g (.head _)).imp (List.mem_cons_of_mem _) id) _ _
            change Hd2 (wpList _ _ _ _ _ (x2.val.setCells g (off + p * 3) x.cs))
            generalize x2.val.setCells g (off + p * 3) x.cs = w5 at c2 o2 b2 kk2 ⊢
            unfold Hd2
            go_wp2_with fail
            try refine ⟨c2, ?_⟩
            intro x3
            go_wp2_with fail
            try refine ⟨but_ext c2 x3.ext, ?_⟩
            intro x4
            have e4 : Ext w5 x4.val := x3.ext.trans x4.ext
            go_wp2_with (refine wpList_store_mid rfl 72 _ _ rfl g (off + k * 3) #[.int .i64 y.id, .int .i64 y.a, .string y.v] rfl rfl (own_there3O HOFF.out (own_ext o2 e4) (by omega)) (info_three y) (by simp [Value.oneCell']) (unHd ?_))
            have c4 : w4.grownBy (x4.val.setCells g (off + k * 3) y.cs) (some g) := but_puts (but_ext c2 e4) _ _
            have o4 := own_put3O HOFF.out (own_ext o2 e4) (show k < L.length + 1 by omega) y
            have b4 : (x4.val.setCells g (off + k * 3) y.cs).heap[b]? = some (.cells #[.int .i64 now, .int .i64 next, .slice (some ⟨g, off, none⟩) (L.length + 1) cap] 56 (0, 0)) := (puts_other hne).trans (heap_ext b2 e4)
            have kk4 : Keeps (b :: rowB v) w (x4.val.setCells g (off + k * 3) y.cs) := (kk2.ext e4).put ((hr1 g (.head _)).imp (List.mem_cons_of_mem _) id) _ _
            change Hd2 (wpList _ _ _ _ _ (x4.val.setCells g (off + k * 3) y.cs))
            generalize x4.val.setCells g (off + k * 3) y.cs = w6 at c4 o4 b4 kk4 ⊢
            unfold Hd2
            go_wp2_with fail
            try refine ⟨c4, ?_⟩
            intro x5
            have HB6 := Lib.hid (heap_ext b4 x5.ext)
            have HO6 := Lib.hid (own_ext o4 x5.ext)
            have HK6 := Lib.hid (kk4.ext x5.ext)
            clear c2 o2 b2 kk2 c4 o4 b4 kk4 hcb4
            go_wp2_with fail
            have hgo := upR_go HX.out (show Lc[k - 1]? = some y by rw [← HP.out]; exact HY.out) h0 hab'
            rw [← HP.out] at hgo
            exact ⟨⟨p, (Lc.set p x).set k y, by simp, by omega, by simp [hLc], Lib.hid (hgo.symm.trans HUP.out), HB6, HO6, HK6⟩, by simp [intOf]; omega⟩
      · go_wp2_with fail
        refine wp_region_ext (by kernel_rfl) (by kernel_rfl) ?_
        repeat (go_big_quiet_step (fail))
        refine wpQuiet_nil ?_
        intro _ hx'
        obtain ⟨z, rfl⟩ := hx'
        go_wp2_with fail
        have hR : upR L.length (L ++ [t]) = Lc := by
          rw [← HUP.out]
          exact upR_stop (fun a b ha hb hc => absurd hc h0)
        refine ⟨rfl, .tuple #[], by simp [results, go_sem], rfl, .slice (some ⟨g, off, none⟩) (L.length + 1) cap, ⟨heap_ext HB3.out z.ext, ?_⟩, HK3.out.ext z.ext, fun q hq => hr1 q hq⟩
        rw [hR]
        refine .inr ⟨g, cap, C, P, by rw [HOFF.out, hLc], by rw [hLc]; exact HCC.out, ?_⟩
        rw [hLc]
        exact own_ext HO3.out z.ext
end Go.Proofs.Ytibdplfdmncgiaa

/-
  Walk: the document's wheel: a timer is taken out. No condition.
-/
namespace Go.Proofs.Ytibdplfdmncgiaa
open Go.RowKit
attribute [local go_sem] ExtOf.cell ExtOf.frozen ExtOf.lt ExtOf.le
attribute [local go_sem high] ExtOf.cell2 ExtOf.frozen2 ExtOf.lt2 ExtOf.cell3 ExtOf.frozen3 ExtOf.lt3 ExtOf.cellX ExtOf.frozenX ExtOf.cellX' ExtOf.frozenX'

theorem info_tr3 (a b : Int) (s : ByteArray) : (Try.prog.info? 72).map (·.size) = some (#[.int .i64 a, .int .i64 b, .string s] : Array Value).size := by kernel_rfl
theorem tr_one (O : List Tr) : ∀ u ∈ O.flatMap Tr.cs, u.oneCell' = true := fun u hu => by
  obtain ⟨x, _, hx⟩ := List.mem_flatMap.1 hu
  simp [Tr.cs] at hx
  rcases hx with rfl | rfl | rfl <;> rfl

/-- Where such a row lies. -/
theorem OwnL.slice {w : World} {B : Nat} {v : Value} {L : List Tr} (h : OwnL w B v L) (h0 : 0 < L.length) : ∃ g off cap, v = .slice (some ⟨g, off, none⟩) L.length cap ∧ L.length ≤ cap ∧ B ≤ g ∧ g < w.heap.size ∧ ∀ j u, (L.flatMap Tr.cs)[j]? = some u → w.cell? ⟨g, off + j, none⟩ = some u := by
  have hrow := h.row
  have hlt := h.lt
  rcases h with ⟨_, hL⟩ | ⟨g, cap, C, P, hv, hcc, ho⟩
  · rw [hL] at h0; simp at h0
  · subst hv
    have hc : L.length ≤ cap := hcc.1
    obtain ⟨l1, l2⟩ := hlt g (by simp [Go.Proofs.Ytibdplfdmncgiaa.rowB, Value.ownBlock])
    refine ⟨g, P.length * 3, cap, rfl, hc, l1, l2, ?_⟩
    rcases hrow.2 with ⟨h1, _⟩ | ⟨g2, off2, cap2, hv2, _, hcl⟩
    · omega
    · simp only [Value.slice.injEq, Option.some.injEq, Addr.mk.injEq] at hv2
      obtain ⟨⟨rfl, rfl, _⟩, _, _⟩ := hv2
      exact hcl

/-- A part of a row of timers, as it is read. -/
theorem row_part {w : World} {g off : Nat} {L : List Tr} (h : ∀ j u, (L.flatMap Tr.cs)[j]? = some u → w.cell? ⟨g, off + j, none⟩ = some u) (lo hi cap : Nat) (hlo : lo ≤ hi) (hhi : hi ≤ L.length) (hm : L.length ≤ maxLen) :
    Row w 3 (.slice (some ⟨g, off + lo * 3, none⟩) (hi - lo) cap) (hi - lo) (((L.take hi).drop lo).flatMap Tr.cs) := by
  have hl : ((L.take hi).drop lo).length = hi - lo := by simp; omega
  refine ⟨by rw [tr_flat, hl], .inr ⟨g, off + lo * 3, cap, rfl, by omega, fun j u hj => ?_⟩⟩
  rw [Nat.add_assoc]
  refine h _ _ ?_
  rw [tr_at] at hj ⊢
  rw [show (lo * 3 + j) / 3 = lo + j / 3 by omega, show (lo * 3 + j) % 3 = j % 3 by omega]
  have hlt : j / 3 < hi - lo := by
    rcases hx : ((L.take hi).drop lo)[j / 3]? with _ | x
    · rw [hx] at hj; cases hj
    · have := (List.getElem?_eq_some_iff.1 hx).1
      omega
  rw [List.getElem?_drop, List.getElem?_take_of_lt (by omega)] at hj
  exact hj

set_option maxRecDepth 100000 in
set_option maxHeartbeats 8000000 in
theorem ref_take (b B : Nat) (v : Value) (R : Rw) (i : Nat) (t : Tr) (w : World) (hW : RefW b B v R w) (hBw : B ≤ w.heap.size) (hL : R.L.length ≤ 100000) (ht : R.L[i]? = some t) :
    Calls Try.prog 66 #[.pointer (some ⟨b, 0, none⟩), .int .i64 i] w (fun e w' => e = .returned (.agg #[.int .i64 t.id, .int .i64 t.a, .string t.v]) ∧ ∃ v', RefW b B v' ⟨R.now, R.next, R.L.eraseIdx i⟩ w' ∧ Keeps (b :: rowB v) w w' ∧ ∀ g ∈ rowB v', w.heap.size ≤ g) := by
  obtain ⟨ti0, hti, hz0, hz1, hz2⟩ := info_parts info_tr
  obtain ⟨now, next, L⟩ := R
  obtain ⟨hb, hown⟩ := hW
  simp only at hb hown hL ht ⊢
  have lb : b < w.heap.size := (Array.getElem?_eq_some_iff.1 hb).1
  have hcb := fun j => cell_of_row w _ j _ _ _ hb
  have hi : i < L.length := (List.getElem?_eq_some_iff.1 ht).1
  obtain ⟨g, off, cap, rfl, hcap, hgB, _, hcell⟩ := hown.slice (by omega)
  obtain ⟨x0, x1, x2⟩ := tr_cells hcell ht
  have lg : g < w.heap.size := World.block_lt_of_cell? w _ x0
  have i0 : (0 : Int) ≤ (i : Int) := by omega
  have i1 : (i : Int) < (L.length : Int) := by omega
  have HHB := Lib.hid hb
  have HO := Lib.hid hown
  have HC := Lib.hid hcell
  clear hb hown hcell ht
  go_enter Try.func66, Try.ntmps66
  go_upto_region 1 with fail
  go_wp2_with (refine wpList_store_row rfl 72 _ _ rfl (w.heap.size + 1) _ rfl rfl 72 _ (heap_new (by simp)) (info_tr3 _ _ _) rfl (by simp [Value.oneCell']) (unHd ?_))
  have eX : Ext w (((w.alloc (.cells #[.int .i64 0, .int .i64 0, .string { data := #[] }] 72)).alloc (.cells #[.int .i64 0, .int .i64 0, .string { data := #[] }] 72)).setRow (w.heap.size + 1) #[.int .i64 t.id, .int .i64 t.a, .string t.v]) := (((Ext.refl w).alloc _).alloc _).setRow (Nat.le_succ _) _
  have eT := setRow_heap _ _ _ #[.int .i64 t.id, .int .i64 t.a, .string t.v] _ _ (heap_new (w := w.alloc (.cells #[.int .i64 0, .int .i64 0, .string { data := #[] }] 72)) (o := .cells #[.int .i64 0, .int .i64 0, .string { data := #[] }] 72) (G := w.heap.size + 1) (by simp))
  have eZ : (((w.alloc (.cells #[.int .i64 0, .int .i64 0, .string { data := #[] }] 72)).alloc (.cells #[.int .i64 0, .int .i64 0, .string { data := #[] }] 72)).setRow (w.heap.size + 1) #[.int .i64 t.id, .int .i64 t.a, .string t.v]).heap[w.heap.size]? = some (.cells #[.int .i64 0, .int .i64 0, .string { data := #[] }] 72 (0, 0)) := (setRow_other _ _ _ _ (by omega)).trans (heap_ext (heap_new rfl) ((Ext.refl _).alloc _))
  generalize World.setRow _ _ _ = w1 at eX eT eZ ⊢
  have HX1 := Lib.hid eX
  have HT1 := Lib.hid eT
  have HZ1 := Lib.hid eZ
  have HB1 := Lib.hid (heap_ext HHB.out eX)
  have HO1 := Lib.hid (HO.out.ext eX)
  have HC1 : Hid (∀ j u, (L.flatMap Tr.cs)[j]? = some u → w1.cell? ⟨g, off + j, none⟩ = some u) := Lib.hid fun j u hj => cell_keep (HC.out j u hj) eX
  have lg1 : g < w1.heap.size := Nat.lt_of_lt_of_le lg eX.size
  clear eX eT eZ x0 x1 x2 hcb HHB HC
  have lb1 : b < w1.heap.size := (Array.getElem?_eq_some_iff.1 HB1.out).1
  have hcb1 := fun j => cell_of_row w1 _ j _ _ _ HB1.out
  have c0 : (0 : Int) ≤ (cap : Int) := by omega
  have c1 : (i : Int) ≤ (cap : Int) := by omega
  have c2 : (i : Int) + 1 ≤ (cap : Int) := by omega
  have c3 : (i : Int) + 1 ≤ (L.length : Int) := by omega
  have c4 : (L.length : Int) ≤ (cap : Int) := by omega
  have c5 : (0 : Int) ≤ (i : Int) + 1 := by omega
  unfold Hd2
  go_upto_region 2 with fail
  go_cut [] (fun wx => Hid ((∃ v', RefW b B v' ⟨now, next, L.eraseIdx i⟩ wx ∧ Keeps (b :: rowB (.slice (some ⟨g, off, none⟩) L.length cap)) w wx ∧ ∀ k ∈ rowB v', w.heap.size + 1 < k) ∧ wx.heap[w.heap.size]? = some (.cells #[.int .i64 0, .int .i64 0, .string { data := #[] }] 72 (0, 0)) ∧ wx.heap[w.heap.size + 1]? = some (.cells #[.int .i64 t.id, .int .i64 t.a, .string t.v] 72 (0, 0))))
  case first =>
    by_cases hce : cap = i + 1
    · subst hce
      refine wp_region_late (af := ?af1) [true, false, true, true, true, true, true, true, false, true, true, true, true, true, true, true, false, false, false, false] [false, false, false, false, false, false, false, false, false, false, false, false, false, false, false, false, false, true, true, true] 33 (Ext w1) (by kernel_rfl) rfl (by kernel_rfl) (fun _ _ h e => Ext.trans h e) (Ext.refl _).drew ?q ?r
      case q =>
        intro w' hw'
        obtain ⟨y, rfl⟩ := ext_of hw'
        simp only [pickT, if_true, if_false, Bool.false_eq_true]
        repeat (go_big_quiet_step (fail))
        exact rfl
      case r =>
        simp only [pickN, if_true, if_false, Bool.false_eq_true]
        intro y1
        have e1 : Ext w1 y1.val := (Ext.refl _).drew.val y1
        go_wp2_with fail
        refine ⟨by intros; exact e1.alloc _, ?_⟩
        intro y2
        have e2 : Ext w1 y2.val := (e1.alloc _).val y2
        go_wp2_with (at_builtin; refine unHd ?_)
        unfold Hd2
        refine wpList_app4 w1.heap.size 54 72 ti0 _ 3 32 Try.underlying54 hti hz0 hz1 hz2 rfl (by decide) rfl _ _ rfl (.slice (some ⟨y1.val.heap.size, 0, none⟩) 0 0) 0 [] rfl (own_ext (World.ownsRow_made y1.val #[] 0 e1.size (by unfold maxLen; omega) rfl) y2.ext) e2.size _ i ((L.take i).flatMap Tr.cs) rfl (by have := row_part (fun j u hj => cell_keep (HC1.out j u hj) e2) 0 i (i + 1) (by omega) (by omega) (by unfold maxLen; omega); simp only [Nat.zero_mul, Nat.add_zero, Nat.sub_zero, List.drop_zero] at this; exact this) (.inr ⟨_, _, _, rfl⟩) (tr_one _) (by unfold maxLen; omega) (by omega) ?_
        intro v3 w3 own3 b3 g3
        have e3 : Ext w1 w3 := Ext.trans' e2 b3
        refine ⟨by intros; exact e3, ?_⟩
        intro y3
        have e3' : Ext w1 y3.val := e3.val y3
        go_wp2_with (at_builtin; refine unHd ?_)
        unfold Hd2
        refine wpList_app4 w1.heap.size 54 72 ti0 _ 3 32 Try.underlying54 hti hz0 hz1 hz2 rfl (by decide) rfl _ _ rfl v3 (0 + i) _ rfl (own_ext own3 y3.ext) e3'.size _ (L.length - (i + 1)) ((L.drop (i + 1)).flatMap Tr.cs) rfl ⟨by rw [tr_flat, List.length_drop], .inl ⟨by omega, some ⟨g, off, none⟩, 0, rfl⟩⟩ (.inr ⟨_, _, _, rfl⟩) (tr_one _) (by unfold maxLen; omega) (by omega) ?_
        intro v4 w4 own4 b4 g4
        have e4 : Ext w1 w4 := Ext.trans' e3' b4
        refine ⟨by intros; exact e4, ?_⟩
        intro y4
        go_wp2_with fail
        try refine ⟨fun h => absurd h (by decide), ?_⟩
        intro y5
        go_wp2_with fail
        try refine ⟨fun h => absurd h (by decide), ?_⟩
        intro y6
        have e6 : Ext w1 y6.val := ((e4.val y4).val y5).val y6
        have hb6 := heap_ext HB1.out e6
        have o6 := own_ext own4 ((y4.ext.trans y5.ext).trans y6.ext)
        have HT6 := Lib.hid (heap_ext HT1.out e6)
        have HZ6 := Lib.hid (heap_ext HZ1.out e6)
        have hcb6 := fun j => cell_of_row y6.val _ j _ _ _ hb6
        have hfb6 := fun j => frozen_of_row y6.val _ j _ _ hb6
        obtain ⟨a4, n4, k4, rfl⟩ : ∃ a n c, v4 = .slice a n c := by
          rcases own4.2 with ⟨h, _⟩ | ⟨_, _, _, h, _⟩ <;> exact ⟨_, _, _, h⟩
        generalize y6.val = w6 at e6 hb6 o6 HT6 HZ6 hcb6 hfb6 ⊢
        have HB6 := Lib.hid hb6
        clear hb6
        go_wp2_with fail
        try refine ⟨fun h => absurd h (by decide), ?_⟩
        intro y7
        go_wp2_with fail
        go_meet
        have hsz : w1.heap.size ≤ w6.heap.size := e6.size
        have hw1 : w.heap.size + 1 < w1.heap.size := (Array.getElem?_eq_some_iff.1 HT1.out).1
        refine Lib.hid ⟨⟨.slice a4 n4 k4, ⟨by simpa using heap_ext (setCell_row HB6.out _) y7.ext, ?_⟩, ?_, fun k hk => ?_⟩, ?_, ?_⟩
        · have := own_ext (own_same o6 (fun k hk _ => cell_other (o := 2) (v := .slice a4 n4 k4) (show k ≠ b by omega))) y7.ext
          have e : (L.eraseIdx i).flatMap Tr.cs = [] ++ (L.take i).flatMap Tr.cs ++ (L.drop (i + 1)).flatMap Tr.cs := by rw [List.eraseIdx_eq_take_drop_succ, List.flatMap_append]; rfl
          have el : (L.eraseIdx i).length = 0 + i + (L.length - (i + 1)) := by rw [List.length_eraseIdx, if_pos hi]; omega
          refine OwnL.of ?_
          simp only
          rw [e, el]
          exact own_base this (by omega)
        · exact ((((Keeps.refl _ w).ext HX1.out).ext e6).setCell (.inl (.head _)) 2 _).ext y7.ext
        · have := (o6.lt k (by unfold rowB at hk; split at hk <;> simp_all)).1
          omega
        · exact heap_ext ((cell_other (by show w.heap.size ≠ b; omega)).trans HZ6.out) y7.ext
        · exact heap_ext ((cell_other (by show w.heap.size + 1 ≠ b; omega)).trans HT6.out) y7.ext
    · have hce2 : ¬ cap = i + 1 := hce
      refine wp_region_late (af := ?af2) [true, false, true, true, true, true, true, true, false, true, true, true, true, true, true, true, false, false, false, false] [false, false, false, false, false, false, false, false, false, false, false, false, false, false, false, false, false, true, true, true] 33 (Ext w1) (by kernel_rfl) rfl (by kernel_rfl) (fun _ _ h e => Ext.trans h e) (Ext.refl _).drew ?q ?r
      case q =>
        intro w' hw'
        obtain ⟨y, rfl⟩ := ext_of hw'
        simp only [pickT, if_true, if_false, Bool.false_eq_true]
        repeat (go_big_quiet_step (fail))
        exact rfl
      case r =>
        simp only [pickN, if_true, if_false, Bool.false_eq_true]
        intro y1
        have e1 : Ext w1 y1.val := (Ext.refl _).drew.val y1
        go_wp2_with fail
        refine ⟨by intros; exact e1.alloc _, ?_⟩
        intro y2
        have e2 : Ext w1 y2.val := (e1.alloc _).val y2
        go_wp2_with (at_builtin; refine unHd ?_)
        unfold Hd2
        refine wpList_app4 w1.heap.size 54 72 ti0 _ 3 32 Try.underlying54 hti hz0 hz1 hz2 rfl (by decide) rfl _ _ rfl (.slice (some ⟨y1.val.heap.size, 0, none⟩) 0 0) 0 [] rfl (own_ext (World.ownsRow_made y1.val #[] 0 e1.size (by unfold maxLen; omega) rfl) y2.ext) e2.size _ i ((L.take i).flatMap Tr.cs) rfl (by have := row_part (fun j u hj => cell_keep (HC1.out j u hj) e2) 0 i cap (by omega) (by omega) (by unfold maxLen; omega); simp only [Nat.zero_mul, Nat.add_zero, Nat.sub_zero, List.drop_zero] at this; exact this) (.inr ⟨_, _, _, rfl⟩) (tr_one _) (by unfold maxLen; omega) (by omega) ?_
        intro v3 w3 own3 b3 g3
        have e3 : Ext w1 w3 := Ext.trans' e2 b3
        refine ⟨by intros; exact e3, ?_⟩
        intro y3
        have e3' : Ext w1 y3.val := e3.val y3
        go_wp2_with (at_builtin; refine unHd ?_)
        unfold Hd2
        refine wpList_app4 w1.heap.size 54 72 ti0 _ 3 32 Try.underlying54 hti hz0 hz1 hz2 rfl (by decide) rfl _ _ rfl v3 (0 + i) _ rfl (own_ext own3 y3.ext) e3'.size _ (L.length - (i + 1)) ((L.drop (i + 1)).flatMap Tr.cs) rfl (by have := row_part (fun j u hj => cell_keep (HC1.out j u hj) e3') (i + 1) L.length (cap - (i + 1)) (by omega) (by omega) (by unfold maxLen; omega); rw [List.take_length] at this; exact this) (.inr ⟨_, _, _, rfl⟩) (tr_one _) (by unfold maxLen; omega) (by omega) ?_
        intro v4 w4 own4 b4 g4
        have e4 : Ext w1 w4 := Ext.trans' e3' b4
        refine ⟨by intros; exact e4, ?_⟩
        intro y4
        go_wp2_with fail
        try refine ⟨fun h => absurd h (by decide), ?_⟩
        intro y5
        go_wp2_with fail
        try refine ⟨fun h => absurd h (by decide), ?_⟩
        intro y6
        have e6 : Ext w1 y6.val := ((e4.val y4).val y5).val y6
        have hb6 := heap_ext HB1.out e6
        have o6 := own_ext own4 ((y4.ext.trans y5.ext).trans y6.ext)
        have HT6 := Lib.hid (heap_ext HT1.out e6)
        have HZ6 := Lib.hid (heap_ext HZ1.out e6)
        have hcb6 := fun j => cell_of_row y6.val _ j _ _ _ hb6
        have hfb6 := fun j => frozen_of_row y6.val _ j _ _ hb6
        obtain ⟨a4, n4, k4, rfl⟩ : ∃ a n c, v4 = .slice a n c := by
          rcases own4.2 with ⟨h, _⟩ | ⟨_, _, _, h, _⟩ <;> exact ⟨_, _, _, h⟩
        generalize y6.val = w6 at e6 hb6 o6 HT6 HZ6 hcb6 hfb6 ⊢
        have HB6 := Lib.hid hb6
        clear hb6
        go_wp2_with fail
        try refine ⟨fun h => absurd h (by decide), ?_⟩
        intro y7
        go_wp2_with fail
        go_meet
        have hsz : w1.heap.size ≤ w6.heap.size := e6.size
        have hw1 : w.heap.size + 1 < w1.heap.size := (Array.getElem?_eq_some_iff.1 HT1.out).1
        refine Lib.hid ⟨⟨.slice a4 n4 k4, ⟨by simpa using heap_ext (setCell_row HB6.out _) y7.ext, ?_⟩, ?_, fun k hk => ?_⟩, ?_, ?_⟩
        · have := own_ext (own_same o6 (fun k hk _ => cell_other (o := 2) (v := .slice a4 n4 k4) (show k ≠ b by omega))) y7.ext
          have e : (L.eraseIdx i).flatMap Tr.cs = [] ++ (L.take i).flatMap Tr.cs ++ (L.drop (i + 1)).flatMap Tr.cs := by rw [List.eraseIdx_eq_take_drop_succ, List.flatMap_append]; rfl
          have el : (L.eraseIdx i).length = 0 + i + (L.length - (i + 1)) := by rw [List.length_eraseIdx, if_pos hi]; omega
          refine OwnL.of ?_
          simp only
          rw [e, el]
          exact own_base this (by omega)
        · exact ((((Keeps.refl _ w).ext HX1.out).ext e6).setCell (.inl (.head _)) 2 _).ext y7.ext
        · have := (o6.lt k (by unfold rowB at hk; split at hk <;> simp_all)).1
          omega
        · exact heap_ext ((cell_other (by show w.heap.size ≠ b; omega)).trans HZ6.out) y7.ext
        · exact heap_ext ((cell_other (by show w.heap.size + 1 ≠ b; omega)).trans HT6.out) y7.ext
  case rest =>
    obtain ⟨⟨v', hW2, hk2, hr2⟩, hz2, ht2⟩ := hcut.out
    have HW2 := Lib.hid hW2
    have HK2 := Lib.hid hk2
    have HR2 := Lib.hid hr2
    have HZ2 := Lib.hid hz2
    clear hcut hcb1 lb1 hW2 hk2 hr2 hz2 HX1 HT1 HZ1 HB1 HO1 HC1 lg1
    go_wp2_with (first | (refine wpList_load_row rfl 72 _ rfl _ rfl _ _ (0, 0) _ ht2 Try.underlying72 rfl (info_tr3 _ _ _) ?_) | (refine wpList_store_row rfl 72 _ _ rfl w.heap.size _ rfl rfl 72 _ HZ2.out (info_tr3 _ _ _) rfl (by simp [Value.oneCell']) (unHd ?_)))
    have eT := setRow_heap _ _ _ #[.int .i64 t.id, .int .i64 t.a, .string t.v] _ _ HZ2.out
    have hW3 : RefW b B v' ⟨now, next, L.eraseIdx i⟩ (wc.setRow w.heap.size #[.int .i64 t.id, .int .i64 t.a, .string t.v]) := ⟨(setRow_other _ _ _ _ (by omega)).trans HW2.out.1, HW2.out.2.rowB fun k hk => setRow_other _ _ _ _ (by have := HR2.out k hk; omega)⟩
    have k3 := HK2.out.setRow (g := w.heap.size) (.inr (Nat.le_refl _)) #[.int .i64 t.id, .int .i64 t.a, .string t.v]
    have HR3 : ∀ k ∈ rowB v', w.heap.size ≤ k := fun k hk => by have := HR2.out k hk; omega
    have HRR := Lib.hid HR3
    clear HR3
    generalize World.setRow _ _ _ = w3 at eT hW3 k3 ⊢
    have HW3 := Lib.hid hW3
    have HK3 := Lib.hid k3
    clear hW3 k3 ht2
    unfold Hd2
    go_wp2_with fail
    refine bodyPost_ret (results_cell_row rfl _ _ _ 72 _ (0, 0) _ rfl eT Try.underlying72 rfl (info_tr3 _ _ _)) rfl ?_
    exact ⟨rfl, v', HW3.out, HK3.out, HRR.out⟩
end Go.Proofs.Ytibdplfdmncgiaa

/-
  Walk: the states that come next. No condition.
-/
import Derived.Test.YtnfehccnofhmnaaMN6
import Derived.Laws.AppendOwnNone
set_option linter.all false
namespace Go.Proofs.Ytnfehccnofhmnaa
open Go.RowKit
attribute [local go_sem ↓] eql_lEq eql_sEq eql_eEq eql_oEq neq_lEq neq_sEq neq_eEq neq_oEq
attribute [local go_sem] ExtOf.cell ExtOf.frozen ExtOf.lt ExtOf.le
attribute [local go_sem high] ExtOf.cell2 ExtOf.frozen2 ExtOf.lt2 ExtOf.cell3 ExtOf.frozen3 ExtOf.lt3 ExtOf.cellB ExtOf.frozenB ExtOf.cellX ExtOf.frozenX ExtOf.cellX' ExtOf.frozenX'
attribute [local go_sem] BelOf.cell BelOf.frozen BelOf.lt
theorem ev_cells {w : World} {g : Nat} {L : List Ev} {k : Nat} {x : Ev} (h : ∀ j u, (L.flatMap Ev.cs)[j]? = some u → w.cell? ⟨g, j, none⟩ = some u) (hx : L[k]? = some x) :
    w.cell? ⟨g, k * 8, none⟩ = some (.int .i64 x.k) ∧ w.cell? ⟨g, k * 8 + 1, none⟩ = some (.int .u64 x.c) ∧ w.cell? ⟨g, k * 8 + 2, none⟩ = some (.string x.t) ∧ w.cell? ⟨g, k * 8 + 3, none⟩ = some (.int .i64 x.l.k) ∧ w.cell? ⟨g, k * 8 + 4, none⟩ = some (.int .i64 x.l.f) ∧ w.cell? ⟨g, k * 8 + 5, none⟩ = some (.int .u64 x.l.c) ∧ w.cell? ⟨g, k * 8 + 6, none⟩ = some (.string x.l.t) ∧ w.cell? ⟨g, k * 8 + 7, none⟩ = some (.bool x.l.b) := by
  have f := fun j hj => flat_get Ev.cs 8 (fun _ => rfl) L k x hx j hj
  exact ⟨h _ _ (f 0 (by omega)), h _ _ (f 1 (by omega)), h _ _ (f 2 (by omega)), h _ _ (f 3 (by omega)), h _ _ (f 4 (by omega)), h _ _ (f 5 (by omega)), h _ _ (f 6 (by omega)), h _ _ (f 7 (by omega))⟩
theorem st_cells {w : World} {g : Nat} {L : List St} {k : Nat} {x : St} (h : ∀ j u, (L.flatMap St.cs)[j]? = some u → w.cell? ⟨g, j, none⟩ = some u) (hx : L[k]? = some x) :
    w.cell? ⟨g, k * 9, none⟩ = some (.int .i64 x.r) ∧ w.cell? ⟨g, k * 9 + 1, none⟩ = some (.int .u64 x.c) ∧ w.cell? ⟨g, k * 9 + 2, none⟩ = some (.string x.t) ∧ w.cell? ⟨g, k * 9 + 3, none⟩ = some (.int .i64 x.ph) ∧ w.cell? ⟨g, k * 9 + 4, none⟩ = some (.int .i64 x.p.k) ∧ w.cell? ⟨g, k * 9 + 5, none⟩ = some (.int .i64 x.p.f) ∧ w.cell? ⟨g, k * 9 + 6, none⟩ = some (.int .u64 x.p.c) ∧ w.cell? ⟨g, k * 9 + 7, none⟩ = some (.string x.p.t) ∧ w.cell? ⟨g, k * 9 + 8, none⟩ = some (.bool x.p.b) := by
  have f := fun j hj => flat_get St.cs 9 (fun _ => rfl) L k x hx j hj
  exact ⟨h _ _ (f 0 (by omega)), h _ _ (f 1 (by omega)), h _ _ (f 2 (by omega)), h _ _ (f 3 (by omega)), h _ _ (f 4 (by omega)), h _ _ (f 5 (by omega)), h _ _ (f 6 (by omega)), h _ _ (f 7 (by omega)), h _ _ (f 8 (by omega))⟩
theorem ou_cells {w : World} {g : Nat} {L : List Ou} {k : Nat} {x : Ou} (h : ∀ j u, (L.flatMap Ou.cs)[j]? = some u → w.cell? ⟨g, j, none⟩ = some u) (hx : L[k]? = some x) :
    w.cell? ⟨g, k * 6, none⟩ = some (.int .i64 x.to) ∧ w.cell? ⟨g, k * 6 + 1, none⟩ = some (.int .i64 x.l.k) ∧ w.cell? ⟨g, k * 6 + 2, none⟩ = some (.int .i64 x.l.f) ∧ w.cell? ⟨g, k * 6 + 3, none⟩ = some (.int .u64 x.l.c) ∧ w.cell? ⟨g, k * 6 + 4, none⟩ = some (.string x.l.t) ∧ w.cell? ⟨g, k * 6 + 5, none⟩ = some (.bool x.l.b) := by
  have f := fun j hj => flat_get Ou.cs 6 (fun _ => rfl) L k x hx j hj
  exact ⟨h _ _ (f 0 (by omega)), h _ _ (f 1 (by omega)), h _ _ (f 2 (by omega)), h _ _ (f 3 (by omega)), h _ _ (f 4 (by omega)), h _ _ (f 5 (by omega))⟩

def stEq (a b : St) : Bool := sEq a.r a.c a.t a.ph a.p.k a.p.f a.p.c a.p.t a.p.b b.r b.c b.t b.ph b.p.k b.p.f b.p.c b.p.t b.p.b
/-- One event more. -/
def nextO (s : St) (acc : List St) (e : Ev) : List St :=
  if stEq (stepS s e).1 s || acc.any (fun x => stEq x (stepS s e).1) then acc else acc ++ [(stepS s e).1]
def nextS (s : St) (es : List Ev) : List St := es.foldl (nextO s) []

theorem next_len (s : St) : ∀ (es : List Ev) (acc : List St), (es.foldl (nextO s) acc).length ≤ acc.length + es.length
  | [], acc => by simp
  | e :: es, acc => by
    have := next_len s es (nextO s acc e)
    have h2 : (nextO s acc e).length ≤ acc.length + 1 := by unfold nextO; split <;> simp
    simp only [List.foldl_cons, List.length_cons]
    omega

theorem fold_take {α β : Type} (f : β → α → β) (b : β) {L : List α} {n : Nat} {x : α} (h : L[n]? = some x) : (L.take (n + 1)).foldl f b = f ((L.take n).foldl f b) x := by
  rw [List.take_add_one, h]
  simp

/-- A step, its results written out. -/
def SteppedT (w : World) (r : St × List Ou) (en : Ending) (w' : World) : Prop :=
  ∃ (T : St) (O : List Ou) (v : Value), r = (T, O) ∧ en = .returned (.tuple #[.agg #[.int .i64 T.r, .int .u64 T.c, .string T.t, .int .i64 T.ph, .int .i64 T.p.k, .int .i64 T.p.f, .int .u64 T.p.c, .string T.p.t, .bool T.p.b], v]) ∧ w'.ownsRow w.heap.size 45 6 v O.length (O.flatMap Ou.cs) ∧ Ext w w'

theorem or_stepT (r c : Int) (t : ByteArray) (ph k f c2 : Int) (t2 : ByteArray) (fk : Bool) (ek ec : Int) (et : ByteArray) (lk lf lc : Int) (lt : ByteArray) (lb : Bool) (w : World) :
    Calls Try.prog 10 #[.agg #[.int .i64 r, .int .u64 c, .string t, .int .i64 ph, .int .i64 k, .int .i64 f, .int .u64 c2, .string t2, .bool fk], .agg #[.int .i64 ek, .int .u64 ec, .string et, .int .i64 lk, .int .i64 lf, .int .u64 lc, .string lt, .bool lb]] w (SteppedT w (stepS ⟨r, c, t, ph, ⟨k, f, c2, t2, fk⟩⟩ ⟨ek, ec, et, ⟨lk, lf, lc, lt, lb⟩⟩)) :=
  (or_step r c t ph k f c2 t2 fk ek ec et lk lf lc lt lb w).mono fun e w' ⟨v, he, hv, hx⟩ => ⟨_, _, v, rfl, he, hv, hx⟩

theorem any_take {α : Type} (p : α → Bool) {L : List α} {m : Nat} {u : α} (h : L[m]? = some u) : (L.take (m + 1)).any p = ((L.take m).any p || p u) := by
  rw [List.take_add_one, h]
  simp

theorem next_new {s : St} {es : List Ev} {n : Nat} {x : Ev} {acc : List St} {T : St} {O : List Ou} (hx : es[n]? = some x) (ha : nextS s (es.take n) = acc) (ht : stepS s x = (T, O))
    (hb : (stEq T s || acc.any (fun x => stEq x T)) = false) : nextS s (es.take (n + 1)) = acc ++ [T] := by
  unfold nextS at *
  rw [fold_take _ _ hx, ha]
  unfold nextO
  simp only [ht, hb]
  rfl
theorem next_old {s : St} {es : List Ev} {n : Nat} {x : Ev} {acc : List St} {T : St} {O : List Ou} (hx : es[n]? = some x) (ha : nextS s (es.take n) = acc) (ht : stepS s x = (T, O))
    (hb : (stEq T s || acc.any (fun x => stEq x T)) = true) : nextS s (es.take (n + 1)) = acc := by
  unfold nextS at *
  rw [fold_take _ _ hx, ha]
  unfold nextO
  simp only [ht, hb, if_true]

theorem info_state3 : (Try.prog.info? 26).map (fun i => (i.zero, i.size, i.bytes)) = some (some (.agg #[.int .i64 0, .int .u64 0, .string { data := #[] }, .int .i64 0, .int .i64 0, .int .i64 0, .int .u64 0, .string { data := #[] }, .bool false]), 9, 88) := by kernel_rfl

set_option maxHeartbeats 1600000 in
theorem or_nextL (r c : Int) (t : ByteArray) (ph k f c2 : Int) (t2 : ByteArray) (fk : Bool) (w : World) (es : List Ev) (hes : es.length ≤ 3)
    (hev : ∀ w, Calls Try.prog 20 #[.agg #[.int .i64 r, .int .u64 c, .string t, .int .i64 ph, .int .i64 k, .int .i64 f, .int .u64 c2, .string t2, .bool fk]] w (Made w 28 8 es.length (es.flatMap Ev.cs))) :
    Calls Try.prog 23 #[.agg #[.int .i64 r, .int .u64 c, .string t, .int .i64 ph, .int .i64 k, .int .i64 f, .int .u64 c2, .string t2, .bool fk]] w (Made w 26 9 (nextS ⟨r, c, t, ph, ⟨k, f, c2, t2, fk⟩⟩ es).length ((nextS ⟨r, c, t, ph, ⟨k, f, c2, t2, fk⟩⟩ es).flatMap St.cs)) := by
  obtain ⟨i0, hi, hz0, hz1, hz2⟩ := info_parts info_state3
  have HE := Lib.hid hev
  clear hev
  go_enter Try.func23, Try.ntmps23
  go_wp2_with (go_at_call 20; refine (HE.out _).mono ?_; rintro e w2 ⟨v, rfl, hv, hx2⟩; obtain ⟨a, cap, rfl, hm, hvw⟩ := own_view hv; obtain ⟨x2, rfl⟩ := ext_of hx2; clear hx2 hv)
  refine wp_forget (fun w' => w'.heap[w.heap.size]? = some (.cells #[.int .i64 r, .int .u64 c, .string t, .int .i64 ph, .int .i64 k, .int .i64 f, .int .u64 c2, .string t2, .bool fk] 26 (0, 0)) ∧ Ext w w' ∧
      (0 < es.length → ∃ g, a = some ⟨g, 0, none⟩ ∧ g < w'.heap.size ∧ ∀ j u, (es.flatMap Ev.cs)[j]? = some u → w'.cell? ⟨g, j, none⟩ = some u)) ⟨?f1, ?f4, ?f5⟩ ?fr
  case f1 => exact heap_ext (heap_new rfl) x2.ext
  case f4 => exact ((Ext.refl _).alloc _).val x2
  case f5 => exact fun h => let ⟨g, ha, _, hg, hcell⟩ := hvw h; ⟨g, ha, hg, hcell⟩
  clear hvw x2
  rintro W3 ⟨h3a, h3x, hvw⟩
  have HV := Lib.hid hvw
  clear hvw
  have hc3 := fun j => cell_of_row W3 _ j _ _ _ h3a
  have hl3 : w.heap.size < W3.heap.size := (Array.getElem?_eq_some_iff.1 h3a).1
  have H3a := Lib.hid h3a
  clear h3a
  unfold maxLen at hm
  go_loopw [3, 14] (fun l i wr => ∃ (n : Nat) (y : ExtOf W3), n ≤ es.length ∧ i = .int .i64 n ∧ wr = y.val ∧ y.val.ownsRow W3.heap.size 26 9 l (nextS ⟨r, c, t, ph, ⟨k, f, c2, t2, fk⟩⟩ (es.take n)).length ((nextS ⟨r, c, t, ph, ⟨k, f, c2, t2, fk⟩⟩ (es.take n)).flatMap St.cs)) (fun _ i _ => es.length - (intOf i).toNat)
  case atStart => exact ⟨0, ⟨W3, Ext.refl _⟩, Nat.zero_le _, rfl, rfl, World.ownsRow_nil _ _ _ _⟩
  case round =>
    obtain ⟨n, y, hn, rfl, rfl, hown⟩ := hrel
    by_cases hlt : n < es.length
    · obtain ⟨g, rfl, hg, hcell⟩ := HV.out (by omega)
      obtain ⟨x, hx⟩ : ∃ x, es[n]? = some x := ⟨_, List.getElem?_eq_getElem hlt⟩
      obtain ⟨q0, q1, q2, q3, q4, q5, q6, q7⟩ := ev_cells hcell hx
      have HX := Lib.hid hx
      clear hx hcell
      have hacc : (nextS ⟨r, c, t, ph, ⟨k, f, c2, t2, fk⟩⟩ (es.take n)).length ≤ n := by have := next_len ⟨r, c, t, ph, ⟨k, f, c2, t2, fk⟩⟩ (es.take n) []; simp at this; unfold nextS; omega
      generalize hA : nextS ⟨r, c, t, ph, ⟨k, f, c2, t2, fk⟩⟩ (es.take n) = acc at hown hacc
      have HA := Lib.hid hA
      clear hA
      obtain ⟨a2, cap2, rfl, hm2, hvw2⟩ := own_view hown
      have HO := Lib.hid hown
      have HV2 := Lib.hid hvw2
      clear hown hvw2
      go_wp2_with (go_at_call 10; refine (or_stepT _ _ _ _ _ _ _ _ _ _ _ _ _ _ _ _ _ _).mono ?_; rintro e w4 ⟨T, O, v, hT, rfl, hv, hx4⟩; have hy4 := Lib.hid ((y.ext.alloc _).trans hx4); have f4 := heap_ext H3a.out hy4.out; have hc4 := fun j => cell_of_row w4 _ j _ _ _ f4; have hl4 : w.heap.size < w4.heap.size := (Array.getElem?_eq_some_iff.1 f4).1; have HO4 := Lib.hid (own_ext HO.out (((Ext.refl y.val).alloc _).trans hx4)); have HTS := Lib.hid hT; clear hx4 hv hT f4 hc3)
      refine wp_forget (fun w' => w'.heap[w.heap.size]? = some (.cells #[.int .i64 r, .int .u64 c, .string t, .int .i64 ph, .int .i64 k, .int .i64 f, .int .u64 c2, .string t2, .bool fk] 26 (0, 0)) ∧ w'.heap[w4.heap.size]? = some (.cells #[.int .i64 T.r, .int .u64 T.c, .string T.t, .int .i64 T.ph, .int .i64 T.p.k, .int .i64 T.p.f, .int .u64 T.p.c, .string T.p.t, .bool T.p.b] 26 (0, 0)) ∧ Ext W3 w' ∧ w'.ownsRow W3.heap.size 26 9 (.slice a2 acc.length cap2) acc.length (acc.flatMap St.cs)) ⟨?d1, ?d2, ?d3, ?d4⟩ ?dr
      case d1 => exact heap_ext (heap_ext H3a.out hy4.out) ((Ext.refl _).alloc _)
      case d2 => exact heap_new rfl
      case d3 => exact hy4.out.alloc _
      case d4 => exact own_ext HO4.out ((Ext.refl _).alloc _)
      clear hc4 q0 q1 q2 q3 q4 q5 q6 q7
      rintro W5 ⟨h5a, h5b, h5x, h5o⟩
      obtain ⟨_, _, e5, _, hv5⟩ := own_view h5o
      simp only [Value.slice.injEq] at e5
      obtain ⟨rfl, -, rfl⟩ := e5
      have hc5 := fun j => cell_of_row W5 _ j _ _ _ h5a
      have hd5 := fun j => cell_of_row W5 _ j _ _ _ h5b
      have hl5 : w.heap.size < W5.heap.size := (Array.getElem?_eq_some_iff.1 h5a).1
      have hm5 : w4.heap.size < W5.heap.size := (Array.getElem?_eq_some_iff.1 h5b).1
      have H5a := Lib.hid h5a
      have H5b := Lib.hid h5b
      have HV5 := Lib.hid hv5
      have H5o := Lib.hid h5o
      clear h5a h5b hv5 h5o hl3 HO HO4 HV2
      go_loopw [8, 29] (fun b i wr => ∃ (m : Nat) (z : ExtOf W5), m ≤ acc.length ∧ i = .int .i64 m ∧ wr = z.val ∧ b = .bool (stEq T ⟨r, c, t, ph, ⟨k, f, c2, t2, fk⟩⟩ || (acc.take m).any (fun x => stEq x T))) (fun _ i _ => acc.length - (intOf i).toNat)
      case atStart => exact ⟨0, ⟨W5, Ext.refl _⟩, Nat.zero_le _, rfl, rfl, by simp [stEq]⟩
      case round =>
        obtain ⟨m, z, hmn, rfl, rfl, rfl⟩ := hrel
        generalize hB : (stEq T ⟨r, c, t, ph, ⟨k, f, c2, t2, fk⟩⟩ || (acc.take m).any (fun x => stEq x T)) = B
        have HB := Lib.hid hB
        clear hB
        by_cases hlt2 : m < acc.length
        · obtain ⟨g2, rfl, hb2, hg2, hcell2⟩ := HV5.out (by omega)
          obtain ⟨u, hu⟩ : ∃ u, acc[m]? = some u := ⟨_, List.getElem?_eq_getElem hlt2⟩
          obtain ⟨p0, p1, p2, p3, p4, p5, p6, p7, p8⟩ := st_cells hcell2 hu
          have HU := Lib.hid hu
          clear hu hcell2
          cases B
          all_goals
            go_wp2_with fail
            go_roundw
            case rel => exact ⟨m + 1, ⟨_, z.ext.alloc _⟩, by omega, by go_num, rfl, by rw [any_take (fun x => stEq x T) HU.out, ← Bool.or_assoc, HB.out]; simp [stEq]⟩
            case measure => simp [intOf]; omega
        · obtain rfl : m = acc.length := by omega
          rw [List.take_length] at HB
          cases B
          · go_wp2_with (at_builtin; refine wpList_app W3.heap.size 40 26 i0 _ 9 88 Try.underlying40 hi hz0 hz1 hz2 rfl (by decide) rfl _ _ rfl _ _ _ rfl (own_ext H5o.out (z.ext.alloc _)) (Nat.le_trans (h5x.trans z.ext).size ((Ext.refl z.val).alloc _).size) z.val.heap.size 1 1 _ rfl (heap_new rfl) rfl (by simp [Value.oneCell']) (by unfold maxLen; omega) (by omega) ?_; intro v2 w2 hv2 hb2 _)
            go_roundw
            case rel =>
              refine ⟨n + 1, ⟨w2, ((h5x.trans z.ext).alloc _).trans' hb2⟩, by omega, by go_num, rfl, ?_⟩
              rw [next_new HX.out HA.out HTS.out HB.out]
              simpa [St.cs] using hv2
            case measure => simp [intOf]; omega
          · go_wp2_with fail
            go_roundw
            case rel =>
              refine ⟨n + 1, ⟨z.val, h5x.trans z.ext⟩, by omega, by go_num, rfl, ?_⟩
              rw [next_old HX.out HA.out HTS.out HB.out]
              exact own_ext H5o.out z.ext
            case measure => simp [intOf]; omega
    · obtain rfl : n = es.length := by omega
      go_wp2
      go_ret
      refine ⟨_, rfl, ?_, h3x.trans y.ext⟩
      rw [List.take_length] at hown
      exact own_base hown h3x.size

/-- A state that waits for nothing has no events. -/
theorem or_events (r c : Int) (t : ByteArray) (ph k f c2 : Int) (t2 : ByteArray) (fk : Bool) (w : World) :
    Calls Try.prog 20 #[.agg #[.int .i64 r, .int .u64 c, .string t, .int .i64 ph, .int .i64 k, .int .i64 f, .int .u64 c2, .string t2, .bool fk]] w (Made w 28 8 (evsS ⟨r, c, t, ph, ⟨k, f, c2, t2, fk⟩⟩).length ((evsS ⟨r, c, t, ph, ⟨k, f, c2, t2, fk⟩⟩).flatMap Ev.cs)) := by
  rcases hw : waitS ⟨r, c, t, ph, ⟨k, f, c2, t2, fk⟩⟩
  · have e : evsS ⟨r, c, t, ph, ⟨k, f, c2, t2, fk⟩⟩ = [] := by simp [evsS, hw]
    rw [e]
    clear e
    go_enter Try.func20, Try.ntmps20
    go_wp2_with (go_at_call 17; refine (or_waits _ _ _ _ _ _ _ _ _ _).mono ?_; rintro e w1 ⟨rfl, hx⟩; obtain ⟨x1, rfl⟩ := ext_of hx; clear hx)
    go_ret
    exact ⟨_, rfl, World.ownsRow_nil _ _ _ _, ((Ext.refl _).alloc _).val x1⟩
  · have e : evsS ⟨r, c, t, ph, ⟨k, f, c2, t2, fk⟩⟩ = (rowsS c t ph).map (evR c) := by simp [evsS, hw]
    rw [e, List.length_map]
    exact or_eventsW r c t ph k f c2 t2 fk w hw

theorem evs_len (s : St) : (evsS s).length ≤ 3 := by
  unfold evsS
  split
  · rw [List.length_map]; exact rows_len _ _ _
  · simp

theorem or_next (r c : Int) (t : ByteArray) (ph k f c2 : Int) (t2 : ByteArray) (fk : Bool) (w : World) :
    Calls Try.prog 23 #[.agg #[.int .i64 r, .int .u64 c, .string t, .int .i64 ph, .int .i64 k, .int .i64 f, .int .u64 c2, .string t2, .bool fk]] w (Made w 26 9 (nextS ⟨r, c, t, ph, ⟨k, f, c2, t2, fk⟩⟩ (evsS ⟨r, c, t, ph, ⟨k, f, c2, t2, fk⟩⟩)).length ((nextS ⟨r, c, t, ph, ⟨k, f, c2, t2, fk⟩⟩ (evsS ⟨r, c, t, ph, ⟨k, f, c2, t2, fk⟩⟩)).flatMap St.cs)) :=
  or_nextL r c t ph k f c2 t2 fk w (evsS ⟨r, c, t, ph, ⟨k, f, c2, t2, fk⟩⟩) (evs_len _) fun w => or_events r c t ph k f c2 t2 fk w
end Go.Proofs.Ytnfehccnofhmnaa

/-
  Walk: 'live' of the originator's statements. No condition.
-/
namespace Go.Proofs.Ytnfehccnofhmnaa
open Go.RowKit
attribute [local go_sem ↓] eql_lEq eql_sEq eql_eEq eql_oEq neq_lEq neq_sEq neq_eEq neq_oEq
attribute [local go_sem] ExtOf.cell ExtOf.frozen ExtOf.lt ExtOf.le
attribute [local go_sem high] ExtOf.cell2 ExtOf.frozen2 ExtOf.lt2 ExtOf.cell3 ExtOf.frozen3 ExtOf.lt3 ExtOf.cellB ExtOf.frozenB ExtOf.cellX ExtOf.frozenX ExtOf.cellX' ExtOf.frozenX'
attribute [local go_sem] BelOf.cell BelOf.frozen BelOf.lt

/-- A step that sends one letter. -/
theorem or_step1 (r c : Int) (t : ByteArray) (ph k f c2 : Int) (t2 : ByteArray) (fk : Bool) (ek ec : Int) (et : ByteArray) (lk lf lc : Int) (lt : ByteArray) (lb : Bool) (w : World) (T : St) (o : Ou) (h : stepS ⟨r, c, t, ph, ⟨k, f, c2, t2, fk⟩⟩ ⟨ek, ec, et, ⟨lk, lf, lc, lt, lb⟩⟩ = (T, [o])) :
    Calls Try.prog 10 #[.agg #[.int .i64 r, .int .u64 c, .string t, .int .i64 ph, .int .i64 k, .int .i64 f, .int .u64 c2, .string t2, .bool fk], .agg #[.int .i64 ek, .int .u64 ec, .string et, .int .i64 lk, .int .i64 lf, .int .u64 lc, .string lt, .bool lb]] w fun e w' => ∃ g cap, e = .returned (.tuple #[.agg #[.int .i64 T.r, .int .u64 T.c, .string T.t, .int .i64 T.ph, .int .i64 T.p.k, .int .i64 T.p.f, .int .u64 T.p.c, .string T.p.t, .bool T.p.b], .slice (some ⟨g, 0, none⟩) 1 cap]) ∧ g < w'.heap.size ∧
      w'.cell? ⟨g, 0, none⟩ = some (.int .i64 o.to) ∧ w'.cell? ⟨g, 1, none⟩ = some (.int .i64 o.l.k) ∧ Ext w w' :=
  (or_step r c t ph k f c2 t2 fk ek ec et lk lf lc lt lb w).mono fun e w' ⟨v, he, hv, hx⟩ => by
    rw [h] at he hv
    obtain ⟨a, cap, rfl, _, hvw⟩ := own_view hv
    obtain ⟨g, rfl, _, hg, hc⟩ := hvw (by simp)
    exact ⟨g, cap, he, hg, hc 0 _ rfl, hc 1 _ rfl, hx⟩
/-- A step that sends nothing. -/
theorem or_stepN (r c : Int) (t : ByteArray) (ph k f c2 : Int) (t2 : ByteArray) (fk : Bool) (ek ec : Int) (et : ByteArray) (lk lf lc : Int) (lt : ByteArray) (lb : Bool) (w : World) (T : St) (h : stepS ⟨r, c, t, ph, ⟨k, f, c2, t2, fk⟩⟩ ⟨ek, ec, et, ⟨lk, lf, lc, lt, lb⟩⟩ = (T, [])) :
    Calls Try.prog 10 #[.agg #[.int .i64 r, .int .u64 c, .string t, .int .i64 ph, .int .i64 k, .int .i64 f, .int .u64 c2, .string t2, .bool fk], .agg #[.int .i64 ek, .int .u64 ec, .string et, .int .i64 lk, .int .i64 lf, .int .u64 lc, .string lt, .bool lb]] w fun e w' => ∃ a cap, e = .returned (.tuple #[.agg #[.int .i64 T.r, .int .u64 T.c, .string T.t, .int .i64 T.ph, .int .i64 T.p.k, .int .i64 T.p.f, .int .u64 T.p.c, .string T.p.t, .bool T.p.b], .slice a 0 cap]) ∧ Ext w w' :=
  (or_step r c t ph k f c2 t2 fk ek ec et lk lf lc lt lb w).mono fun e w' ⟨v, he, hv, hx⟩ => by
    rw [h] at he hv
    obtain ⟨a, cap, rfl, _, _⟩ := own_view hv
    exact ⟨a, cap, he, hx⟩
/-- A slice's length, as a literal. -/
theorem made_len {w w' : World} {e size n m : Nat} {xs : List Value} {en : Ending} (h : Made w e size n xs en w') (hm : n = m) : ∃ a cap, en = .returned (.slice a m cap) ∧ Ext w w' := by
  obtain ⟨v, he, hv, hx⟩ := h
  obtain ⟨a, cap, rfl, _, _⟩ := own_view hv
  subst hm
  exact ⟨a, cap, he, hx⟩
theorem live_0 : stepS ⟨0, 7, { data := #[] }, 0, ⟨0, 0, 0, { data := #[] }, false⟩⟩ ⟨1, 7, { data := #[120] }, ⟨0, 0, 0, { data := #[] }, false⟩⟩ = (⟨0, 7, { data := #[120] }, 2, ⟨0, 0, 0, { data := #[] }, false⟩⟩, [⟨1, ⟨1, 0, 7, { data := #[120] }, false⟩⟩]) := by kernel_rfl
theorem live_1 : stepS ⟨0, 7, { data := #[120] }, 2, ⟨0, 0, 0, { data := #[] }, false⟩⟩ ⟨2, 0, { data := #[] }, ⟨1, 1, 7, { data := #[120] }, false⟩⟩ = (⟨0, 7, { data := #[120] }, 3, ⟨0, 0, 0, { data := #[] }, false⟩⟩, [⟨1, ⟨2, 0, 7, { data := #[120] }, false⟩⟩]) := by kernel_rfl
theorem live_2 : stepS ⟨0, 7, { data := #[120] }, 3, ⟨0, 0, 0, { data := #[] }, false⟩⟩ ⟨2, 0, { data := #[] }, ⟨2, 1, 7, { data := #[120] }, false⟩⟩ = (⟨0, 7, { data := #[120] }, 6, ⟨2, 1, 7, { data := #[120] }, false⟩⟩, []) := by kernel_rfl
theorem live_3 : stepS ⟨0, 7, { data := #[120] }, 2, ⟨0, 0, 0, { data := #[] }, false⟩⟩ ⟨3, 7, { data := #[] }, ⟨0, 0, 0, { data := #[] }, false⟩⟩ = (⟨0, 7, { data := #[120] }, 4, ⟨0, 0, 0, { data := #[] }, false⟩⟩, [⟨2, ⟨3, 0, 7, { data := #[] }, false⟩⟩]) := by kernel_rfl
theorem live_4 : stepS ⟨0, 7, { data := #[120] }, 4, ⟨0, 0, 0, { data := #[] }, false⟩⟩ ⟨2, 0, { data := #[] }, ⟨5, 0, 7, { data := #[] }, false⟩⟩ = (⟨0, 7, { data := #[120] }, 7, ⟨0, 0, 0, { data := #[] }, false⟩⟩, []) := by kernel_rfl

theorem live_c : chk 0 7 { data := #[120] } 6 2 1 7 { data := #[120] } false = true := by kernel_rfl
theorem live_f1 : finS ⟨0, 7, { data := #[120] }, 7, ⟨0, 0, 0, { data := #[] }, false⟩⟩ = true := by kernel_rfl
theorem live_f2 : finS ⟨0, 7, { data := #[120] }, 4, ⟨0, 0, 0, { data := #[] }, false⟩⟩ = false := by kernel_rfl
theorem live_w : waitS ⟨0, 7, { data := #[120] }, 4, ⟨0, 0, 0, { data := #[] }, false⟩⟩ = true := by kernel_rfl
theorem live_e : (evsS ⟨0, 7, { data := #[120] }, 2, ⟨0, 0, 0, { data := #[] }, false⟩⟩).length = 2 := by kernel_rfl
theorem live_n : (nextS ⟨0, 7, { data := #[120] }, 3, ⟨0, 0, 0, { data := #[] }, false⟩⟩ (evsS ⟨0, 7, { data := #[120] }, 3, ⟨0, 0, 0, { data := #[] }, false⟩⟩)).length = 2 := by kernel_rfl

theorem cell_keep {w w' : World} {a : Addr} {v : Value} (h : w.cell? a = some v) (e : Ext w w') : w'.cell? a = some v := by
  rw [Below.cell e (World.block_lt_of_cell? w _ h)]; exact h

set_option maxHeartbeats 1600000 in
theorem live_any (w : World) : Calls Try.prog 9 #[] w fun e w' => e = .returned (.bool true) ∧ Ext w w' := by
  go_enter Try.func9, Try.ntmps9
  go_wp2_with fail
  refine (or_new _ _).mono ?_
  rintro e w0 ⟨rfl, hx0⟩
  have HX := Lib.hid hx0
  clear hx0
  go_wp2_with fail
  refine (or_step1 _ _ _ _ _ _ _ _ _ _ _ _ _ _ _ _ _ _ ⟨0, 7, { data := #[120] }, 2, ⟨0, 0, 0, { data := #[] }, false⟩⟩ ⟨1, ⟨1, 0, 7, { data := #[120] }, false⟩⟩ live_0).mono ?_
  rintro e w1 ⟨g0, cap0, rfl, -, hp0, hq0, hx⟩
  have hy : Ext w0 w1 := hx
  have HX0 := Lib.hid (HX.out.trans hy)
  clear HX
  have pS0_0 := Lib.hid hp0
  have qS0_0 := Lib.hid hq0
  clear hp0 hq0
  clear hx hy
  go_wp2_with fail
  refine (or_step1 _ _ _ _ _ _ _ _ _ _ _ _ _ _ _ _ _ _ ⟨0, 7, { data := #[120] }, 3, ⟨0, 0, 0, { data := #[] }, false⟩⟩ ⟨1, ⟨2, 0, 7, { data := #[120] }, false⟩⟩ live_1).mono ?_
  rintro e w2 ⟨g1, cap1, rfl, -, hp1, hq1, hx⟩
  have hy : Ext w1 w2 := ((Ext.refl _).alloc _).trans hx
  have HX1 := Lib.hid (HX0.out.trans hy)
  clear HX0
  have B1_1 := Lib.hid (heap_ext (heap_new (w := w1) rfl) hx)
  have pS0_1 := Lib.hid (cell_keep pS0_0.out hy)
  have qS0_1 := Lib.hid (cell_keep qS0_0.out hy)
  clear pS0_0 qS0_0
  have pS1_1 := Lib.hid hp1
  have qS1_1 := Lib.hid hq1
  clear hp1 hq1
  have cB1_1 := fun j => cell_of_row w2 _ j _ _ _ B1_1.out
  have lB1_1 : w1.heap.size < w2.heap.size := (Array.getElem?_eq_some_iff.1 B1_1.out).1
  clear hx hy
  go_wp2_with fail
  refine (or_stepN _ _ _ _ _ _ _ _ _ _ _ _ _ _ _ _ _ _ ⟨0, 7, { data := #[120] }, 6, ⟨2, 1, 7, { data := #[120] }, false⟩⟩ live_2).mono ?_
  rintro e w3 ⟨a2, cap2, rfl, hx⟩
  have hy : Ext w2 w3 := ((Ext.refl _).alloc _).trans hx
  have HX2 := Lib.hid (HX1.out.trans hy)
  clear HX1
  have B1_2 := Lib.hid (heap_ext B1_1.out hy)
  clear B1_1 cB1_1 lB1_1
  have B2_2 := Lib.hid (heap_ext (heap_new (w := w2) rfl) hx)
  have pS0_2 := Lib.hid (cell_keep pS0_1.out hy)
  have qS0_2 := Lib.hid (cell_keep qS0_1.out hy)
  clear pS0_1 qS0_1
  have pS1_2 := Lib.hid (cell_keep pS1_1.out hy)
  have qS1_2 := Lib.hid (cell_keep qS1_1.out hy)
  clear pS1_1 qS1_1
  have cB1_2 := fun j => cell_of_row w3 _ j _ _ _ B1_2.out
  have lB1_2 : w1.heap.size < w3.heap.size := (Array.getElem?_eq_some_iff.1 B1_2.out).1
  have cB2_2 := fun j => cell_of_row w3 _ j _ _ _ B2_2.out
  have lB2_2 : w2.heap.size < w3.heap.size := (Array.getElem?_eq_some_iff.1 B2_2.out).1
  clear hx hy
  go_wp2_with fail
  refine (or_step1 _ _ _ _ _ _ _ _ _ _ _ _ _ _ _ _ _ _ ⟨0, 7, { data := #[120] }, 4, ⟨0, 0, 0, { data := #[] }, false⟩⟩ ⟨2, ⟨3, 0, 7, { data := #[] }, false⟩⟩ live_3).mono ?_
  rintro e w4 ⟨g3, cap3, rfl, -, hp3, hq3, hx⟩
  have hy : Ext w3 w4 := ((Ext.refl _).alloc _).trans hx
  have HX3 := Lib.hid (HX2.out.trans hy)
  clear HX2
  have B1_3 := Lib.hid (heap_ext B1_2.out hy)
  clear B1_2 cB1_2 lB1_2
  have B2_3 := Lib.hid (heap_ext B2_2.out hy)
  clear B2_2 cB2_2 lB2_2
  have B3_3 := Lib.hid (heap_ext (heap_new (w := w3) rfl) hx)
  have pS0_3 := Lib.hid (cell_keep pS0_2.out hy)
  have qS0_3 := Lib.hid (cell_keep qS0_2.out hy)
  clear pS0_2 qS0_2
  have pS1_3 := Lib.hid (cell_keep pS1_2.out hy)
  have qS1_3 := Lib.hid (cell_keep qS1_2.out hy)
  clear pS1_2 qS1_2
  have pS3_3 := Lib.hid hp3
  have qS3_3 := Lib.hid hq3
  clear hp3 hq3
  have cB1_3 := fun j => cell_of_row w4 _ j _ _ _ B1_3.out
  have lB1_3 : w1.heap.size < w4.heap.size := (Array.getElem?_eq_some_iff.1 B1_3.out).1
  have cB2_3 := fun j => cell_of_row w4 _ j _ _ _ B2_3.out
  have lB2_3 : w2.heap.size < w4.heap.size := (Array.getElem?_eq_some_iff.1 B2_3.out).1
  have cB3_3 := fun j => cell_of_row w4 _ j _ _ _ B3_3.out
  have lB3_3 : w3.heap.size < w4.heap.size := (Array.getElem?_eq_some_iff.1 B3_3.out).1
  clear hx hy
  go_wp2_with fail
  refine (or_stepN _ _ _ _ _ _ _ _ _ _ _ _ _ _ _ _ _ _ ⟨0, 7, { data := #[120] }, 7, ⟨0, 0, 0, { data := #[] }, false⟩⟩ live_4).mono ?_
  rintro e w5 ⟨a4, cap4, rfl, hx⟩
  have hy : Ext w4 w5 := ((Ext.refl _).alloc _).trans hx
  have HX4 := Lib.hid (HX3.out.trans hy)
  clear HX3
  have B1_4 := Lib.hid (heap_ext B1_3.out hy)
  clear B1_3 cB1_3 lB1_3
  have B2_4 := Lib.hid (heap_ext B2_3.out hy)
  clear B2_3 cB2_3 lB2_3
  have B3_4 := Lib.hid (heap_ext B3_3.out hy)
  clear B3_3 cB3_3 lB3_3
  have B4_4 := Lib.hid (heap_ext (heap_new (w := w4) rfl) hx)
  have pS0_4 := Lib.hid (cell_keep pS0_3.out hy)
  have qS0_4 := Lib.hid (cell_keep qS0_3.out hy)
  clear pS0_3 qS0_3
  have pS1_4 := Lib.hid (cell_keep pS1_3.out hy)
  have qS1_4 := Lib.hid (cell_keep qS1_3.out hy)
  clear pS1_3 qS1_3
  have pS3_4 := Lib.hid (cell_keep pS3_3.out hy)
  have qS3_4 := Lib.hid (cell_keep qS3_3.out hy)
  clear pS3_3 qS3_3
  have cB1_4 := fun j => cell_of_row w5 _ j _ _ _ B1_4.out
  have lB1_4 : w1.heap.size < w5.heap.size := (Array.getElem?_eq_some_iff.1 B1_4.out).1
  have cB2_4 := fun j => cell_of_row w5 _ j _ _ _ B2_4.out
  have lB2_4 : w2.heap.size < w5.heap.size := (Array.getElem?_eq_some_iff.1 B2_4.out).1
  have cB3_4 := fun j => cell_of_row w5 _ j _ _ _ B3_4.out
  have lB3_4 : w3.heap.size < w5.heap.size := (Array.getElem?_eq_some_iff.1 B3_4.out).1
  have cB4_4 := fun j => cell_of_row w5 _ j _ _ _ B4_4.out
  have lB4_4 : w4.heap.size < w5.heap.size := (Array.getElem?_eq_some_iff.1 B4_4.out).1
  clear hx hy
  have oS0_4 := pS0_4.out
  have kS0_4 := qS0_4.out
  have tS0_4 : g0 < w5.heap.size := World.block_lt_of_cell? _ _ oS0_4
  have oS1_4 := pS1_4.out
  have kS1_4 := qS1_4.out
  have tS1_4 : g1 < w5.heap.size := World.block_lt_of_cell? _ _ oS1_4
  have oS3_4 := pS3_4.out
  have kS3_4 := qS3_4.out
  have tS3_4 : g3 < w5.heap.size := World.block_lt_of_cell? _ _ oS3_4
  go_wp2_with fail
  refine (or_check _ _ _ _ _ _ _ _ _ _).mono ?_
  rintro e v0 ⟨rfl, hx⟩
  rw [live_c]
  have hy : Ext w5 v0 := ((Ext.refl _).alloc _).trans hx
  have HY0 := Lib.hid (HX4.out.trans hy)
  clear HX4
  have B1_v0 := Lib.hid (heap_ext B1_4.out hy)
  clear B1_4 cB1_4 lB1_4
  have B2_v0 := Lib.hid (heap_ext B2_4.out hy)
  clear B2_4 cB2_4 lB2_4
  have B3_v0 := Lib.hid (heap_ext B3_4.out hy)
  clear B3_4 cB3_4 lB3_4
  have B4_v0 := Lib.hid (heap_ext B4_4.out hy)
  clear B4_4 cB4_4 lB4_4
  have B5_v0 := Lib.hid (heap_ext (heap_new (w := w5) rfl) hx)
  clear oS0_4 kS0_4 tS0_4
  clear oS1_4 kS1_4 tS1_4
  clear oS3_4 kS3_4 tS3_4
  have cB1_v0 := fun j => cell_of_row v0 _ j _ _ _ B1_v0.out
  have lB1_v0 : w1.heap.size < v0.heap.size := (Array.getElem?_eq_some_iff.1 B1_v0.out).1
  have cB2_v0 := fun j => cell_of_row v0 _ j _ _ _ B2_v0.out
  have lB2_v0 : w2.heap.size < v0.heap.size := (Array.getElem?_eq_some_iff.1 B2_v0.out).1
  have cB3_v0 := fun j => cell_of_row v0 _ j _ _ _ B3_v0.out
  have lB3_v0 : w3.heap.size < v0.heap.size := (Array.getElem?_eq_some_iff.1 B3_v0.out).1
  have cB4_v0 := fun j => cell_of_row v0 _ j _ _ _ B4_v0.out
  have lB4_v0 : w4.heap.size < v0.heap.size := (Array.getElem?_eq_some_iff.1 B4_v0.out).1
  have cB5_v0 := fun j => cell_of_row v0 _ j _ _ _ B5_v0.out
  have lB5_v0 : w5.heap.size < v0.heap.size := (Array.getElem?_eq_some_iff.1 B5_v0.out).1
  clear hx hy
  go_wp2_with fail
  refine (or_final _ _ _ _ _ _ _ _ _ _).mono ?_
  rintro e v1 ⟨rfl, hx⟩
  rw [live_f1]
  have hy : Ext v0 v1 := hx
  have HY1 := Lib.hid (HY0.out.trans hy)
  clear HY0
  have B1_v1 := Lib.hid (heap_ext B1_v0.out hy)
  clear B1_v0 cB1_v0 lB1_v0
  have B2_v1 := Lib.hid (heap_ext B2_v0.out hy)
  clear B2_v0 cB2_v0 lB2_v0
  have B3_v1 := Lib.hid (heap_ext B3_v0.out hy)
  clear B3_v0 cB3_v0 lB3_v0
  have B4_v1 := Lib.hid (heap_ext B4_v0.out hy)
  clear B4_v0 cB4_v0 lB4_v0
  have B5_v1 := Lib.hid (heap_ext B5_v0.out hy)
  clear B5_v0 cB5_v0 lB5_v0
  have cB1_v1 := fun j => cell_of_row v1 _ j _ _ _ B1_v1.out
  have lB1_v1 : w1.heap.size < v1.heap.size := (Array.getElem?_eq_some_iff.1 B1_v1.out).1
  have cB2_v1 := fun j => cell_of_row v1 _ j _ _ _ B2_v1.out
  have lB2_v1 : w2.heap.size < v1.heap.size := (Array.getElem?_eq_some_iff.1 B2_v1.out).1
  have cB3_v1 := fun j => cell_of_row v1 _ j _ _ _ B3_v1.out
  have lB3_v1 : w3.heap.size < v1.heap.size := (Array.getElem?_eq_some_iff.1 B3_v1.out).1
  have cB4_v1 := fun j => cell_of_row v1 _ j _ _ _ B4_v1.out
  have lB4_v1 : w4.heap.size < v1.heap.size := (Array.getElem?_eq_some_iff.1 B4_v1.out).1
  have cB5_v1 := fun j => cell_of_row v1 _ j _ _ _ B5_v1.out
  have lB5_v1 : w5.heap.size < v1.heap.size := (Array.getElem?_eq_some_iff.1 B5_v1.out).1
  clear hx hy
  go_wp2_with fail
  refine (or_final _ _ _ _ _ _ _ _ _ _).mono ?_
  rintro e v2 ⟨rfl, hx⟩
  rw [live_f2]
  have hy : Ext v1 v2 := hx
  have HY2 := Lib.hid (HY1.out.trans hy)
  clear HY1
  have B1_v2 := Lib.hid (heap_ext B1_v1.out hy)
  clear B1_v1 cB1_v1 lB1_v1
  have B2_v2 := Lib.hid (heap_ext B2_v1.out hy)
  clear B2_v1 cB2_v1 lB2_v1
  have B3_v2 := Lib.hid (heap_ext B3_v1.out hy)
  clear B3_v1 cB3_v1 lB3_v1
  have B4_v2 := Lib.hid (heap_ext B4_v1.out hy)
  clear B4_v1 cB4_v1 lB4_v1
  have B5_v2 := Lib.hid (heap_ext B5_v1.out hy)
  clear B5_v1 cB5_v1 lB5_v1
  have cB1_v2 := fun j => cell_of_row v2 _ j _ _ _ B1_v2.out
  have lB1_v2 : w1.heap.size < v2.heap.size := (Array.getElem?_eq_some_iff.1 B1_v2.out).1
  have cB2_v2 := fun j => cell_of_row v2 _ j _ _ _ B2_v2.out
  have lB2_v2 : w2.heap.size < v2.heap.size := (Array.getElem?_eq_some_iff.1 B2_v2.out).1
  have cB3_v2 := fun j => cell_of_row v2 _ j _ _ _ B3_v2.out
  have lB3_v2 : w3.heap.size < v2.heap.size := (Array.getElem?_eq_some_iff.1 B3_v2.out).1
  have cB4_v2 := fun j => cell_of_row v2 _ j _ _ _ B4_v2.out
  have lB4_v2 : w4.heap.size < v2.heap.size := (Array.getElem?_eq_some_iff.1 B4_v2.out).1
  have cB5_v2 := fun j => cell_of_row v2 _ j _ _ _ B5_v2.out
  have lB5_v2 : w5.heap.size < v2.heap.size := (Array.getElem?_eq_some_iff.1 B5_v2.out).1
  clear hx hy
  go_wp2_with fail
  refine (or_waits _ _ _ _ _ _ _ _ _ _).mono ?_
  rintro e v3 ⟨rfl, hx⟩
  rw [live_w]
  have hy : Ext v2 v3 := hx
  have HY3 := Lib.hid (HY2.out.trans hy)
  clear HY2
  have B1_v3 := Lib.hid (heap_ext B1_v2.out hy)
  clear B1_v2 cB1_v2 lB1_v2
  have B2_v3 := Lib.hid (heap_ext B2_v2.out hy)
  clear B2_v2 cB2_v2 lB2_v2
  have B3_v3 := Lib.hid (heap_ext B3_v2.out hy)
  clear B3_v2 cB3_v2 lB3_v2
  have B4_v3 := Lib.hid (heap_ext B4_v2.out hy)
  clear B4_v2 cB4_v2 lB4_v2
  have B5_v3 := Lib.hid (heap_ext B5_v2.out hy)
  clear B5_v2 cB5_v2 lB5_v2
  have cB1_v3 := fun j => cell_of_row v3 _ j _ _ _ B1_v3.out
  have lB1_v3 : w1.heap.size < v3.heap.size := (Array.getElem?_eq_some_iff.1 B1_v3.out).1
  have cB2_v3 := fun j => cell_of_row v3 _ j _ _ _ B2_v3.out
  have lB2_v3 : w2.heap.size < v3.heap.size := (Array.getElem?_eq_some_iff.1 B2_v3.out).1
  have cB3_v3 := fun j => cell_of_row v3 _ j _ _ _ B3_v3.out
  have lB3_v3 : w3.heap.size < v3.heap.size := (Array.getElem?_eq_some_iff.1 B3_v3.out).1
  have cB4_v3 := fun j => cell_of_row v3 _ j _ _ _ B4_v3.out
  have lB4_v3 : w4.heap.size < v3.heap.size := (Array.getElem?_eq_some_iff.1 B4_v3.out).1
  have cB5_v3 := fun j => cell_of_row v3 _ j _ _ _ B5_v3.out
  have lB5_v3 : w5.heap.size < v3.heap.size := (Array.getElem?_eq_some_iff.1 B5_v3.out).1
  clear hx hy
  go_wp2_with fail
  refine (or_events _ _ _ _ _ _ _ _ _ _).mono ?_
  intro e v4 hmade
  obtain ⟨av4, capv4, rfl, hx⟩ := made_len hmade live_e
  clear hmade
  have hy : Ext v3 v4 := hx
  have HY4 := Lib.hid (HY3.out.trans hy)
  clear HY3
  have B1_v4 := Lib.hid (heap_ext B1_v3.out hy)
  clear B1_v3 cB1_v3 lB1_v3
  have B2_v4 := Lib.hid (heap_ext B2_v3.out hy)
  clear B2_v3 cB2_v3 lB2_v3
  have B3_v4 := Lib.hid (heap_ext B3_v3.out hy)
  clear B3_v3 cB3_v3 lB3_v3
  have B4_v4 := Lib.hid (heap_ext B4_v3.out hy)
  clear B4_v3 cB4_v3 lB4_v3
  have B5_v4 := Lib.hid (heap_ext B5_v3.out hy)
  clear B5_v3 cB5_v3 lB5_v3
  have cB1_v4 := fun j => cell_of_row v4 _ j _ _ _ B1_v4.out
  have lB1_v4 : w1.heap.size < v4.heap.size := (Array.getElem?_eq_some_iff.1 B1_v4.out).1
  have cB2_v4 := fun j => cell_of_row v4 _ j _ _ _ B2_v4.out
  have lB2_v4 : w2.heap.size < v4.heap.size := (Array.getElem?_eq_some_iff.1 B2_v4.out).1
  have cB3_v4 := fun j => cell_of_row v4 _ j _ _ _ B3_v4.out
  have lB3_v4 : w3.heap.size < v4.heap.size := (Array.getElem?_eq_some_iff.1 B3_v4.out).1
  have cB4_v4 := fun j => cell_of_row v4 _ j _ _ _ B4_v4.out
  have lB4_v4 : w4.heap.size < v4.heap.size := (Array.getElem?_eq_some_iff.1 B4_v4.out).1
  have cB5_v4 := fun j => cell_of_row v4 _ j _ _ _ B5_v4.out
  have lB5_v4 : w5.heap.size < v4.heap.size := (Array.getElem?_eq_some_iff.1 B5_v4.out).1
  clear hx hy
  go_wp2_with fail
  refine (or_next _ _ _ _ _ _ _ _ _ _).mono ?_
  intro e v5 hmade
  obtain ⟨av5, capv5, rfl, hx⟩ := made_len hmade live_n
  clear hmade
  have hy : Ext v4 v5 := hx
  have HY5 := Lib.hid (HY4.out.trans hy)
  clear HY4
  have B1_v5 := Lib.hid (heap_ext B1_v4.out hy)
  clear B1_v4 cB1_v4 lB1_v4
  have B2_v5 := Lib.hid (heap_ext B2_v4.out hy)
  clear B2_v4 cB2_v4 lB2_v4
  have B3_v5 := Lib.hid (heap_ext B3_v4.out hy)
  clear B3_v4 cB3_v4 lB3_v4
  have B4_v5 := Lib.hid (heap_ext B4_v4.out hy)
  clear B4_v4 cB4_v4 lB4_v4
  have B5_v5 := Lib.hid (heap_ext B5_v4.out hy)
  clear B5_v4 cB5_v4 lB5_v4
  have cB1_v5 := fun j => cell_of_row v5 _ j _ _ _ B1_v5.out
  have lB1_v5 : w1.heap.size < v5.heap.size := (Array.getElem?_eq_some_iff.1 B1_v5.out).1
  have cB2_v5 := fun j => cell_of_row v5 _ j _ _ _ B2_v5.out
  have lB2_v5 : w2.heap.size < v5.heap.size := (Array.getElem?_eq_some_iff.1 B2_v5.out).1
  have cB3_v5 := fun j => cell_of_row v5 _ j _ _ _ B3_v5.out
  have lB3_v5 : w3.heap.size < v5.heap.size := (Array.getElem?_eq_some_iff.1 B3_v5.out).1
  have cB4_v5 := fun j => cell_of_row v5 _ j _ _ _ B4_v5.out
  have lB4_v5 : w4.heap.size < v5.heap.size := (Array.getElem?_eq_some_iff.1 B4_v5.out).1
  have cB5_v5 := fun j => cell_of_row v5 _ j _ _ _ B5_v5.out
  have lB5_v5 : w5.heap.size < v5.heap.size := (Array.getElem?_eq_some_iff.1 B5_v5.out).1
  clear hx hy
  go_wp2_with fail
  go_ret
  exact ⟨rfl, HY5.out⟩
end Go.Proofs.Ytnfehccnofhmnaa

/-
  Walk: 'long' of the originator's statements. No condition.
-/
namespace Go.Proofs.Ytnfehccnofhmnaa
open Go.RowKit
attribute [local go_sem ↓] eql_lEq eql_sEq eql_eEq eql_oEq neq_lEq neq_sEq neq_eEq neq_oEq
attribute [local go_sem] ExtOf.cell ExtOf.frozen ExtOf.lt ExtOf.le
attribute [local go_sem high] ExtOf.cell2 ExtOf.frozen2 ExtOf.lt2 ExtOf.cell3 ExtOf.frozen3 ExtOf.lt3 ExtOf.cellB ExtOf.frozenB ExtOf.cellX ExtOf.frozenX ExtOf.cellX' ExtOf.frozenX'
attribute [local go_sem] BelOf.cell BelOf.frozen BelOf.lt

/-- Where a slice that is read lies. -/
theorem row_view {w : World} {size : Nat} {v : Value} {n : Nat} {xs : List Value} (h : Row w size v n xs) :
    ∃ a cap, v = .slice a n cap ∧ n ≤ maxLen ∧ (0 < n → ∃ g off, a = some ⟨g, off, none⟩ ∧ (0 < size → g < w.heap.size) ∧ ∀ j u, xs[j]? = some u → w.cell? ⟨g, off + j, none⟩ = some u) := by
  obtain ⟨hl, h0⟩ := h
  rcases h0 with ⟨hn, a, c, hv⟩ | ⟨g, off, cap, hv, hm, hc⟩
  · exact ⟨a, c, by rw [hv, hn], by omega, fun h => by omega⟩
  · refine ⟨_, cap, hv, hm, fun hn => ⟨g, off, rfl, fun hs => ?_, hc⟩⟩
    have h0 : 0 < xs.length := by rw [hl]; exact Nat.mul_pos hn hs
    have := hc 0 _ (List.getElem?_eq_getElem h0)
    exact World.block_lt_of_cell? w _ this

def sumS (L : List Ev) : Nat := (L.map fun e => e.t.size + e.l.t.size).sum
def longS (L : List Ev) : Bool := decide (60 < L.length) || decide (6000 < sumS (L.take 61))

theorem sum_take {L : List Ev} {n : Nat} {x : Ev} (h : L[n]? = some x) : sumS (L.take (n + 1)) = sumS (L.take n) + x.t.size + x.l.t.size := by
  unfold sumS
  rw [List.take_add_one, h]
  simp
  omega
theorem sum_le {L : List Ev} {M : Nat} (h : ∀ e ∈ L, e.t.size ≤ M ∧ e.l.t.size ≤ M) : ∀ n, sumS (L.take n) ≤ n * (M + M)
  | 0 => by simp [sumS]
  | n + 1 => by
    have ih := sum_le h n
    rw [Nat.succ_mul]
    generalize n * (M + M) = q at *
    cases hx : L[n]? with
    | none =>
      rw [List.take_of_length_le (by have := List.getElem?_eq_none_iff.1 hx; omega)]
      rw [List.take_of_length_le (List.getElem?_eq_none_iff.1 hx)] at ih
      omega
    | some x =>
      have hm := h x (List.mem_of_getElem? hx)
      rw [sum_take hx]
      omega

set_option maxHeartbeats 800000 in
theorem long_any (v : Value) (L : List Ev) (w : World) (hR : Row w 8 v L.length (L.flatMap Ev.cs)) (hsz : ∀ e ∈ L, e.t.size ≤ 1048576 ∧ e.l.t.size ≤ 1048576) :
    Calls Try.prog 8 #[v] w fun e w' => e = .returned (.bool (longS L)) ∧ Ext w w' := by
  obtain ⟨a, cap, rfl, hm, hvw⟩ := row_view hR
  have HV := Lib.hid hvw
  have HS := Lib.hid hsz
  clear hvw hR hsz
  unfold maxLen at hm
  go_enter Try.func8, Try.ntmps8
  go_wp2_with fail
  go_loopw [3, 4] (fun s i wr => ∃ (k : Nat) (y : ExtOf w), k ≤ L.length ∧ k ≤ 61 ∧ i = .int .i64 k ∧ s = .int .i64 (sumS (L.take k) : Nat) ∧ wr = y.val) (fun _ i _ => L.length - (intOf i).toNat)
  case atStart => exact ⟨0, ⟨w, Ext.refl _⟩, Nat.zero_le _, by omega, rfl, rfl, rfl⟩
  case round =>
    obtain ⟨k, y, hk, hk61, rfl, rfl, rfl⟩ := hrel
    have hsl := sum_le HS.out k
    by_cases hlt : k < L.length ∧ k ≤ 60
    · obtain ⟨h1, h2⟩ := hlt
      obtain ⟨g, off, rfl, hg, hcell⟩ := HV.out (by omega)
      have hg' := hg (by omega)
      obtain ⟨x, hx⟩ : ∃ x, L[k]? = some x := ⟨_, List.getElem?_eq_getElem h1⟩
      have q2 : w.cell? ⟨g, off + k * 8 + 2, none⟩ = some (.string x.t) := by rw [Nat.add_assoc]; exact hcell _ _ (flat_get Ev.cs 8 (fun _ => rfl) L k x hx 2 (by omega))
      have q6 : w.cell? ⟨g, off + k * 8 + 6, none⟩ = some (.string x.l.t) := by rw [Nat.add_assoc]; exact hcell _ _ (flat_get Ev.cs 8 (fun _ => rfl) L k x hx 6 (by omega))
      have HX := Lib.hid hx
      have hxs := HS.out x (List.mem_of_getElem? hx)
      obtain ⟨hx1, hx2⟩ := hxs
      have HQ := Lib.hid (sum_take hx)
      clear hx hcell hg
      have i0 : (0 : Int) ≤ (k : Int) := by omega
      have i1 : (k : Int) < (L.length : Int) := by omega
      go_wp2_with fail
      refine wp_region_ext (by kernel_rfl) (by kernel_rfl) ?_
      repeat (go_big_quiet_step (fail))
      refine wpQuiet_nil ?_
      intro _ hx'
      obtain ⟨z, rfl⟩ := hx'
      go_wp2_with fail
      go_roundw
      case rel =>
        refine ⟨k + 1, ⟨z.val, y.ext.val z⟩, by omega, by omega, by go_num, ?_, rfl⟩
        rw [HQ.out]
        go_num
      case measure => simp [intOf]; omega
    · have hs : longS L = (decide (60 < L.length) || decide (6000 < sumS (L.take k))) := by
        unfold longS
        by_cases h : k = L.length
        · subst h
          rw [List.take_length, List.take_of_length_le (by omega)]
        · rw [show k = 61 by omega]
      have HS2 := Lib.hid hs
      clear hs HV HS
      go_wp2_with fail
      all_goals
        go_ret
        refine ⟨ret_bool ?_, y.ext⟩
        rw [HS2.out]
        go_light
        first
          | (congr 1 <;> (rw [decide_eq_decide]; omega))
          | (rw [show decide (60 < L.length) = true from decide_eq_true (by omega)]; rfl)
end Go.Proofs.Ytnfehccnofhmnaa

/-
  A region that draws its order and holds, among the rest, a variable that it makes: the making may come up anywhere ahead of its store; it is walked at its place in the text. No condition.
-/
namespace Go.Proofs.Ytnfehccnofhmnaa
open Go.RowKit
theorem wpOp_of_list {P : Program} {ops : Array Oper} {C : World → Prop} {K : Act → World → Prop} {Q : Exit → Act → World → Prop} {i : Nat} {o : Oper} {a : Act} {w : World} (ho : ops[i]? = some o)
    (h : wpList P ops (Exit.then (fun a' w' => C w' ∧ K a' w') (Quiets Q)) [o] a w) : wpOp P ops (Quiets Q) i (fun a' w' => C w' ∧ K a' w') a w := by
  simp only [wpList] at h
  unfold wpOp
  simp only [ho]
  by_cases hwd : Region.wanted o (yielded ops a.tmps) = true
  · rw [if_pos hwd] at h ⊢
    rcases h with h | h
    · refine .inl ?_
      unfold Oper.wp at *
      generalize (execOp a.eval o).run P w = r at *
      cases r with
      | ok n w2 =>
        cases n <;> simp only [Oper.upon] at h ⊢
        case value u => exact h
        case skip => exact h
        case defer d => exact h
        case enter f args =>
          exact Calls.mono h fun e w'' he => by
            cases e with
            | returned u => exact he
            | panicked c => exact he
            | outgrown => exact he
        case row row args => exact h
      | halt x w2 =>
        cases x <;> simp only [Oper.upon] at h ⊢
        case panic u => exact h
    · exact .inr ⟨h.1, h.2⟩
  · rw [if_neg hwd] at h ⊢
    exact h

section
variable {P : Program} {md : Region.Mode} {ops : Array Oper}

/-- An operation that is apart from another one runs as well when that one's value is in its slot already. -/
theorem wpOp_ahead {Q : Exit → Act → World → Prop} {j : Nat} {oi oj : Oper} {v : Value} (hj : ops[j]? = some oj) (hap : oi.apart ops oj = true)
    (hsj : ∀ cs b, oj.op ≠ .select cs b) {K : Act → World → Prop} {a : Act} {w : World} (h : wpOp P ops (Quiets Q) j K a w) :
    wpOp P ops (Quiets Q) j (fun a' w' => ∃ a0, a' = a0.put oi.dst v ∧ K a0 w') (a.put oi.dst v) w := by
  obtain ⟨h1, h2, h3⟩ := Oper.apart_spec hap
  have comm : ∀ (a : Act) u, (a.put oi.dst v).put oj.dst u = (a.put oj.dst u).put oi.dst v := fun a u => Act.put_comm a v u h2
  unfold wpOp at *
  simp only [hj] at *
  rw [wanted_put oj a oi.dst v h1]
  by_cases hw : Region.wanted oj (yielded ops a.tmps) = true
  · rw [if_pos hw] at h ⊢
    have he := execOp_put oj hsj a oi.dst v h1
    rcases h with h | h
    · refine .inl ?_
      unfold Oper.wp at *
      rw [he]
      generalize (execOp a.eval oj).run P w = r at *
      cases r with
      | ok n w' =>
        cases n <;> simp only [Oper.upon] at h ⊢
        case value u => exact ⟨_, comm a u, h⟩
        case skip => exact ⟨_, comm a _, h⟩
        case defer d =>
          refine ⟨_, ?_, h⟩
          rw [Act.put_defers]
          exact comm _ _
        case enter f args =>
          refine Calls.mono h fun e w'' he => ?_
          cases e with
          | returned u => exact ⟨_, comm a u, he⟩
          | panicked c => exact (he : False).elim
          | outgrown => exact he
        case row row args => exact Rows.mono h fun u w'' he => ⟨_, comm a u, he⟩
      | halt x w' =>
        cases x <;> simp only [Oper.upon] at h ⊢
        case panic u => exact (h : False).elim
    · refine .inr ⟨?_, h.2⟩
      have h4 := h.1
      unfold Oper.asks at *
      rwa [he]
  · rw [if_neg hw] at h ⊢
    exact ⟨_, comm a _, h⟩

/-- One operation of a script: taken at once (it gives one value in every world of the class), or walked in whatever extends what was. -/
structure Stp where
  q : Bool
  k : Nat
  o : Oper

/-- The rest ahead of the making; then the making: some block that holds the zeros; then what follows. -/
def wpPre (P : Program) (ops : Array Oper) (C : World → Prop) (B : Nat) (z : Array Value) (t : TypeId) (d : Option Tmp) (K : Act → World → Prop) (Q : Exit → Act → World → Prop) : List Stp → Act → World → Prop
  | [], a, w => ∀ (x : ExtOf w) (g : Nat), B ≤ g → x.val.heap[g]? = some (.cells z t (0, 0)) → K (a.put d (.pointer (some ⟨g, 0, none⟩))) x.val
  | s :: l, a, w => if s.q then ∃ v, YieldsE P ops C s.o v a ∧ wpPre P ops C B z t d K Q l (a.put s.o.dst v) w
    else ∀ x : ExtOf w, wpList P ops (Exit.then (fun a' w'' => Ext x.val w'' ∧ wpPre P ops C B z t d K Q l a' w'') (Quiets Q)) [s.o] a x.val

/-- The rest behind it. -/
def wpPost (P : Program) (ops : Array Oper) (C : World → Prop) (Q : Exit → Act → World → Prop) : List Stp → Act → World → Prop
  | [], a, w => ∀ x : ExtOf w, Q .normal a x.val
  | s :: l, a, w => if s.q then ∃ v, YieldsE P ops C s.o v a ∧ wpPost P ops C Q l (a.put s.o.dst v) w
    else ∀ x : ExtOf w, wpList P ops (Exit.then (fun a' w'' => C w'' ∧ wpPost P ops C Q l a' w'') (Quiets Q)) [s.o] a x.val

theorem wpPre_up {C : World → Prop} {B : Nat} {z : Array Value} {t : TypeId} {d : Option Tmp} {K : Act → World → Prop} {Q : Exit → Act → World → Prop} : ∀ {l : List Stp} {a : Act} {w w' : World}, wpPre P ops C B z t d K Q l a w → Ext w w' → wpPre P ops C B z t d K Q l a w'
  | [], _, _, _, h, e => fun x => h ⟨x.val, e.trans x.ext⟩
  | s :: l, a, w, w', h, e => by
    unfold wpPre at *
    split at h
    · rename_i hq
      rw [if_pos hq]
      obtain ⟨v, hy, hn⟩ := h
      exact ⟨v, hy, wpPre_up hn e⟩
    · rename_i hq
      rw [if_neg hq]
      exact fun x => h ⟨x.val, e.trans x.ext⟩

def floatB (md : Region.Mode) (ops : Array Oper) (i : Nat) (oi : Oper) : List Stp → Array Bool → Bool
  | [], l => decide (Region.ready md ops l = [i])
  | s :: pre, l =>
    (if s.q then (Region.ready md ops l).contains s.k && Region.free md ops l s.k && (Region.ready md ops (l.setIfInBounds i true)).contains s.k && Region.free md ops (l.setIfInBounds i true) s.k
     else (Region.ready md ops l).all (fun j => j == s.k || j == i) && decide (s.k ∈ Region.ready md ops l) && decide (Region.ready md ops (l.setIfInBounds i true) = [s.k])) &&
    decide (s.k ≠ i) && oi.apart ops s.o && floatB md ops i oi pre (l.setIfInBounds s.k true)

/-- What is listed behind those. -/
def listAll : List Stp → Array Bool → Array Bool
  | [], l => l
  | s :: pre, l => listAll pre (l.setIfInBounds s.k true)

variable {C : World → Prop} {Q : Exit → Act → World → Prop} {i : Nat} {oi : Oper} {B : Nat} {z : Array Value} {t : TypeId} {K : Act → World → Prop} {nf : Nat}

theorem float_done (hCE : ∀ w w', C w → Ext w w' → C w') (hsel : ∀ (j : Nat) (o : Oper) cs b, ops[j]? = some o → o.op ≠ .select cs b) :
    ∀ (pre : List Stp) (l : Array Bool) (a : Act) (w : World) (g : Nat), (∀ p ∈ pre, ops[p.k]? = some p.o) → floatB md ops i oi pre l = true →
      (∀ a w, C w → K a w → wpAnyE P md ops C Q nf ((listAll pre l).setIfInBounds i true) a w) →
      wpPre P ops C B z t oi.dst K Q pre a w → C w → B ≤ g → w.heap[g]? = some (.cells z t (0, 0)) →
      wpAnyE P md ops C Q (pre.length + nf) (l.setIfInBounds i true) (a.put oi.dst (.pointer (some ⟨g, 0, none⟩))) w
  | [], l, a, w, g, _, _, hK, h, hC, hg, hz => by
    rw [List.length_nil, Nat.zero_add]
    exact hK _ _ hC (h ⟨w, Ext.refl w⟩ g hg hz)
  | ⟨true, k, o⟩ :: pre, l, a, w, g, hv, hB, hK, h, hC, hg, hz => by
    simp only [floatB, if_true, Bool.and_eq_true, decide_eq_true_eq] at hB
    obtain ⟨⟨⟨⟨⟨⟨_, _⟩, hr⟩, hf⟩, hne⟩, hap⟩, hB'⟩ := hB
    have ho : ops[k]? = some o := hv ⟨true, k, o⟩ (by simp)
    obtain ⟨h1, h2, h3⟩ := Oper.apart_spec hap
    simp only [wpPre, if_true] at h
    obtain ⟨v, hy, hn⟩ := h
    rw [List.length_cons, show pre.length + 1 + nf = (pre.length + nf) + 1 by omega]
    have hy' : YieldsE P ops C o v (a.put oi.dst (.pointer (some ⟨g, 0, none⟩))) := hy.of_same (execOp_put o (fun cs b => hsel k o cs b ho) a oi.dst _ h1) (wanted_put o a oi.dst _ h1)
    refine wpAnyE_first hCE ho hsel _ _ _ w (Region.free_spec ho hf) (by simpa using hr) hy' hC ?_
    rw [Array.setIfInBounds_comm _ _ (Ne.symm hne), Act.put_comm a _ v h2]
    exact float_done hCE hsel pre (l.setIfInBounds k true) _ w g (fun p hp => hv p (List.mem_cons_of_mem _ hp)) hB' hK hn hC hg hz
  | ⟨false, k, o⟩ :: pre, l, a, w, g, hv, hB, hK, h, hC, hg, hz => by
    simp only [floatB, Bool.false_eq_true, if_false, Bool.and_eq_true, decide_eq_true_eq] at hB
    obtain ⟨⟨⟨⟨⟨_, _⟩, hr⟩, hne⟩, hap⟩, hB'⟩ := hB
    have ho : ops[k]? = some o := hv ⟨false, k, o⟩ (by simp)
    simp only [wpPre, Bool.false_eq_true, if_false] at h
    rw [List.length_cons, show pre.length + 1 + nf = (pre.length + nf) + 1 by omega]
    intro w' hw'
    refine ⟨fun h0 => (by rw [hr] at h0; cases h0), fun j hj => ?_⟩
    rw [hr] at hj
    obtain rfl : j = k := by simpa using hj
    have h1 := wpOp_ahead (oi := oi) (v := .pointer (some ⟨g, 0, none⟩)) ho hap (fun cs b => hsel j o cs b ho) (wpOp_of_list (C := fun w'' => Ext w' w'') ho (h ⟨w', hw'⟩))
    refine wpOp_mono (fun a' w'' ⟨a0, ha, he, hp⟩ => ⟨hCE _ _ (hCE _ _ hC hw') he, ?_⟩) h1
    subst ha
    rw [Array.setIfInBounds_comm _ _ (Ne.symm hne)]
    exact float_done hCE hsel pre (l.setIfInBounds j true) a0 w'' g (fun p hp => hv p (List.mem_cons_of_mem _ hp)) hB' hK hp (hCE _ _ (hCE _ _ hC hw') he) hg (heap_ext hz (hw'.trans he))

theorem float_main (hCE : ∀ w w', C w → Ext w w' → C w') (hsel : ∀ (j : Nat) (o : Oper) cs b, ops[j]? = some o → o.op ≠ .select cs b) (hi : ops[i]? = some oi) (hgd : oi.guard = none)
    (hal : ∀ (a : Act) (w : World), (execOp a.eval oi).run P w = .ok (.value (.pointer (some ⟨w.heap.size, 0, none⟩))) (w.alloc (.cells z t))) :
    ∀ (pre : List Stp) (l : Array Bool) (a : Act) (w : World), (∀ p ∈ pre, ops[p.k]? = some p.o) → floatB md ops i oi pre l = true →
      (∀ a w, C w → K a w → wpAnyE P md ops C Q nf ((listAll pre l).setIfInBounds i true) a w) →
      wpPre P ops C B z t oi.dst K Q pre a w → C w → B ≤ w.heap.size → wpAnyE P md ops C Q (pre.length + 1 + nf) l a w := by
  have made : ∀ (pre : List Stp) (l : Array Bool) (a : Act) (w' : World), (∀ p ∈ pre, ops[p.k]? = some p.o) → floatB md ops i oi pre l = true →
      (∀ a w, C w → K a w → wpAnyE P md ops C Q nf ((listAll pre l).setIfInBounds i true) a w) →
      wpPre P ops C B z t oi.dst K Q pre a w' → C w' → B ≤ w'.heap.size →
      wpOp P ops (Quiets Q) i (fun a' w'' => C w'' ∧ wpAnyE P md ops C Q (pre.length + nf) (l.setIfInBounds i true) a' w'') a w' := by
    intro pre l a w' hv hB hK h hC hb
    unfold wpOp
    simp only [hi]
    rw [if_pos (by simp [Region.wanted, hgd])]
    refine .inl ?_
    unfold Oper.wp
    rw [hal]
    have e : Ext w' (w'.alloc (.cells z t)) := (Ext.refl _).alloc _
    exact ⟨hCE _ _ hC e, float_done hCE hsel pre l a _ w'.heap.size hv hB hK (wpPre_up h e) (hCE _ _ hC e) hb (heap_alloc_new w' _)⟩
  intro pre
  induction pre with
  | nil =>
    intro l a w hv hB hK h hC hb
    rw [show ([] : List Stp).length + 1 + nf = nf + 1 by rw [List.length_nil]; omega]
    intro w' hw'
    have hr : Region.ready md ops l = [i] := by simpa [floatB] using hB
    refine ⟨fun h0 => (by rw [hr] at h0; cases h0), fun j hj => ?_⟩
    rw [hr] at hj
    obtain rfl : j = i := by simpa using hj
    have := made [] l a w' hv hB hK (wpPre_up h hw') (hCE _ _ hC hw') (Nat.le_trans hb hw'.size)
    simpa using this
  | cons s pre ih =>
    obtain ⟨q, k, o⟩ := s
    intro l a w hv hB hK h hC hb
    have ho : ops[k]? = some o := hv ⟨q, k, o⟩ (by simp)
    have hB0 := hB
    have h0 := h
    cases q
    · simp only [floatB, Bool.false_eq_true, if_false, Bool.and_eq_true, decide_eq_true_eq] at hB
      obtain ⟨⟨⟨⟨⟨hall, hk⟩, hr⟩, hne⟩, hap⟩, hB'⟩ := hB
      simp only [wpPre, Bool.false_eq_true, if_false] at h
      rw [List.length_cons, show pre.length + 1 + 1 + nf = (pre.length + 1 + nf) + 1 by omega]
      intro w' hw'
      refine ⟨fun h0 => (by rw [h0] at hk; cases hk), fun j hj => ?_⟩
      have hjk : j = k ∨ j = i := by simpa using List.all_eq_true.1 hall j hj
      rcases hjk with rfl | rfl
      · refine wpOp_mono (fun a' w'' ⟨he, hp⟩ => ⟨hCE _ _ (hCE _ _ hC hw') he, ?_⟩) (wpOp_of_list (C := fun w'' => Ext w' w'') ho (h ⟨w', hw'⟩))
        exact ih (l.setIfInBounds j true) a' w'' (fun p hp => hv p (List.mem_cons_of_mem _ hp)) hB' hK hp (hCE _ _ (hCE _ _ hC hw') he) (Nat.le_trans hb (hw'.trans he).size)
      · exact made (⟨false, k, o⟩ :: pre) l a w' hv hB0 hK (wpPre_up h0 hw') (hCE _ _ hC hw') (Nat.le_trans hb hw'.size)
    · simp only [floatB, if_true, Bool.and_eq_true, decide_eq_true_eq] at hB
      obtain ⟨⟨⟨⟨⟨⟨hr, hf⟩, _⟩, _⟩, hne⟩, hap⟩, hB'⟩ := hB
      simp only [wpPre, if_true] at h
      obtain ⟨v, hy, hn⟩ := h
      rw [List.length_cons, show pre.length + 1 + 1 + nf = (pre.length + 1 + nf) + 1 by omega]
      exact wpAnyE_first hCE ho hsel _ _ _ w (Region.free_spec ho hf) (by simpa using hr) hy hC
        (ih (l.setIfInBounds k true) _ w (fun p hp => hv p (List.mem_cons_of_mem _ hp)) hB' hK hn hC hb)

/-- Those of a list that are left, with their numbers; the second mask says which of them are taken at once. -/
def restL : List Bool → List Bool → Nat → List Oper → List Stp
  | b :: m, c :: n, k, o :: l => if b then restL m n (k + 1) l else ⟨c, k, o⟩ :: restL m n (k + 1) l
  | _, _, _, _ => []

theorem restL_valid : ∀ (m c : List Bool) (k : Nat) (l : List Oper), (∀ j, j < l.length → l[j]? = ops[k + j]?) → ∀ p ∈ restL m c k l, ops[p.k]? = some p.o
  | [], _, _, _, _, p, hp => by simp [restL] at hp
  | _ :: _, [], _, _, _, p, hp => by simp [restL] at hp
  | _ :: _, _ :: _, _, [], _, p, hp => by simp [restL] at hp
  | b :: m, c :: n, k, o :: l, ho, p, hp => by
    have h0 : ops[k]? = some o := by simpa using (ho 0 (by simp)).symm
    have ho' : ∀ j, j < l.length → l[j]? = ops[k + 1 + j]? := fun j hj => by
      have := ho (j + 1) (by simp; omega)
      simpa [Nat.add_assoc, Nat.add_comm 1 j] using this
    cases b
    · simp only [restL, Bool.false_eq_true, if_false, List.mem_cons] at hp
      rcases hp with rfl | hp
      · exact h0
      · exact restL_valid m n (k + 1) l ho' p hp
    · simp only [restL, if_true] at hp
      exact restL_valid m n (k + 1) l ho' p hp

theorem restL_length : ∀ (m c : List Bool) (k : Nat) (l : List Oper), m.length = l.length → c.length = l.length → (pickT m l).length + (restL m c k l).length = l.length
  | [], [], _, [], _, _ => rfl
  | [], _, _, _ :: _, h, _ => by simp at h
  | _ :: _, _, _, [], h, _ => by simp at h
  | _, [], _, _ :: _, _, h => by simp at h
  | _, _ :: _, _, [], _, h => by simp at h
  | b :: m, c :: n, k, o :: l, h, h2 => by
    have := restL_length m n (k + 1) l (by simpa using h) (by simpa using h2)
    cases b <;> simp [pickT, restL] <;> omega

def seqL (md : Region.Mode) (ops : Array Oper) : List Stp → Array Bool → Bool
  | [], l => (Region.ready md ops l).isEmpty
  | s :: r, l => (if s.q then (Region.ready md ops l).contains s.k && Region.free md ops l s.k else decide (Region.ready md ops l = [s.k])) && seqL md ops r (l.setIfInBounds s.k true)

theorem post_of_seqL (hCE : ∀ w w', C w → Ext w w' → C w') (hsel : ∀ (j : Nat) (o : Oper) cs b, ops[j]? = some o → o.op ≠ .select cs b) : ∀ (r : List Stp) (l : Array Bool) (a : Act) (w : World), (∀ p ∈ r, ops[p.k]? = some p.o) → seqL md ops r l = true → C w →
    wpPost P ops C Q r a w → wpAnyE P md ops C Q r.length l a w
  | [], l, a, w, _, hB, _, h => ⟨by simpa [seqL] using hB, fun w' hw' => h ⟨w', hw'⟩⟩
  | ⟨false, k, o⟩ :: r, l, a, w, hv, hB, hC, h => by
    simp only [seqL, Bool.false_eq_true, if_false, Bool.and_eq_true, decide_eq_true_eq] at hB
    simp only [wpPost, Bool.false_eq_true, if_false] at h
    have ho : ops[k]? = some o := hv ⟨false, k, o⟩ (by simp)
    intro w' hw'
    refine ⟨fun h0 => (by rw [hB.1] at h0; cases h0), fun j hj => ?_⟩
    rw [hB.1] at hj
    obtain rfl : j = k := by simpa using hj
    exact wpOp_mono (fun a' w'' ⟨hc, hp⟩ => ⟨hc, post_of_seqL hCE hsel r _ a' w'' (fun p hp => hv p (List.mem_cons_of_mem _ hp)) hB.2 hc hp⟩) (wpOp_of_list ho (h ⟨w', hw'⟩))
  | ⟨true, k, o⟩ :: r, l, a, w, hv, hB, hC, h => by
    simp only [seqL, if_true, Bool.and_eq_true] at hB
    simp only [wpPost, if_true] at h
    obtain ⟨v, hy, hn⟩ := h
    have ho : ops[k]? = some o := hv ⟨true, k, o⟩ (by simp)
    exact wpAnyE_first hCE ho hsel _ _ _ w (Region.free_spec ho hB.1.2) (by simpa using hB.1.1) hy hC
      (post_of_seqL hCE hsel r _ _ w (fun p hp => hv p (List.mem_cons_of_mem _ hp)) hB.2 hC hn)

/-- The Bools of such a region: n0 of the rest stand ahead of the making. -/
def mixFB (ops : Array Oper) (m c : List Bool) (l : List Oper) (n n0 : Nat) : Bool :=
  Region.noSelect ops && decide (m.length = l.length) && decide (c.length = l.length) && dstsOk n (pickT m l) &&
    (match Region.lexMask .any ops m 0 (Array.replicate l.length false) with
     | some le => (match (restL m c 0 l).drop n0 with
       | ⟨_, i, oi⟩ :: post => oi.guard.isNone && floatB .any ops i oi ((restL m c 0 l).take n0) le && seqL .any ops post ((listAll ((restL m c 0 l).take n0) le).setIfInBounds i true)
       | [] => false)
     | none => false)

/-- What is asked of the rest: those ahead, the making, those behind. -/
def wpFloat (P : Program) (ops : Array Oper) (C : World → Prop) (B : Nat) (z : Array Value) (t : TypeId) (Q : Exit → Act → World → Prop) (n0 : Nat) (l : List Stp) (a : Act) (w : World) : Prop :=
  match l.drop n0 with
  | s :: post => (∀ (a : Act) (w : World), (execOp a.eval s.o).run P w = .ok (.value (.pointer (some ⟨w.heap.size, 0, none⟩))) (w.alloc (.cells z t))) ∧ wpPre P ops C B z t s.o.dst (wpPost P ops C Q post) Q (l.take n0) a w
  | [] => False

/-- A REGION THAT DRAWS ITS ORDER AND MAKES A VARIABLE. -/
theorem wp_region_mixF {id : Nat} {a af : Act} {w : World} {l : List Oper} (z : Array Value) (t : TypeId) (m c : List Bool) (n n0 : Nat) (hm : P.follows .mixedOrders = true)
    (hn : a.tmps.size = n) (hB : mixFB l.toArray m c l n n0 = true) (hCE : ∀ w w', C w → Ext w w' → C w') (hC : C w.drew)
    (h : ∀ w', C w' → wpQuiet P l.toArray (fun w'' => ∃ x : ExtOf w', w'' = x.val) (fun a' => a' = af) (pickT m l) a)
    (hr : wpFloat P l.toArray C w.heap.size z t Q n0 (restL m c 0 l) af w.drew) : (Code.region id l.toArray true).wp P Q a w := by
  subst hn
  simp only [mixFB, Bool.and_eq_true, decide_eq_true_eq] at hB
  obtain ⟨⟨⟨⟨hs, hl⟩, hcl⟩, hd⟩, hx⟩ := hB
  split at hx
  case h_2 => cases hx
  case h_1 le hle =>
    unfold wpFloat at hr
    split at hx
    case h_2 => cases hx
    case h_1 q i oi post hdrop =>
      simp only [Bool.and_eq_true] at hx
      obtain ⟨⟨hg, hf⟩, hsq⟩ := hx
      have hsel := Region.noSelect_spec hs
      have hv := restL_valid (ops := l.toArray) m c 0 l (fun j _ => by simp)
      have hvp : ∀ p ∈ post, l.toArray[p.k]? = some p.o := fun p hp => hv p (List.mem_of_mem_drop (by rw [hdrop]; exact List.mem_cons_of_mem _ hp))
      have hvi : l.toArray[i]? = some oi := hv ⟨q, i, oi⟩ (List.mem_of_mem_drop (by rw [hdrop]; simp))
      have hvt : ∀ p ∈ (restL m c 0 l).take n0, l.toArray[p.k]? = some p.o := fun p hp => hv p (List.mem_of_mem_take hp)
      rw [hdrop] at hr
      obtain ⟨hal, hpre⟩ := hr
      have hq := walkE_of_quiet (P := P) (ops := l.toArray) (C := C) ⟨_, hC⟩ (pickT m l) a hd h
      have hmain := float_main (P := P) (md := .any) (ops := l.toArray) (C := C) (Q := Q) (K := wpPost P l.toArray C Q post) (nf := post.length) hCE hsel hvi (by simpa using hg) hal
        ((restL m c 0 l).take n0) le af w.drew hvt hf (fun a w hc hk => post_of_seqL hCE hsel post _ a w hvp hsq hc hk) hpre hC (Nat.le_refl _)
      have := wpAnyE_lex (P := P) (md := .any) (ops := l.toArray) (Q := Q) hCE hs m l 0 _ a w.drew hl (fun j _ => by simp) hle hq hC hmain
      have hlen : (pickT m l).length + (((restL m c 0 l).take n0).length + 1 + post.length) = l.length := by
        have h1 := restL_length m c 0 l hl hcl
        have h3 : ((restL m c 0 l).take n0).length + ((restL m c 0 l).drop n0).length = (restL m c 0 l).length := by rw [← List.length_append, List.take_append_drop]
        rw [hdrop] at h3
        simp only [List.length_cons] at h3
        omega
      rw [hlen] at this
      refine Code.wp_mono quiets_imp (wp_region_any hm ?_)
      have h2 := wpAny_of_E _ _ _ _ this
      simpa using h2

/-- The same without a making. -/
theorem wp_region_mixQ {id : Nat} {a af : Act} {w : World} {l : List Oper} (m c : List Bool) (n : Nat) (hm : P.follows .mixedOrders = true)
    (hn : a.tmps.size = n) (hB : (Region.noSelect l.toArray && decide (m.length = l.length) && decide (c.length = l.length) && dstsOk n (pickT m l) &&
      (match Region.lexMask .any l.toArray m 0 (Array.replicate l.length false) with | some le => seqL .any l.toArray (restL m c 0 l) le | none => false)) = true) (hCE : ∀ w w', C w → Ext w w' → C w') (hC : C w.drew)
    (h : ∀ w', C w' → wpQuiet P l.toArray (fun w'' => ∃ x : ExtOf w', w'' = x.val) (fun a' => a' = af) (pickT m l) a)
    (hr : wpPost P l.toArray C Q (restL m c 0 l) af w.drew) : (Code.region id l.toArray true).wp P Q a w := by
  subst hn
  simp only [Bool.and_eq_true, decide_eq_true_eq] at hB
  obtain ⟨⟨⟨⟨hs, hl⟩, hcl⟩, hd⟩, hx⟩ := hB
  split at hx
  case h_2 => cases hx
  case h_1 le hle =>
    have hv := restL_valid (ops := l.toArray) m c 0 l (fun j _ => by simp)
    have hq := walkE_of_quiet (P := P) (ops := l.toArray) (C := C) ⟨_, hC⟩ (pickT m l) a hd h
    have := wpAnyE_lex (P := P) (md := .any) (ops := l.toArray) (Q := Q) hCE hs m l 0 _ a w.drew hl (fun j _ => by simp) hle hq hC (post_of_seqL hCE (Region.noSelect_spec hs) _ _ _ _ hv hx hC hr)
    rw [restL_length m c 0 l hl hcl] at this
    refine Code.wp_mono quiets_imp (wp_region_any hm ?_)
    have h2 := wpAny_of_E _ _ _ _ this
    simpa using h2
end
end Go.Proofs.Ytnfehccnofhmnaa

/-
  Plain laws of the originator's table: final is final; who has signed does not abort. No condition.
-/
namespace Go.Proofs.Ytnfehccnofhmnaa

theorem rows_none {c : Int} {t : ByteArray} {ph : Int} (h2 : ph ≠ 2) (h3 : ph ≠ 3) (h4 : ph ≠ 4) (h5 : ph ≠ 5) : rowsS c t ph = [] := by
  unfold rowsS; rw [if_neg h2, if_neg h3, if_neg h4, if_neg h5]

/-- What a step can be. -/
theorem step_cases (s : St) (e : Ev) : stepS s e = (s, []) ∨ (s.ph = 0 ∧ stepS s e = (⟨s.r, s.c, e.t, 2, s.p⟩, outS (prS s.c e.t 0))) ∨
    ∃ x, x ∈ rowsS s.c s.t s.ph ∧ chkS s = true ∧ s.ph ≠ 0 ∧ takesR x s e = true ∧ stepS s e = (toS x s, outS x.sends) := by
  unfold stepS
  split
  · rename_i hc
    split
    · rename_i h0
      split
      · exact .inr (.inl ⟨h0, rfl⟩)
      · exact .inl rfl
    · rename_i h0
      cases hf : (rowsS s.c s.t s.ph).find? (fun x => takesR x s e) with
      | none => exact .inl rfl
      | some x => exact .inr (.inr ⟨x, List.mem_of_find?_eq_some hf, hc, h0, by simpa using List.find?_some hf, rfl⟩)
  · exact .inl rfl

theorem fin_step (s : St) (e : Ev) (h : finS s = true) : stepS s e = (s, []) := by
  have h' : s.ph = 6 ∨ s.ph = 7 := by
    unfold finS at h
    simp only [Bool.and_eq_true, Bool.or_eq_true, beq_iff_eq] at h
    exact h.2
  rcases step_cases s e with h1 | ⟨h0, _⟩ | ⟨x, hx, _⟩
  · exact h1
  · omega
  · rw [rows_none (by omega) (by omega) (by omega) (by omega)] at hx
    cases hx

/-- Signed with: where a party stands that has sent its signature. -/
def Inv (sent : Bool) (s : St) : Prop := sent = true → s.ph = 3 ∨ s.ph = 5 ∨ s.ph = 6

theorem rows_mem {c : Int} {t : ByteArray} {ph : Int} {x : Rw} (h : x ∈ rowsS c t ph) :
    (ph = 2 ∧ (x = ⟨false, prS c t 1, 3, sgS c t 0⟩ ∨ x = ⟨true, l0, 4, abS c⟩)) ∨
    (ph = 3 ∧ (x = ⟨false, prS c t 1, 3, sgS c t 0⟩ ∨ x = ⟨false, sgS c t 1, 6, l0⟩ ∨ x = ⟨true, l0, 5, rsS c t⟩)) ∨
    (ph = 4 ∧ (x = ⟨true, l0, 4, abS c⟩ ∨ x = ⟨false, tkS c, 7, l0⟩ ∨ x = ⟨false, inS c t, 6, l0⟩)) ∨
    (ph = 5 ∧ (x = ⟨true, l0, 5, rsS c t⟩ ∨ x = ⟨false, sgS c t 1, 6, l0⟩ ∨ x = ⟨false, inS c t, 6, l0⟩)) := by
  by_cases h2 : ph = 2
  · subst h2; exact .inl ⟨rfl, by simpa [rowsS] using h⟩
  by_cases h3 : ph = 3
  · subst h3; exact .inr (.inl ⟨rfl, by simpa [rowsS] using h⟩)
  by_cases h4 : ph = 4
  · subst h4; exact .inr (.inr (.inl ⟨rfl, by simpa [rowsS] using h⟩))
  by_cases h5 : ph = 5
  · subst h5; exact .inr (.inr (.inr ⟨rfl, by simpa [rowsS] using h⟩))
  rw [rows_none h2 h3 h4 h5] at h
  cases h

theorem inv_step {sent : Bool} {s : St} (e : Ev) (h : Inv sent s) : Inv (sent || (stepS s e).2.any (fun o => o.l.k == 2)) (stepS s e).1 := by
  rcases step_cases s e with h1 | ⟨h0, h1⟩ | ⟨x, hx, hc, hn, ht, h1⟩
  · rw [h1]; simpa using h
  · rw [h1]
    intro hs
    have : sent = true := by simpa [outS, prS] using hs
    have := h this
    omega
  · rw [h1]
    intro hs
    rcases rows_mem hx with ⟨hp, hr⟩ | ⟨hp, hr⟩ | ⟨hp, hr⟩ | ⟨hp, hr⟩
    · rcases hr with rfl | rfl
      · exact .inl rfl
      · have : sent = true := by simpa [outS, abS] using hs
        have := h this
        omega
    · rcases hr with rfl | rfl | rfl <;> simp [toS]
    · have : sent = true := by rcases hr with rfl | rfl | rfl <;> simpa [outS, abS, l0] using hs
      have := h this
      omega
    · rcases hr with rfl | rfl | rfl <;> simp [toS]

theorem no_abort {s : St} (e : Ev) (h : s.ph = 3) : (stepS s e).1.ph ≠ 7 := by
  rcases step_cases s e with h1 | ⟨h0, h1⟩ | ⟨x, hx, hc, hn, ht, h1⟩
  · rw [h1]; simp only; omega
  · omega
  · rw [h1]
    rw [h] at hx
    rcases rows_mem hx with ⟨hp, hr⟩ | ⟨hp, hr⟩ | ⟨hp, hr⟩ | ⟨hp, hr⟩
    · omega
    · rcases hr with rfl | rfl | rfl <;> simp [toS]
    · omega
    · omega

theorem inv_abort {sent : Bool} {s : St} (h : Inv sent s) (hs : sent = true) : s.ph ≠ 7 := by
  have := h hs
  omega
end Go.Proofs.Ytnfehccnofhmnaa

/-
  Walk: the law OriginFinal. No condition.
-/
namespace Go.Proofs.Ytnfehccnofhmnaa
open Go.RowKit
attribute [local go_sem ↓] eql_lEq eql_sEq eql_eEq eql_oEq neq_lEq neq_sEq neq_eEq neq_oEq
attribute [local go_sem] ExtOf.cell ExtOf.frozen ExtOf.lt ExtOf.le
attribute [local go_sem high] ExtOf.cell2 ExtOf.frozen2 ExtOf.lt2 ExtOf.cell3 ExtOf.frozen3 ExtOf.lt3 ExtOf.cellB ExtOf.frozenB ExtOf.cellX ExtOf.frozenX ExtOf.cellX' ExtOf.frozenX'
attribute [local go_sem] BelOf.cell BelOf.frozen BelOf.lt

/-- The facts that a loop over events reads of its element. -/
theorem ev_cellsO {w : World} {g off : Nat} {L : List Ev} {k : Nat} {x : Ev} (h : ∀ j u, (L.flatMap Ev.cs)[j]? = some u → w.cell? ⟨g, off + j, none⟩ = some u) (hx : L[k]? = some x) :
    w.cell? ⟨g, off + k * 8, none⟩ = some (.int .i64 x.k) ∧ w.cell? ⟨g, off + k * 8 + 1, none⟩ = some (.int .u64 x.c) ∧ w.cell? ⟨g, off + k * 8 + 2, none⟩ = some (.string x.t) ∧ w.cell? ⟨g, off + k * 8 + 3, none⟩ = some (.int .i64 x.l.k) ∧ w.cell? ⟨g, off + k * 8 + 4, none⟩ = some (.int .i64 x.l.f) ∧ w.cell? ⟨g, off + k * 8 + 5, none⟩ = some (.int .u64 x.l.c) ∧ w.cell? ⟨g, off + k * 8 + 6, none⟩ = some (.string x.l.t) ∧ w.cell? ⟨g, off + k * 8 + 7, none⟩ = some (.bool x.l.b) := by
  have f := fun j hj => flat_get Ev.cs 8 (fun _ => rfl) L k x hx j hj
  have F : ∀ j u, (Ev.cs x)[j]? = some u → j < 8 → w.cell? ⟨g, off + k * 8 + j, none⟩ = some u := fun j u hu hj => by
    rw [Nat.add_assoc]; exact h _ _ ((f j hj).trans hu)
  exact ⟨F 0 _ rfl (by omega), F 1 _ rfl (by omega), F 2 _ rfl (by omega), F 3 _ rfl (by omega), F 4 _ rfl (by omega), F 5 _ rfl (by omega), F 6 _ rfl (by omega), F 7 _ rfl (by omega)⟩

theorem view_ext {w w' : World} {n base : Nat} {a : Option Addr} {xs : List Value} (h : 0 < n → ∃ g, a = some ⟨g, 0, none⟩ ∧ base ≤ g ∧ g < w.heap.size ∧ ∀ j u, xs[j]? = some u → w.cell? ⟨g, j, none⟩ = some u) (e : Ext w w') :
    0 < n → ∃ g, a = some ⟨g, 0, none⟩ ∧ base ≤ g ∧ g < w'.heap.size ∧ ∀ j u, xs[j]? = some u → w'.cell? ⟨g, j, none⟩ = some u := fun hn =>
  let ⟨g, h1, h2, h3, h4⟩ := h hn
  ⟨g, h1, h2, Nat.lt_of_lt_of_le h3 e.size, fun j u hj => cell_keep (h4 j u hj) e⟩

theorem fin_key {sn T : St} {x : Ev} {O : List Ou} (h : stepS sn x = (T, O)) (hf : finS sn = true) :
    sEq T.r T.c T.t T.ph T.p.k T.p.f T.p.c T.p.t T.p.b sn.r sn.c sn.t sn.ph sn.p.k sn.p.f sn.p.c sn.p.t sn.p.b = true ∧ (O.length : Int) ≤ 0 := by
  rw [fin_step sn x hf] at h
  simp only [Prod.mk.injEq] at h
  obtain ⟨rfl, rfl⟩ := h
  exact ⟨by simp [sEq], by simp⟩
theorem inv_key {sn T : St} {x : Ev} {O : List Ou} {sent B : Bool} (h : stepS sn x = (T, O)) (hi : Inv (sent || (stepS sn x).2.any (fun o => o.l.k == 2)) (stepS sn x).1) (hb : (sent || O.any (fun o => o.l.k == 2)) = B) :
    Inv B T ∧ (B = true → (T.ph == 7) = false) := by
  rw [h] at hi
  simp only at hi
  rw [hb] at hi
  exact ⟨hi, fun hB => by simpa using inv_abort hi hB⟩
theorem no_key {sn T : St} {x : Ev} {O : List Ou} (h : stepS sn x = (T, O)) (hp : (sn.ph == 3) = true) : (T.ph == 7) = false := by
  have := no_abort (s := sn) x (by simpa using hp)
  rw [h] at this
  simpa using this

set_option maxRecDepth 100000 in
set_option maxHeartbeats 1600000 in
theorem final_loop (r c : Int) (t : ByteArray) (ph k f c2 : Int) (t2 : ByteArray) (fk : Bool) (v : Value) (L : List Ev) (w : World) (hR : Row w 8 v L.length (L.flatMap Ev.cs)) (hsz : ∀ e ∈ L, e.t.size ≤ 1048576 ∧ e.l.t.size ≤ 1048576) (ht : (t.size : Int) ≤ 6000) (hl : longS L = false) :
    Calls Try.prog 4 #[.agg #[.int .i64 r, .int .u64 c, .string t, .int .i64 ph, .int .i64 k, .int .i64 f, .int .u64 c2, .string t2, .bool fk], v] w fun e w' => e = .returned (.bool true) ∧ Ext w w' := by
  have HR := Lib.hid hR
  have HS := Lib.hid hsz
  have HL := Lib.hid hl
  obtain ⟨a, cap, rfl, hm, hvw⟩ := row_view hR
  have HV := Lib.hid hvw
  clear hvw hR hsz hl
  unfold maxLen at hm
  go_enter Try.func4, Try.ntmps4
  go_wp2_with fail
  refine (long_any _ L _ (HR.out.ext ((Ext.refl _).alloc _)) HS.out).mono ?_
  rintro e w1 ⟨rfl, hx1⟩
  rw [HL.out]
  have h1a := heap_ext (heap_new (w := w) rfl) hx1
  have hX1 : Ext w w1 := ((Ext.refl _).alloc _).trans hx1
  have HX1 := Lib.hid hX1
  clear hX1 hx1
  go_wp2_with fail
  go_loopw [5, 6] (fun b i wr => ∃ (n : Nat) (sn : St) (sent : Bool), n ≤ L.length ∧ i = .int .i64 n ∧ b = .bool sent ∧ Inv sent sn ∧ wr.heap[w.heap.size]? = some (.cells #[.int .i64 sn.r, .int .u64 sn.c, .string sn.t, .int .i64 sn.ph, .int .i64 sn.p.k, .int .i64 sn.p.f, .int .u64 sn.p.c, .string sn.p.t, .bool sn.p.b] 26 (0, 0)) ∧ Ext w wr) (fun _ i _ => L.length - (intOf i).toNat)
  case atStart => exact ⟨0, ⟨r, c, t, ph, ⟨k, f, c2, t2, fk⟩⟩, false, Nat.zero_le _, rfl, rfl, (fun h => by cases h), h1a, HX1.out⟩
  case round =>
    obtain ⟨n, sn, sent, hn, rfl, rfl, hinv, hbox, hxr⟩ := hrel
    rename_i wr
    have HI := Lib.hid hinv
    have HB := Lib.hid hbox
    have HXR := Lib.hid hxr
    clear hinv h1a
    by_cases hlt : n < L.length
    · obtain ⟨g, off, rfl, hg, hcell⟩ := HV.out (by omega)
      obtain ⟨x, hx⟩ : ∃ x, L[n]? = some x := ⟨_, List.getElem?_eq_getElem hlt⟩
      obtain ⟨q0, q1, q2, q3, q4, q5, q6, q7⟩ := ev_cellsO (fun j u hj => cell_keep (hcell j u hj) hxr) hx
      have hcb := fun j => cell_of_row wr _ j _ _ _ hbox
      have hlb : w.heap.size < wr.heap.size := (Array.getElem?_eq_some_iff.1 hbox).1
      have hgr : g < wr.heap.size := Nat.lt_of_lt_of_le (hg (by omega)) hxr.size
      have i0 : (0 : Int) ≤ (n : Int) := by omega
      have i1 : (n : Int) < (L.length : Int) := by omega
      clear hx hcell hg hbox hxr
      go_wp2_with fail
      refine wp_region_mixF (af := ?af) #[.int .i64 0, .int .u64 0, .string { data := #[] }, .int .i64 0, .int .i64 0, .int .i64 0, .int .u64 0, .string { data := #[] }, .bool false] 26 [true, true, true, true, true, false, false, false, false, false, false, false] [false, false, false, false, false, false, true, true, true, false, false, true] 86 4 (C := Ext wr) (by kernel_rfl) rfl (by kernel_rfl) (fun _ _ h e => Ext.trans h e) (Ext.refl _).drew ?q ?r
      case q =>
        intro w' hw'
        obtain ⟨y, rfl⟩ := ext_of hw'
        simp only [pickT, if_true, if_false, Bool.false_eq_true]
        repeat (go_big_quiet_step (fail))
        exact rfl
      case r =>
        simp only [restL, if_true, if_false, Bool.false_eq_true]
        refine ⟨fun a w => by simp [go_sem], ?_⟩
        intro x1
        go_wp2_with fail
        refine (or_stepT _ _ _ _ _ _ _ _ _ _ _ _ _ _ _ _ _ _).mono ?_
        rintro e w4 ⟨T, O, v, hT, rfl, hv, hx4⟩
        go_wp2_with fail
        refine ⟨hx4, ?_⟩
        refine ⟨_, .inl ⟨rfl, fun w _ => ⟨rfl, rfl⟩⟩, ?_⟩
        refine ⟨_, .inl ⟨rfl, fun w _ => ⟨rfl, rfl⟩⟩, ?_⟩
        refine ⟨_, .inl ⟨rfl, fun w _ => ⟨rfl, rfl⟩⟩, ?_⟩
        intro x2 gT hgT hzT
        have e2 : Ext wr x2.val := (((Ext.refl wr).drew.val x1).trans hx4).val x2
        intro x3
        go_wp2_with (refine wpList_store_row rfl 26 _ _ rfl gT _ rfl rfl 26 _ (heap_ext hzT x3.ext) info_state rfl (by simp [Value.oneCell']) ?_)
        refine ⟨(e2.val x3).setRow hgT _, ?_⟩
        refine ⟨_, .inl ⟨rfl, fun w _ => ⟨rfl, rfl⟩⟩, ?_⟩
        intro x4
        have eT : x4.val.heap[gT]? = some (.cells #[.int .i64 T.r, .int .u64 T.c, .string T.t, .int .i64 T.ph, .int .i64 T.p.k, .int .i64 T.p.f, .int .u64 T.p.c, .string T.p.t, .bool T.p.b] 26 (0, 0)) := heap_ext (setRow_heap _ _ _ _ _ _ (heap_ext hzT x3.ext)) x4.ext
        have eS : x4.val.heap[w.heap.size]? = some (.cells #[.int .i64 sn.r, .int .u64 sn.c, .string sn.t, .int .i64 sn.ph, .int .i64 sn.p.k, .int .i64 sn.p.f, .int .u64 sn.p.c, .string sn.p.t, .bool sn.p.b] 26 (0, 0)) := heap_ext HB.out (((e2.val x3).setRow hgT _).val x4)
        have eV : x4.val.ownsRow wr.heap.size 45 6 v O.length (O.flatMap Ou.cs) := own_ext (own_setRow (own_ext (own_base (b' := wr.heap.size) hv ((Ext.refl wr).drew.val x1).size) (x2.ext.trans x3.ext)) (heap_ext hzT x3.ext) (by decide) _) x4.ext
        have eX : Ext wr x4.val := ((e2.val x3).setRow hgT _).val x4
        obtain ⟨aV, capV, rfl, hmV, hvV⟩ := own_view eV
        generalize x4.val = w5 at eT eS eV eX hvV ⊢
        clear x4 x3 x2 hzT hv hx4 e2 q0 q1 q2 q3 q4 q5 q6 q7 eV
        have hT2 := Lib.hid hT
        have Vw5 := Lib.hid hvV
        have Sw5 := eS
        have Tw5 := eT
        have Xw5 := eX
        have hneq : w.heap.size < gT := Nat.lt_of_lt_of_le hlb hgT
        have hI2 := Lib.hid (inv_step x HI.out)
        clear hT hvV hcb
        have c5s := fun j => cell_of_row w5 _ j _ _ _ eS
        have c5T := fun j => cell_of_row w5 _ j _ _ _ eT
        have l5s : w.heap.size < w5.heap.size := (Array.getElem?_eq_some_iff.1 eS).1
        have l5T : gT < w5.heap.size := (Array.getElem?_eq_some_iff.1 eT).1
        clear eS eT eX
        go_wp2_with fail
        refine (or_final _ _ _ _ _ _ _ _ _ _).mono ?_
        rintro e w6 ⟨rfl, hx6⟩
        rw [show finS ⟨sn.r, sn.c, sn.t, sn.ph, ⟨sn.p.k, sn.p.f, sn.p.c, sn.p.t, sn.p.b⟩⟩ = finS sn from rfl]
        have Sw6 := heap_ext Sw5 hx6
        have Tw6 := heap_ext Tw5 hx6
        have Xw6 := Xw5.trans hx6
        have csw6 := fun j => cell_of_row w6 _ j _ _ _ Sw6
        have ctw6 := fun j => cell_of_row w6 _ j _ _ _ Tw6
        have lsw6 : w.heap.size < w6.heap.size := (Array.getElem?_eq_some_iff.1 Sw6).1
        have ltw6 : gT < w6.heap.size := (Array.getElem?_eq_some_iff.1 Tw6).1
        have Vw6 := Lib.hid (view_ext Vw5.out hx6)
        clear Sw5 Tw5 Xw5 Vw5 hx6 c5s c5T l5s l5T
        have key := fin_key hT2.out
        have h37 := no_key hT2.out
        have HK := Lib.hid h37
        have HXb := Lib.hid Xw6
        clear h37 Xw6
        unfold maxLen at hmV
        rcases hf : finS sn
        · clear key hf
          go_wp2_with fail
          refine (or_check _ _ _ _ _ _ _ _ _ _).mono ?_
          rintro e w7 ⟨rfl, hx7⟩
          have Sw7 := heap_ext Sw6 hx7
          have Tw7 := heap_ext Tw6 hx7
          have HXc := Lib.hid (HXb.out.trans hx7)
          have csw7 := fun j => cell_of_row w7 _ j _ _ _ Sw7
          have ctw7 := fun j => cell_of_row w7 _ j _ _ _ Tw7
          have lsw7 : w.heap.size < w7.heap.size := (Array.getElem?_eq_some_iff.1 Sw7).1
          have ltw7 : gT < w7.heap.size := (Array.getElem?_eq_some_iff.1 Tw7).1
          have Vw7 := Lib.hid (view_ext Vw6.out hx7)
          clear Sw6 Tw6 Vw6 hx7 csw6 ctw6 lsw6 ltw6 HXb
          rcases hc : chk sn.r sn.c sn.t sn.ph sn.p.k sn.p.f sn.p.c sn.p.t sn.p.b
          · clear HK
            go_wp2_with fail
            go_loopw [5, 9] (fun b i wz => ∃ (m : Nat) (z : ExtOf w7), m ≤ O.length ∧ i = .int .i64 m ∧ wz = z.val ∧ b = .bool (sent || (O.take m).any (fun o => o.l.k == 2))) (fun _ i _ => O.length - (intOf i).toNat)
            case atStart => exact ⟨0, ⟨w7, Ext.refl _⟩, Nat.zero_le _, rfl, rfl, by simp⟩
            case round =>
              obtain ⟨m, z, hmn, rfl, rfl, rfl⟩ := hrel
              generalize hB2 : (sent || (O.take m).any (fun o => o.l.k == 2)) = B
              have HB2 := Lib.hid hB2
              clear hB2
              by_cases hlt2 : m < O.length
              · obtain ⟨g2, rfl, hb2, hg2, hcell2⟩ := Vw7.out (by omega)
                obtain ⟨u, hu⟩ : ∃ u, O[m]? = some u := ⟨_, List.getElem?_eq_getElem hlt2⟩
                obtain ⟨p0, p1, p2, p3, p4, p5⟩ := ou_cells hcell2 hu
                have HU := Lib.hid hu
                have j0 : (0 : Int) ≤ (m : Int) := by omega
                have j1 : (m : Int) < (O.length : Int) := by omega
                clear hu hcell2
                cases B
                all_goals
                  go_wp2_with fail
                  go_roundw
                  case rel => exact ⟨m + 1, z, by omega, by go_num, rfl, by rw [any_take _ HU.out, ← Bool.or_assoc, HB2.out]; simp⟩
                  case measure => simp [intOf]; omega
              · obtain rfl : m = O.length := by omega
                rw [List.take_length] at HB2
                go_wp2_with fail
                refine (or_check _ _ _ _ _ _ _ _ _ _).mono ?_
                rintro e w8 ⟨rfl, hx8⟩
                have e8 : Ext w7 w8 := z.ext.trans hx8
                have S8 := heap_ext Sw7 e8
                have T8 := heap_ext Tw7 e8
                have X8 := HXR.out.trans (HXc.out.trans e8)
                have ct8 := fun j => cell_of_row w8 _ j _ _ _ T8
                have lt8 : gT < w8.heap.size := (Array.getElem?_eq_some_iff.1 T8).1
                have hB7 := inv_key hT2.out hI2.out HB2.out
                have HB7 := Lib.hid hB7.1
                have HS8 := Lib.hid S8
                have HX8 := Lib.hid X8
                clear csw7 ctw7 lsw7 ltw7 Sw7 Tw7 T8 S8 X8 hx8 e8
                rcases hcT : chk T.r T.c T.t T.ph T.p.k T.p.f T.p.c T.p.t T.p.b
                all_goals
                  cases B
                all_goals
                  try have h77 := hB7.2 rfl
                  clear hB7
                  go_wp2_with (refine wpList_store_row rfl 26 _ _ rfl w.heap.size _ rfl rfl 26 _ HS8.out info_state rfl (by simp [Value.oneCell']) ?_)
                  go_roundw
                  case rel => exact ⟨n + 1, T, _, by omega, by go_num, rfl, HB7.out, setRow_heap _ _ _ _ _ _ HS8.out, Ext.setRow HX8.out (Nat.le_refl _) _⟩
                  case measure => simp [intOf]; omega
          · rcases h3 : (sn.ph == 3)
            · clear HK
              go_wp2_with fail
              go_loopw [5, 9] (fun b i wz => ∃ (m : Nat) (z : ExtOf w7), m ≤ O.length ∧ i = .int .i64 m ∧ wz = z.val ∧ b = .bool (sent || (O.take m).any (fun o => o.l.k == 2))) (fun _ i _ => O.length - (intOf i).toNat)
              case atStart => exact ⟨0, ⟨w7, Ext.refl _⟩, Nat.zero_le _, rfl, rfl, by simp⟩
              case round =>
                obtain ⟨m, z, hmn, rfl, rfl, rfl⟩ := hrel
                generalize hB2 : (sent || (O.take m).any (fun o => o.l.k == 2)) = B
                have HB2 := Lib.hid hB2
                clear hB2
                by_cases hlt2 : m < O.length
                · obtain ⟨g2, rfl, hb2, hg2, hcell2⟩ := Vw7.out (by omega)
                  obtain ⟨u, hu⟩ : ∃ u, O[m]? = some u := ⟨_, List.getElem?_eq_getElem hlt2⟩
                  obtain ⟨p0, p1, p2, p3, p4, p5⟩ := ou_cells hcell2 hu
                  have HU := Lib.hid hu
                  have j0 : (0 : Int) ≤ (m : Int) := by omega
                  have j1 : (m : Int) < (O.length : Int) := by omega
                  clear hu hcell2
                  cases B
                  all_goals
                    go_wp2_with fail
                    go_roundw
                    case rel => exact ⟨m + 1, z, by omega, by go_num, rfl, by rw [any_take _ HU.out, ← Bool.or_assoc, HB2.out]; simp⟩
                    case measure => simp [intOf]; omega
                · obtain rfl : m = O.length := by omega
                  rw [List.take_length] at HB2
                  go_wp2_with fail
                  refine (or_check _ _ _ _ _ _ _ _ _ _).mono ?_
                  rintro e w8 ⟨rfl, hx8⟩
                  have e8 : Ext w7 w8 := z.ext.trans hx8
                  have S8 := heap_ext Sw7 e8
                  have T8 := heap_ext Tw7 e8
                  have X8 := HXR.out.trans (HXc.out.trans e8)
                  have ct8 := fun j => cell_of_row w8 _ j _ _ _ T8
                  have lt8 : gT < w8.heap.size := (Array.getElem?_eq_some_iff.1 T8).1
                  have hB7 := inv_key hT2.out hI2.out HB2.out
                  have HB7 := Lib.hid hB7.1
                  have HS8 := Lib.hid S8
                  have HX8 := Lib.hid X8
                  clear csw7 ctw7 lsw7 ltw7 Sw7 Tw7 T8 S8 X8 hx8 e8
                  rcases hcT : chk T.r T.c T.t T.ph T.p.k T.p.f T.p.c T.p.t T.p.b
                  all_goals
                    cases B
                  all_goals
                    try have h77 := hB7.2 rfl
                    clear hB7
                    go_wp2_with (refine wpList_store_row rfl 26 _ _ rfl w.heap.size _ rfl rfl 26 _ HS8.out info_state rfl (by simp [Value.oneCell']) ?_)
                    go_roundw
                    case rel => exact ⟨n + 1, T, _, by omega, by go_num, rfl, HB7.out, setRow_heap _ _ _ _ _ _ HS8.out, Ext.setRow HX8.out (Nat.le_refl _) _⟩
                    case measure => simp [intOf]; omega
            · have h7 := HK.out h3
              clear HK
              go_wp2_with fail
              go_loopw [5, 9] (fun b i wz => ∃ (m : Nat) (z : ExtOf w7), m ≤ O.length ∧ i = .int .i64 m ∧ wz = z.val ∧ b = .bool (sent || (O.take m).any (fun o => o.l.k == 2))) (fun _ i _ => O.length - (intOf i).toNat)
              case atStart => exact ⟨0, ⟨w7, Ext.refl _⟩, Nat.zero_le _, rfl, rfl, by simp⟩
              case round =>
                obtain ⟨m, z, hmn, rfl, rfl, rfl⟩ := hrel
                generalize hB2 : (sent || (O.take m).any (fun o => o.l.k == 2)) = B
                have HB2 := Lib.hid hB2
                clear hB2
                by_cases hlt2 : m < O.length
                · obtain ⟨g2, rfl, hb2, hg2, hcell2⟩ := Vw7.out (by omega)
                  obtain ⟨u, hu⟩ : ∃ u, O[m]? = some u := ⟨_, List.getElem?_eq_getElem hlt2⟩
                  obtain ⟨p0, p1, p2, p3, p4, p5⟩ := ou_cells hcell2 hu
                  have HU := Lib.hid hu
                  have j0 : (0 : Int) ≤ (m : Int) := by omega
                  have j1 : (m : Int) < (O.length : Int) := by omega
                  clear hu hcell2
                  cases B
                  all_goals
                    go_wp2_with fail
                    go_roundw
                    case rel => exact ⟨m + 1, z, by omega, by go_num, rfl, by rw [any_take _ HU.out, ← Bool.or_assoc, HB2.out]; simp⟩
                    case measure => simp [intOf]; omega
                · obtain rfl : m = O.length := by omega
                  rw [List.take_length] at HB2
                  go_wp2_with fail
                  refine (or_check _ _ _ _ _ _ _ _ _ _).mono ?_
                  rintro e w8 ⟨rfl, hx8⟩
                  have e8 : Ext w7 w8 := z.ext.trans hx8
                  have S8 := heap_ext Sw7 e8
                  have T8 := heap_ext Tw7 e8
                  have X8 := HXR.out.trans (HXc.out.trans e8)
                  have ct8 := fun j => cell_of_row w8 _ j _ _ _ T8
                  have lt8 : gT < w8.heap.size := (Array.getElem?_eq_some_iff.1 T8).1
                  have hB7 := inv_key hT2.out hI2.out HB2.out
                  have HB7 := Lib.hid hB7.1
                  have HS8 := Lib.hid S8
                  have HX8 := Lib.hid X8
                  clear csw7 ctw7 lsw7 ltw7 Sw7 Tw7 T8 S8 X8 hx8 e8
                  rcases hcT : chk T.r T.c T.t T.ph T.p.k T.p.f T.p.c T.p.t T.p.b
                  all_goals
                    cases B
                  all_goals
                    try have h77 := hB7.2 rfl
                    clear hB7
                    go_wp2_with (refine wpList_store_row rfl 26 _ _ rfl w.heap.size _ rfl rfl 26 _ HS8.out info_state rfl (by simp [Value.oneCell']) ?_)
                    go_roundw
                    case rel => exact ⟨n + 1, T, _, by omega, by go_num, rfl, HB7.out, setRow_heap _ _ _ _ _ _ HS8.out, Ext.setRow HX8.out (Nat.le_refl _) _⟩
                    case measure => simp [intOf]; omega
        · obtain ⟨k1, k2⟩ := key hf
          clear key hf
          go_wp2_with fail
          clear k1
          refine (or_check _ _ _ _ _ _ _ _ _ _).mono ?_
          rintro e w7 ⟨rfl, hx7⟩
          have Sw7 := heap_ext Sw6 hx7
          have Tw7 := heap_ext Tw6 hx7
          have HXc := Lib.hid (HXb.out.trans hx7)
          have csw7 := fun j => cell_of_row w7 _ j _ _ _ Sw7
          have ctw7 := fun j => cell_of_row w7 _ j _ _ _ Tw7
          have lsw7 : w.heap.size < w7.heap.size := (Array.getElem?_eq_some_iff.1 Sw7).1
          have ltw7 : gT < w7.heap.size := (Array.getElem?_eq_some_iff.1 Tw7).1
          have Vw7 := Lib.hid (view_ext Vw6.out hx7)
          clear Sw6 Tw6 Vw6 hx7 csw6 ctw6 lsw6 ltw6 HXb
          rcases hc : chk sn.r sn.c sn.t sn.ph sn.p.k sn.p.f sn.p.c sn.p.t sn.p.b
          · clear HK
            go_wp2_with fail
            go_loopw [5, 9] (fun b i wz => ∃ (m : Nat) (z : ExtOf w7), m ≤ O.length ∧ i = .int .i64 m ∧ wz = z.val ∧ b = .bool (sent || (O.take m).any (fun o => o.l.k == 2))) (fun _ i _ => O.length - (intOf i).toNat)
            case atStart => exact ⟨0, ⟨w7, Ext.refl _⟩, Nat.zero_le _, rfl, rfl, by simp⟩
            case round =>
              obtain ⟨m, z, hmn, rfl, rfl, rfl⟩ := hrel
              generalize hB2 : (sent || (O.take m).any (fun o => o.l.k == 2)) = B
              have HB2 := Lib.hid hB2
              clear hB2
              by_cases hlt2 : m < O.length
              · exact absurd hlt2 (by omega)
              · obtain rfl : m = O.length := by omega
                rw [List.take_length] at HB2
                go_wp2_with fail
                refine (or_check _ _ _ _ _ _ _ _ _ _).mono ?_
                rintro e w8 ⟨rfl, hx8⟩
                have e8 : Ext w7 w8 := z.ext.trans hx8
                have S8 := heap_ext Sw7 e8
                have T8 := heap_ext Tw7 e8
                have X8 := HXR.out.trans (HXc.out.trans e8)
                have ct8 := fun j => cell_of_row w8 _ j _ _ _ T8
                have lt8 : gT < w8.heap.size := (Array.getElem?_eq_some_iff.1 T8).1
                have hB7 := inv_key hT2.out hI2.out HB2.out
                have HB7 := Lib.hid hB7.1
                have HS8 := Lib.hid S8
                have HX8 := Lib.hid X8
                clear csw7 ctw7 lsw7 ltw7 Sw7 Tw7 T8 S8 X8 hx8 e8
                rcases hcT : chk T.r T.c T.t T.ph T.p.k T.p.f T.p.c T.p.t T.p.b
                all_goals
                  cases B
                all_goals
                  try have h77 := hB7.2 rfl
                  clear hB7
                  go_wp2_with (refine wpList_store_row rfl 26 _ _ rfl w.heap.size _ rfl rfl 26 _ HS8.out info_state rfl (by simp [Value.oneCell']) ?_)
                  go_roundw
                  case rel => exact ⟨n + 1, T, _, by omega, by go_num, rfl, HB7.out, setRow_heap _ _ _ _ _ _ HS8.out, Ext.setRow HX8.out (Nat.le_refl _) _⟩
                  case measure => simp [intOf]; omega
          · rcases h3 : (sn.ph == 3)
            · clear HK
              go_wp2_with fail
              go_loopw [5, 9] (fun b i wz => ∃ (m : Nat) (z : ExtOf w7), m ≤ O.length ∧ i = .int .i64 m ∧ wz = z.val ∧ b = .bool (sent || (O.take m).any (fun o => o.l.k == 2))) (fun _ i _ => O.length - (intOf i).toNat)
              case atStart => exact ⟨0, ⟨w7, Ext.refl _⟩, Nat.zero_le _, rfl, rfl, by simp⟩
              case round =>
                obtain ⟨m, z, hmn, rfl, rfl, rfl⟩ := hrel
                generalize hB2 : (sent || (O.take m).any (fun o => o.l.k == 2)) = B
                have HB2 := Lib.hid hB2
                clear hB2
                by_cases hlt2 : m < O.length
                · exact absurd hlt2 (by omega)
                · obtain rfl : m = O.length := by omega
                  rw [List.take_length] at HB2
                  go_wp2_with fail
                  refine (or_check _ _ _ _ _ _ _ _ _ _).mono ?_
                  rintro e w8 ⟨rfl, hx8⟩
                  have e8 : Ext w7 w8 := z.ext.trans hx8
                  have S8 := heap_ext Sw7 e8
                  have T8 := heap_ext Tw7 e8
                  have X8 := HXR.out.trans (HXc.out.trans e8)
                  have ct8 := fun j => cell_of_row w8 _ j _ _ _ T8
                  have lt8 : gT < w8.heap.size := (Array.getElem?_eq_some_iff.1 T8).1
                  have hB7 := inv_key hT2.out hI2.out HB2.out
                  have HB7 := Lib.hid hB7.1
                  have HS8 := Lib.hid S8
                  have HX8 := Lib.hid X8
                  clear csw7 ctw7 lsw7 ltw7 Sw7 Tw7 T8 S8 X8 hx8 e8
                  rcases hcT : chk T.r T.c T.t T.ph T.p.k T.p.f T.p.c T.p.t T.p.b
                  all_goals
                    cases B
                  all_goals
                    try have h77 := hB7.2 rfl
                    clear hB7
                    go_wp2_with (refine wpList_store_row rfl 26 _ _ rfl w.heap.size _ rfl rfl 26 _ HS8.out info_state rfl (by simp [Value.oneCell']) ?_)
                    go_roundw
                    case rel => exact ⟨n + 1, T, _, by omega, by go_num, rfl, HB7.out, setRow_heap _ _ _ _ _ _ HS8.out, Ext.setRow HX8.out (Nat.le_refl _) _⟩
                    case measure => simp [intOf]; omega
            · have h7 := HK.out h3
              clear HK
              go_wp2_with fail
              go_loopw [5, 9] (fun b i wz => ∃ (m : Nat) (z : ExtOf w7), m ≤ O.length ∧ i = .int .i64 m ∧ wz = z.val ∧ b = .bool (sent || (O.take m).any (fun o => o.l.k == 2))) (fun _ i _ => O.length - (intOf i).toNat)
              case atStart => exact ⟨0, ⟨w7, Ext.refl _⟩, Nat.zero_le _, rfl, rfl, by simp⟩
              case round =>
                obtain ⟨m, z, hmn, rfl, rfl, rfl⟩ := hrel
                generalize hB2 : (sent || (O.take m).any (fun o => o.l.k == 2)) = B
                have HB2 := Lib.hid hB2
                clear hB2
                by_cases hlt2 : m < O.length
                · exact absurd hlt2 (by omega)
                · obtain rfl : m = O.length := by omega
                  rw [List.take_length] at HB2
                  go_wp2_with fail
                  refine (or_check _ _ _ _ _ _ _ _ _ _).mono ?_
                  rintro e w8 ⟨rfl, hx8⟩
                  have e8 : Ext w7 w8 := z.ext.trans hx8
                  have S8 := heap_ext Sw7 e8
                  have T8 := heap_ext Tw7 e8
                  have X8 := HXR.out.trans (HXc.out.trans e8)
                  have ct8 := fun j => cell_of_row w8 _ j _ _ _ T8
                  have lt8 : gT < w8.heap.size := (Array.getElem?_eq_some_iff.1 T8).1
                  have hB7 := inv_key hT2.out hI2.out HB2.out
                  have HB7 := Lib.hid hB7.1
                  have HS8 := Lib.hid S8
                  have HX8 := Lib.hid X8
                  clear csw7 ctw7 lsw7 ltw7 Sw7 Tw7 T8 S8 X8 hx8 e8
                  rcases hcT : chk T.r T.c T.t T.ph T.p.k T.p.f T.p.c T.p.t T.p.b
                  all_goals
                    cases B
                  all_goals
                    try have h77 := hB7.2 rfl
                    clear hB7
                    go_wp2_with (refine wpList_store_row rfl 26 _ _ rfl w.heap.size _ rfl rfl 26 _ HS8.out info_state rfl (by simp [Value.oneCell']) ?_)
                    go_roundw
                    case rel => exact ⟨n + 1, T, _, by omega, by go_num, rfl, HB7.out, setRow_heap _ _ _ _ _ _ HS8.out, Ext.setRow HX8.out (Nat.le_refl _) _⟩
                    case measure => simp [intOf]; omega
    · obtain rfl : n = L.length := by omega
      go_wp2_with fail
      refine (live_any _).mono ?_
      rintro e w9 ⟨rfl, hx9⟩
      go_wp2_with fail
      go_ret
      exact ⟨rfl, HXR.out.trans hx9⟩
end Go.Proofs.Ytnfehccnofhmnaa

/-
  Plain laws of the originator's table: good stays good. No condition.
-/
namespace Go.Proofs.Ytnfehccnofhmnaa

/-- The event of a patience that is over. -/
def tickE (c : Int) : Ev := ⟨3, c, { data := #[] }, l0⟩

theorem chk_first {s : St} (h : chkS s = true) : s.r = 0 ∧ s.t.size ≤ 64 ∧ (s.ph = 6 ∧ chk6 s.c s.t s.p.k s.p.f s.p.c s.p.t s.p.b = true ∨
    s.ph = 0 ∧ s.t.toList.isEmpty = true ∧ lEq s.p.k s.p.f s.p.c s.p.t s.p.b 0 0 0 { data := #[] } false = true ∨
    (s.ph = 2 ∨ s.ph = 3 ∨ s.ph = 4 ∨ s.ph = 5 ∨ s.ph = 7) ∧ lEq s.p.k s.p.f s.p.c s.p.t s.p.b 0 0 0 { data := #[] } false = true) := by
  unfold chkS chk at h
  split at h
  · rename_i h0
    refine ⟨h0.1, h0.2, ?_⟩
    split at h
    · exact .inl ⟨‹_›, h⟩
    · split at h
      · simp only [Bool.and_eq_true] at h
        exact .inr (.inl ⟨‹_›, h.1, h.2⟩)
      · split at h
        · exact .inr (.inr ⟨‹_›, h⟩)
        · cases h
  · cases h

theorem chk_mid {s : St} (hr : s.r = 0) (ht : s.t.size ≤ 64) (hp : s.ph = 2 ∨ s.ph = 3 ∨ s.ph = 4 ∨ s.ph = 5 ∨ s.ph = 7) (hl : lEq s.p.k s.p.f s.p.c s.p.t s.p.b 0 0 0 { data := #[] } false = true) : chkS s = true := by
  unfold chkS chk
  rw [if_pos ⟨hr, ht⟩, if_neg (by omega), if_neg (by omega), if_pos hp]
  exact hl
theorem chk_six {s : St} (hr : s.r = 0) (ht : s.t.size ≤ 64) (hp : s.ph = 6) (hl : s.p = sgS s.c s.t 1 ∨ s.p = inS s.c s.t) : chkS s = true := by
  unfold chkS chk
  rw [if_pos ⟨hr, ht⟩, if_pos hp]
  unfold chk6
  rcases hl with h | h <;> rw [h] <;> simp [lEq, sgS, inS]

/-- A good state stays good, with its contract. -/
theorem good_step {s : St} (e : Ev) (h : chkS s = true) : chkS (stepS s e).1 = true ∧ (stepS s e).1.c = s.c ∧ (stepS s e).2.length ≤ 1 ∧ (s.ph ≠ 0 → (stepS s e).1.t = s.t) := by
  obtain ⟨hr, ht, hp⟩ := chk_first h
  by_cases h0 : s.ph = 0
  · have hl : lEq s.p.k s.p.f s.p.c s.p.t s.p.b 0 0 0 { data := #[] } false = true := by
      rcases hp with h1 | h1 | h1
      · omega
      · exact h1.2.2
      · omega
    unfold stepS
    rw [if_pos h, if_pos h0]
    split
    · rename_i hs
      exact ⟨chk_mid hr hs.2.2 (.inl rfl) hl, rfl, by unfold outS; split <;> (try split) <;> simp, fun hn => absurd h0 hn⟩
    · exact ⟨h, rfl, by simp, fun hn => absurd h0 hn⟩
  · rcases step_cases s e with h1 | ⟨h1, _⟩ | ⟨x, hx, hc, hn, htk, h1⟩
    · rw [h1]; exact ⟨h, rfl, by simp, fun _ => rfl⟩
    · exact absurd h1 h0
    · rw [h1]
      have hlen : (outS x.sends).length ≤ 1 := by unfold outS; split <;> (try split) <;> simp
      refine ⟨?_, rfl, hlen, fun _ => rfl⟩
      have hl : s.ph ≠ 6 → lEq s.p.k s.p.f s.p.c s.p.t s.p.b 0 0 0 { data := #[] } false = true := fun h6 => by
        rcases hp with h1 | h1 | h1
        · exact absurd h1.1 h6
        · exact absurd h1.1 h0
        · exact h1.2
      rcases rows_mem hx with ⟨hp2, hr2⟩ | ⟨hp2, hr2⟩ | ⟨hp2, hr2⟩ | ⟨hp2, hr2⟩
      all_goals have hl' := hl (by omega)
      · rcases hr2 with rfl | rfl
        · exact chk_mid hr ht (.inr (.inl rfl)) hl'
        · exact chk_mid hr ht (.inr (.inr (.inl rfl))) hl'
      · rcases hr2 with rfl | rfl | rfl
        · exact chk_mid hr ht (.inr (.inl rfl)) hl'
        · exact chk_six hr ht rfl (.inl rfl)
        · exact chk_mid hr ht (.inr (.inr (.inr (.inl rfl)))) hl'
      · rcases hr2 with rfl | rfl | rfl
        · exact chk_mid hr ht (.inr (.inr (.inl rfl))) hl'
        · exact chk_mid hr ht (.inr (.inr (.inr (.inr rfl)))) hl'
        · exact chk_six hr ht rfl (.inr rfl)
      · rcases hr2 with rfl | rfl | rfl
        · exact chk_mid hr ht (.inr (.inr (.inr (.inl rfl)))) hl'
        · exact chk_six hr ht rfl (.inl rfl)
        · exact chk_six hr ht rfl (.inr rfl)

/-- Where a good state can stand, and what a tick then does. -/
theorem good_cases {s : St} (h : chkS s = true) :
    ((s.ph == 6) = true ∧ (s.ph != 0) = true ∧ finS s = true ∧ (s.p.c != s.c) = false ∧ s.p.t = s.t ∧ (s.p.k = 2 ∨ s.p.k = 6)) ∨
    ((s.ph == 6) = false ∧ (s.ph != 0) = true ∧ finS s = true) ∨ ((s.ph == 6) = false ∧ (s.ph != 0) = false) ∨
    ((s.ph == 6) = false ∧ (s.ph != 0) = true ∧ finS s = false ∧ ∃ T o, stepS s (tickE s.c) = (T, [o]) ∧ o.to = 2) := by
  obtain ⟨hr, ht, hp⟩ := chk_first h
  rcases hp with ⟨hp, h6⟩ | ⟨hp, _, _⟩ | ⟨hp, hl⟩
  · refine .inl ⟨by simp [hp], by simp [hp], by simp [finS, h, hp], ?_⟩
    unfold chk6 at h6
    simp only [Bool.or_eq_true, lEq_true] at h6
    rcases h6 with ⟨a, _, b, c, _⟩ | ⟨a, _, b, c, _⟩
    · exact ⟨by simp [b], c, .inl a⟩
    · exact ⟨by simp [b], c, .inr a⟩
  · exact .inr (.inr (.inl ⟨by simp [hp], by simp [hp]⟩))
  · by_cases h7 : s.ph = 7
    · exact .inr (.inl ⟨by simp [h7], by simp [h7], by simp [finS, h, h7]⟩)
    · refine .inr (.inr (.inr ⟨by simp; omega, by simp; omega, by simp [finS]; omega, ?_⟩))
      have h0 : ¬ s.ph = 0 := by omega
      have e : stepS s (tickE s.c) = match (rowsS s.c s.t s.ph).find? (fun x => takesR x s (tickE s.c)) with | some x => (toS x s, outS x.sends) | none => (s, []) := by
        unfold stepS
        rw [if_pos h, if_neg h0]
        rfl
      rw [e]
      rcases hp with hp | hp | hp | hp | hp
      · rw [hp]; exact ⟨_, _, by simp [rowsS, takesR, takesS, tickE, outS, abS]; exact ⟨rfl, rfl⟩, rfl⟩
      · rw [hp]; exact ⟨_, _, by simp [rowsS, takesR, takesS, tickE, outS, rsS]; exact ⟨rfl, rfl⟩, rfl⟩
      · rw [hp]; exact ⟨_, _, by simp [rowsS, takesR, takesS, tickE, outS, abS]; exact ⟨rfl, rfl⟩, rfl⟩
      · rw [hp]; exact ⟨_, _, by simp [rowsS, takesR, takesS, tickE, outS, rsS]; exact ⟨rfl, rfl⟩, rfl⟩
      · exact absurd hp h7
end Go.Proofs.Ytnfehccnofhmnaa

/-
  Walk: many steps. No condition.
-/
namespace Go.Proofs.Ytnfehccnofhmnaa
open Go.RowKit
attribute [local go_sem ↓] eql_lEq eql_sEq eql_eEq eql_oEq neq_lEq neq_sEq neq_eEq neq_oEq
attribute [local go_sem] ExtOf.cell ExtOf.frozen ExtOf.lt ExtOf.le
attribute [local go_sem high] ExtOf.cell2 ExtOf.frozen2 ExtOf.lt2 ExtOf.cell3 ExtOf.frozen3 ExtOf.lt3 ExtOf.cellB ExtOf.frozenB ExtOf.cellX ExtOf.frozenX ExtOf.cellX' ExtOf.frozenX'
attribute [local go_sem] BelOf.cell BelOf.frozen BelOf.lt

def runF (p : St × List Ou) (e : Ev) : St × List Ou := ((stepS p.1 e).1, p.2 ++ (stepS p.1 e).2)
def runS (s : St) (L : List Ev) : St × List Ou := L.foldl runF (s, [])

theorem outS_len (l : Lt) : (outS l).length ≤ 1 := by
  unfold outS
  split
  · simp
  · split <;> simp

theorem stepS_len (s : St) (e : Ev) : (stepS s e).2.length ≤ 1 := by
  unfold stepS
  split
  · split
    · split
      · exact outS_len (prS s.c e.t 0)
      · simp
    · split
      · rename_i x _
        exact outS_len x.sends
      · simp
  · simp

theorem run_len : ∀ (L : List Ev) (p : St × List Ou), (L.foldl runF p).2.length ≤ p.2.length + L.length
  | [], p => by simp
  | e :: L, p => by
    have := run_len L (runF p e)
    have h2 := stepS_len p.1 e
    simp only [List.foldl_cons, List.length_cons]
    simp only [runF, List.length_append] at this ⊢
    omega

theorem run_next {s : St} {L : List Ev} {n : Nat} {x : Ev} {T T' : St} {O O' : List Ou} (hx : L[n]? = some x) (h : runS s (L.take n) = (T, O)) (hs : stepS T x = (T', O')) : runS s (L.take (n + 1)) = (T', O ++ O') := by
  unfold runS at *
  rw [fold_take _ _ hx, h]
  unfold runF
  simp only [hs]

/-- append to a row of the call's own (in a block from B on), of another one. -/
theorem wpList_app2 {P : Program} {ops : Array Oper} {rest : List Oper} {o : Oper} {a : Act} {Q : Exit → Act → World → Prop} {w : World} (B : Nat) (t e : TypeId) (i : TypeInfo) (z : Value) (size bytes : Nat)
    (ht : P.underlying t = some (.slice e)) (hi : P.info? e = some i) (hz : i.zero = some z) (hsize : i.size = size) (hby : i.bytes = bytes) (hzs : z.cells.size = size) (hsz : 0 < size)
    (hgd : o.guard = none) (s x : Operand) (ho : o.op = .call { callee := .builtin .append, args := #[s, x], argTypes := #[t, t] })
    (v : Value) (n : Nat) (xs : List Value) (hs : a.eval s = v) (hown : w.ownsRow B e size v n xs) (hB : B ≤ w.heap.size)
    (B2 : Nat) (v2 : Value) (m : Nat) (news : List Value) (hx : a.eval x = v2) (hown2 : w.ownsRow B2 e size v2 m news) (h1 : ∀ u ∈ news, u.oneCell' = true)
    (h63 : n + m ≤ maxLen) (hbytes : (n + m) * bytes ≤ 140737488355328)
    (h : ∀ v' w', w'.ownsRow B e size v' (n + m) (xs ++ news) → Below B w w' → w.grownBy w' v.ownBlock → wpList P ops Q rest (a.put o.dst v') w') : wpList P ops Q (o :: rest) a w := by
  obtain ⟨hl, hcase⟩ := hown2
  rcases hcase with ⟨hv2, hm0⟩ | ⟨g, cap, cur, hv2, hb, hg, hn, hcm, hcs, htk⟩
  · subst hm0
    have hnews : news = [] := List.length_eq_zero_iff.1 (by simpa using hl)
    subst hnews
    refine wpList_append_own_none hgd s x t ho B e i size ht hi v n xs hs hown (by rw [hx, hv2]) (h v w (by simpa using hown) (Below.refl _ _) ⟨rfl, rfl, rfl, Nat.le_refl _, fun _ _ _ => rfl⟩)
  · refine wpList_append_own w hgd s x t ho B e i z size bytes ht hi hz hsize hby hzs hsz v n xs hs hown ⟨g, 0, none⟩ m cap news (by rw [hx, hv2]) hl (fun j u hj => ?_) h1 h63 hbytes hB
      fun v' w' k1 k2 _ => h v' w' k1 (Below.grown (Below.refl _ _) k2 hB fun k hk => (hown.lt k hk).1) k2
    have : (⟨g, 0, none⟩ : Addr).add j = ⟨g, j, none⟩ := by unfold Addr.add; split <;> simp_all
    rw [this, cell_of_row w g j cur e (0, 0) hg]
    rw [← htk] at hj
    have : j < m * size := by
      have := (List.getElem?_eq_some_iff.1 hj).1
      rw [htk, hl] at this
      exact this
    rw [List.getElem?_take_of_lt this] at hj
    simpa using hj

/-- append to a row of the call's own (in a block from B on), of one that can be read. -/
theorem wpList_app3 {P : Program} {ops : Array Oper} {rest : List Oper} {o : Oper} {a : Act} {Q : Exit → Act → World → Prop} {w : World} (B : Nat) (t e : TypeId) (i : TypeInfo) (z : Value) (size bytes : Nat)
    (ht : P.underlying t = some (.slice e)) (hi : P.info? e = some i) (hz : i.zero = some z) (hsize : i.size = size) (hby : i.bytes = bytes) (hzs : z.cells.size = size) (hsz : 0 < size)
    (hgd : o.guard = none) (s x : Operand) (ho : o.op = .call { callee := .builtin .append, args := #[s, x], argTypes := #[t, t] })
    (v : Value) (n : Nat) (xs : List Value) (hs : a.eval s = v) (hown : w.ownsRow B e size v n xs) (hB : B ≤ w.heap.size)
    (v2 : Value) (m : Nat) (news : List Value) (hx : a.eval x = v2) (hl : news.length = m * size)
    (hrow : (m = 0 ∧ v2 = .slice none 0 0) ∨ ∃ g off cap, v2 = .slice (some ⟨g, off, none⟩) m cap ∧ ∀ j u, news[j]? = some u → w.cell? ⟨g, off + j, none⟩ = some u) (h1 : ∀ u ∈ news, u.oneCell' = true)
    (h63 : n + m ≤ maxLen) (hbytes : (n + m) * bytes ≤ 140737488355328)
    (h : ∀ v' w', w'.ownsRow B e size v' (n + m) (xs ++ news) → Below B w w' → w.grownBy w' v.ownBlock → wpList P ops Q rest (a.put o.dst v') w') : wpList P ops Q (o :: rest) a w := by
  rcases hrow with ⟨hm0, hv2⟩ | ⟨g, off, cap, hv2, hc⟩
  · subst hm0
    have hnews : news = [] := List.length_eq_zero_iff.1 (by simpa using hl)
    subst hnews
    refine wpList_append_own_none hgd s x t ho B e i size ht hi v n xs hs hown (by rw [hx, hv2]) (h v w (by simpa using hown) (Below.refl _ _) ⟨rfl, rfl, rfl, Nat.le_refl _, fun _ _ _ => rfl⟩)
  · exact wpList_append_own w hgd s x t ho B e i z size bytes ht hi hz hsize hby hzs hsz v n xs hs hown ⟨g, off, none⟩ m cap news (by rw [hx, hv2]) hl (fun j u hj => by
      have : (⟨g, off, none⟩ : Addr).add j = ⟨g, off + j, none⟩ := by unfold Addr.add; split <;> simp_all
      rw [this]; exact hc j u hj) h1 h63 hbytes hB
      fun v' w' k1 k2 _ => h v' w' k1 (Below.grown (Below.refl _ _) k2 hB fun k hk => (hown.lt k hk).1) k2

/-- A goal that the walk leaves. -/
def Hd (p : Prop) : Prop := p
theorem unHd {p : Prop} (h : Hd p) : p := h

theorem ou_one (O : List Ou) : ∀ u ∈ O.flatMap Ou.cs, u.oneCell' = true := fun u hu => by
  obtain ⟨o, _, ho⟩ := List.mem_flatMap.1 hu
  simp only [Ou.cs, Lt.cs, List.mem_cons, List.mem_append, List.not_mem_nil, or_false, List.cons_append, List.nil_append] at ho
  rcases ho with rfl | rfl | rfl | rfl | rfl | rfl <;> simp [Value.oneCell']

theorem info_outs : (Try.prog.info? 45).map (fun i => (i.zero, i.size, i.bytes)) = some (some (.agg #[.int .i64 0, .int .i64 0, .int .i64 0, .int .u64 0, .string { data := #[] }, .bool false]), 6, 56) := by kernel_rfl

set_option maxRecDepth 100000 in
set_option maxHeartbeats 4000000 in
theorem or_run (r c : Int) (t : ByteArray) (ph k f c2 : Int) (t2 : ByteArray) (fk : Bool) (v : Value) (L : List Ev) (w : World) (hR : Row w 8 v L.length (L.flatMap Ev.cs)) (hL : L.length ≤ 60) :
    Calls Try.prog 27 #[.agg #[.int .i64 r, .int .u64 c, .string t, .int .i64 ph, .int .i64 k, .int .i64 f, .int .u64 c2, .string t2, .bool fk], v] w (SteppedT w (runS ⟨r, c, t, ph, ⟨k, f, c2, t2, fk⟩⟩ L)) := by
  obtain ⟨ti0, hi, hz0, hz1, hz2⟩ := info_parts info_outs
  obtain ⟨a, cap, rfl, hm, hvw⟩ := row_view hR
  have HV := Lib.hid hvw
  clear hvw hR
  unfold maxLen at hm
  go_enter Try.func27, Try.ntmps27
  go_wp2_with fail
  go_loopw [6, 12] (fun all i wr => ∃ (n : Nat) (T : St) (O : List Ou), n ≤ L.length ∧ i = .int .i64 n ∧ runS ⟨r, c, t, ph, ⟨k, f, c2, t2, fk⟩⟩ (L.take n) = (T, O) ∧
      wr.heap[w.heap.size]? = some (.cells #[.int .i64 T.r, .int .u64 T.c, .string T.t, .int .i64 T.ph, .int .i64 T.p.k, .int .i64 T.p.f, .int .u64 T.p.c, .string T.p.t, .bool T.p.b] 26 (0, 0)) ∧
      wr.heap[w.heap.size + 1]? = some (.cells #[.int .i64 0, .int .u64 0, .string { data := #[] }, .int .i64 0, .int .i64 0, .int .i64 0, .int .u64 0, .string { data := #[] }, .bool false] 26 (0, 0)) ∧
      Ext w wr ∧ wr.ownsRow (w.heap.size + 2) 45 6 all O.length (O.flatMap Ou.cs)) (fun _ i _ => L.length - (intOf i).toNat)
  case atStart => exact ⟨0, ⟨r, c, t, ph, ⟨k, f, c2, t2, fk⟩⟩, [], Nat.zero_le _, rfl, rfl, heap_ext (heap_new rfl) ((Ext.refl _).alloc _), heap_new (by simp), ((Ext.refl _).alloc _).alloc _, World.ownsRow_nil _ _ _ _⟩
  case round =>
    obtain ⟨n, T, O, hn, rfl, hrun, hbox, hres, hxr, hown⟩ := hrel
    rename_i wr
    have hO : O.length ≤ n := by
      have := run_len (L.take n) (⟨r, c, t, ph, ⟨k, f, c2, t2, fk⟩⟩, [])
      unfold runS at hrun
      rw [hrun] at this
      simp at this
      omega
    obtain ⟨a3, cap3, rfl, hm3, -⟩ := own_view hown
    have HRun := Lib.hid hrun
    have HB := Lib.hid hbox
    have HRes := Lib.hid hres
    have HXR := Lib.hid hxr
    have HO := Lib.hid hown
    clear hrun hown
    by_cases hlt : n < L.length
    · obtain ⟨g, off, rfl, hg, hcell⟩ := HV.out (by omega)
      obtain ⟨x, hx⟩ : ∃ x, L[n]? = some x := ⟨_, List.getElem?_eq_getElem hlt⟩
      obtain ⟨q0, q1, q2, q3, q4, q5, q6, q7⟩ := ev_cellsO (fun j u hj => cell_keep (hcell j u hj) hxr) hx
      have HX := Lib.hid hx
      have hcb := fun j => cell_of_row wr _ j _ _ _ hbox
      have hlb : w.heap.size < wr.heap.size := (Array.getElem?_eq_some_iff.1 hbox).1
      have hgr : g < wr.heap.size := Nat.lt_of_lt_of_le (hg (by omega)) hxr.size
      have i0 : (0 : Int) ≤ (n : Int) := by omega
      have i1 : (n : Int) < (L.length : Int) := by omega
      clear hx hcell hg hbox hxr hres
      go_wp2_with fail
      refine (or_stepT _ _ _ _ _ _ _ _ _ _ _ _ _ _ _ _ _ _).mono ?_
      rintro e w4 ⟨T', O', v', hT, rfl, hv, hx4⟩
      have hy4 : Ext wr w4 := ((Ext.refl wr).alloc _).trans hx4
      have b4 := heap_ext HB.out hy4
      have r4 := heap_ext HRes.out hy4
      have o4 := own_ext HO.out hy4
      have hO' : O'.length ≤ 1 := by have := stepS_len T x; rw [hT] at this; exact this
      go_wp2_with (first | refine wpList_store_row rfl 26 _ _ rfl w.heap.size _ rfl rfl 26 _ b4 info_state rfl (by simp [Value.oneCell']) ?_ | (at_builtin; refine unHd ?_))
      unfold Hd
      refine wpList_app2 (w.heap.size + 2) 32 45 ti0 _ 6 56 Try.underlying32 hi hz0 hz1 hz2 rfl (by decide) rfl _ _ rfl _ _ _ rfl (own_setRow o4 b4 (by decide) _) ?hsz1 _ _ _ _ rfl (own_setRow hv b4 (by decide) _) (ou_one O') ?hsz2 ?hsz3 ?hsz4
      case hsz1 => simp; have := hy4.size; have := (Array.getElem?_eq_some_iff.1 HRes.out).1; omega
      case hsz2 => unfold maxLen; omega
      case hsz3 => omega
      intro v5 w5 hown5 hb5 hg5
      go_wp2_with fail
      go_roundw
      case rel =>
        refine ⟨n + 1, T', O ++ O', by omega, by go_num, run_next HX.out HRun.out hT, ?_, ?_, ?_, ?_⟩
        · rw [hb5.block _ (by omega)]
          exact setRow_heap _ _ _ _ _ _ b4
        · rw [hb5.block _ (by omega), setRow_other _ _ _ _ (by omega)]
          exact r4
        · exact ((HXR.out.trans hy4).setRow (Nat.le_refl _) _).trans' (Below.mono hb5 (by omega))
        · simpa using hown5
      case measure => simp [intOf]; omega
    · obtain rfl : n = L.length := by omega
      have hcb := fun j => cell_of_row wr _ j _ _ _ hbox
      have hcr := fun j => cell_of_row wr _ j _ _ _ hres
      have hlb : w.heap.size + 1 < wr.heap.size := (Array.getElem?_eq_some_iff.1 hres).1
      clear hbox hxr
      go_wp2_with (refine wpList_store_row rfl 26 _ _ rfl (w.heap.size + 1) _ rfl rfl 26 _ hres info_state rfl (by simp [Value.oneCell']) ?_)
      refine bodyPost_ret (results_row_tmp rfl _ _ _ 26 _ (0, 0) _ rfl (setRow_heap _ _ _ _ _ _ hres) Try.underlying26 rfl info_state) rfl ?_
      rw [List.take_length] at HRun
      exact ⟨T, O, _, HRun.out, rfl, own_base (own_setRow HO.out hres (by decide) _) (by omega), HXR.out.setRow (by omega) _⟩
end Go.Proofs.Ytnfehccnofhmnaa

/-
  Symbols in the abstract machine: the rest of a function, from a state whose variables lie in memory: true in all ways. No condition.
-/
namespace Go.Proofs.Ytnfehccnofhmnaa
open Go.RowKit
namespace E

/-- What is known cannot be. -/
def contra (K : Know) : Bool := K.any fun f => f.b && K.any fun g => f.lt == g.lt && !g.b && symB 20 (canon K f.x) (canon K g.x) && symB 20 (canon K f.y) (canon K g.y)

theorem contra_ok {ρ : Env} {K : Know} (hK : Holds ρ K) : contra K = false := by
  cases h : contra K with
  | false => rfl
  | true =>
    exfalso
    unfold contra at h
    obtain ⟨f, hf, h⟩ := List.any_eq_true.1 h
    rw [Bool.and_eq_true] at h
    obtain ⟨hb, h⟩ := h
    obtain ⟨g, hg, h⟩ := List.any_eq_true.1 h
    simp only [Bool.and_eq_true, beq_iff_eq, Bool.not_eq_true'] at h
    obtain ⟨⟨⟨hlt, hgb⟩, hx⟩, hy⟩ := h
    have hx' : den ρ f.x = den ρ g.x := by rw [← canon_ok hK f.x, ← canon_ok hK g.x, symB_eq _ hx]
    have hy' : den ρ f.y = den ρ g.y := by rw [← canon_ok hK f.y, ← canon_ok hK g.y, symB_eq _ hy]
    have h1 := (hK f hf).2 hb
    have h2 : ¬ Atom ρ g.lt g.x g.y := fun ha => by
      have := (hK g hg).1 ha
      rw [hgb] at this
      cases this
    apply h2
    rw [← hlt]
    unfold Atom at h1 ⊢
    rw [← hx', ← hy']
    exact h1

def retTrue (X : Ctx) (res : List ResultVar) : Ex × St → Bool
  | (.ret, σ) => match resE X σ res with
    | some v => isTrueV v
    | none => false
  | _ => false

def allRet (X : Ctx) (res : List ResultVar) : Ways (Ex × St) → Bool
  | some l => l.all fun p => contra p.1 || retTrue X res p.2
  | none => false

/-- The code behind n codes. -/
def dropSeq : Nat → Code → Code
  | 0, c => c
  | n + 1, .seq _ b => dropSeq n b
  | _, c => c

theorem wp_of_ways {ρ : Env} {l : FuncId} {fi : Fi} {wins : List (Nat × Win)} {c : Code} {σ : St} {K : Know} {fn : Func} {loops n : Nat} (hl : isTrue (callN Try.prog X0 FT 100 100 l [] ⟨0, []⟩) = true)
    (hcode : codeOk wins c = true) (hcK : codeK c = true)
    (h : allRet X1 fn.results.toList (runCS Try.prog X1 fi (callS Try.prog X1 FT (ovOf l) (gLiveS l) loops n) wins loops c σ K) = true) (hK : Holds ρ K)
    {β : Pls} {μ : Fms} {a : Act} {w : World} (hS : SRel σ.h.next β μ fi.nt (σ.den ρ) a w) :
    c.wp Try.prog (fun e a' w' => e = .ret ∧ a'.defers = [] ∧ (results fn a'.tmps).run Try.prog w' = .ok (.bool true) w' ∧ ∃ β' μ' σ', Step β μ (σ.den ρ) w β' μ' σ' w') a w := by
  have hs := runCS_ok (P := Try.prog) (X := X1) (fi := fi) (wins := wins) (n := loops) zfree (callS_ok (P := Try.prog) zfree ftK (gLiveS_ok (ρ := ρ) (l := l)) (ov := ovOf l) loops n) c σ K hcK hK
  cases hw : runCS Try.prog X1 fi (callS Try.prog X1 FT (ovOf l) (gLiveS l) loops n) wins loops c σ K with
  | none => rw [hw] at h; cases h
  | some ws =>
    rw [hw] at h
    obtain ⟨p, h1, h2, h3⟩ := hs ws hw
    have hp := List.all_eq_true.1 h p h1
    rw [contra_ok h2, Bool.false_or] at hp
    obtain ⟨K', ex, σ'⟩ := p
    unfold retTrue at hp
    simp only at hp h3
    split at hp
    · rename_i σ2 he
      simp only [Prod.mk.injEq] at he
      obtain ⟨rfl, rfl⟩ := he
      split at hp
      · rename_i v hv
        have hv' := isTrueV_eq hp
        subst hv'
        have hr := resE_den (ρ := ρ) hv
        rw [V.den_free (ρ := ρ) (v := .one (.lit (.bool true))) rfl] at hr
        have hG : GOk Try.prog (callO Try.prog X1 FT (ovOf l) (gLive l) loops n) := callO_ok ttOk1 flatOk1 mixed ftOk (gLive_ok hl) loops n
        have hWP := runC_ok (X := X1) (fi := fi) hG c (σ.den ρ) .ret (σ'.den ρ) (fun e τ => e = .ret ∧ τ = σ'.den ρ) hcode h3 ⟨rfl, rfl⟩
        refine Go.wp_mono (WP_sound ttOk1 flatOk1 (drawOk ttOk1 flatOk1 mixed wins) c (σ.den ρ) _ β μ a w hWP hS) fun e a' w' he => ?_
        obtain ⟨ex, τ, β', μ', k1, ⟨rfl, rfl⟩, k3, k4, k5, k6⟩ := he
        obtain ⟨y, g1, g2⟩ := resE_ok (P := Try.prog) ttOk1 k3 hr
        have hy : y = .bool true := g2
        subst hy
        cases e <;> simp only [ExRel] at k1
        exact ⟨rfl, k3.defers, g1, β', μ', _, k4⟩
      · cases hp
    · cases hp

/-- A state with two variables in memory, and nothing more. -/
theorem srel_two {t u : Nat} (htu : t ≠ u) {nt : Nat} {ct cu : List C} {a : Act} {w : World} {r s : Nat} (hrs : r ≠ s) {xs ys : Array Value} {el fl : TypeId} (hsz : a.tmps.size = nt) (hd : a.defers = [])
    (ht : a.tmps[t]? = some (.pointer (some ⟨r, 0, none⟩))) (hu : a.tmps[u]? = some (.pointer (some ⟨s, 0, none⟩)))
    (hr : w.heap[r]? = some (.cells xs el (0, 0))) (hs : w.heap[s]? = some (.cells ys fl (0, 0)))
    (hx : All2 (CRel (fun _ => none) noF) ct xs.toList) (hy : All2 (CRel (fun _ => none) noF) cu ys.toList) :
    SRel 0 (fun _ => none) (fun k => if k = t then some r else if k = u then some s else none) nt ⟨[(t, .one (.lp t 0)), (u, .one (.lp u 0))], [(t, ct), (u, cu)], ⟨0, []⟩⟩ a w := by
  have hbx : ∀ k cs, get [(t, ct), (u, cu)] k = some cs → (k = t ∧ cs = ct) ∨ (k = u ∧ cs = cu) := fun k cs h => by
    rw [get_cons] at h
    split at h
    · rename_i e; cases h; exact .inl ⟨e.symm, rfl⟩
    · rw [get_cons] at h
      split at h
      · rename_i e; cases h; exact .inr ⟨e.symm, rfl⟩
      · cases h
  have hut : ¬ u = t := fun e => htu e.symm
  refine ⟨⟨fun _ _ => rfl, (fun b x e => by cases e), (fun b b' x x' p p' _ e => by cases e)⟩, hsz, hd, fun k v h => ?_, fun k cs h => ?_, fun k k' cs cs' q hk h1 h2 h3 h4 => ?_, fun k cs b x p _ e => by cases e⟩
  · rw [get_cons] at h
    split at h
    · rename_i e; subst e; cases h
      exact ⟨_, ht, r, by simp, rfl⟩
    · rw [get_cons] at h
      split at h
      · rename_i e; subst e; cases h
        exact ⟨_, hu, s, by simp [hut], rfl⟩
      · cases h
  · rcases hbx k cs h with ⟨rfl, rfl⟩ | ⟨rfl, rfl⟩
    · exact ⟨r, by simp, xs, el, hr, hx⟩
    · exact ⟨s, by simp [hut], ys, fl, hs, hy⟩
  · rcases hbx k cs h1 with ⟨rfl, rfl⟩ | ⟨rfl, rfl⟩ <;> rcases hbx k' cs' h2 with ⟨rfl, rfl⟩ | ⟨rfl, rfl⟩ <;> simp_all

/-- What was there before those two variables is as it was. -/
theorem step_two {t u r s : Nat} {ct cu : List C} {w w' : World} {β' : Pls} {μ' : Fms} {σ' : St} {n : Nat} (hr : n ≤ r) (hs : n ≤ s) (hn : n ≤ w.heap.size)
    (h : Step (fun _ => none) (fun k => if k = t then some r else if k = u then some s else none) ⟨[(t, .one (.lp t 0)), (u, .one (.lp u 0))], [(t, ct), (u, cu)], ⟨0, []⟩⟩ w β' μ' σ' w') : Below n w w' := by
  refine ⟨h.os, h.tape, h.output, h.size, fun k hk => h.fr k (by omega) fun hm => ?_⟩
  rcases hm with ⟨b, x, p, e, _⟩ | ⟨q, cs, _, e⟩
  · cases e
  · simp only at e
    split at e
    · cases e; omega
    · split at e
      · cases e; omega
      · cases e
end E
end Go.Proofs.Ytnfehccnofhmnaa

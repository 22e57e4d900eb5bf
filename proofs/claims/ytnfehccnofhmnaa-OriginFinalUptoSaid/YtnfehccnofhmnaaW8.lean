/-
  Walk: the states that come next. No condition.
-/
import Derived.Test.YtnfehccnofhmnaaW7
namespace Go.Proofs.Ytnfehccnofhmnaa
open Go.RowKit
attribute [local go_sem ↓] eql_lEq eql_sEq eql_eEq eql_oEq neq_lEq neq_sEq neq_eEq neq_oEq
attribute [local go_sem] ExtOf.cell ExtOf.frozen ExtOf.lt ExtOf.le
attribute [local go_sem high] ExtOf.cell2 ExtOf.frozen2 ExtOf.lt2 ExtOf.cell3 ExtOf.frozen3 ExtOf.lt3 ExtOf.cellB ExtOf.frozenB ExtOf.cellX ExtOf.frozenX ExtOf.cellX' ExtOf.frozenX'
attribute [local go_sem] BelOf.cell BelOf.frozen BelOf.lt
theorem ev_cells {w : World} {g : Nat} {L : List Ev} {k : Nat} {x : Ev} (h : ∀ j u, (L.flatMap Ev.cs)[j]? = some u → w.cell? ⟨g, j, none⟩ = some u) (hx : L[k]? = some x) :
    w.cell? ⟨g, k * 8, none⟩ = some (.int .i64 x.k) ∧ w.cell? ⟨g, k * 8 + 1, none⟩ = some (.int .u64 x.c) ∧ w.cell? ⟨g, k * 8 + 2, none⟩ = some (.string x.t) ∧ w.cell? ⟨g, k * 8 + 3, none⟩ = some (.int .i64 x.l.k) ∧ w.cell? ⟨g, k * 8 + 4, none⟩ = some (.int .i64 x.l.f) ∧ w.cell? ⟨g, k * 8 + 5, none⟩ = some (.int .u64 x.l.c) ∧ w.cell? ⟨g, k * 8 + 6, none⟩ = some (.string x.l.t) ∧ w.cell? ⟨g, k * 8 + 7, none⟩ = some (.bool x.l.b) := by
  have f := fun j hj => flat_get Ev.cs 8 (fun _ => rfl) L k x hx j hj
  exact ⟨h _ _ (f 0 (by omega)), h _ _ (f 1 (by omega)), h _ _ (f 2 (by omega)), h _ _ (f 3 (by omega)), h _ _ (f 4 (by omega)), h _ _ (f 5 (by omega)), h _ _ (f 6 (by omega)), h _ _ (f 7 (by omega))⟩
theorem st_cells {w : World} {g : Nat} {L : List St} {k : Nat} {x : St} (h : ∀ j u, (L.flatMap St.cs)[j]? = some u → w.cell? ⟨g, j, none⟩ = some u) (hx : L[k]? = some x) :
    w.cell? ⟨g, k * 9, none⟩ = some (.int .i64 x.r) ∧ w.cell? ⟨g, k * 9 + 1, none⟩ = some (.int .u64 x.c) ∧ w.cell? ⟨g, k * 9 + 2, none⟩ = some (.string x.t) ∧ w.cell? ⟨g, k * 9 + 3, none⟩ = some (.int .i64 x.ph) ∧ w.cell? ⟨g, k * 9 + 4, none⟩ = some (.int .i64 x.p.k) ∧ w.cell? ⟨g, k * 9 + 5, none⟩ = some (.int .i64 x.p.f) ∧ w.cell? ⟨g, k * 9 + 6, none⟩ = some (.int .u64 x.p.c) ∧ w.cell? ⟨g, k * 9 + 7, none⟩ = some (.string x.p.t) ∧ w.cell? ⟨g, k * 9 + 8, none⟩ = some (.bool x.p.b) := by
  have f := fun j hj => flat_get St.cs 9 (fun _ => rfl) L k x hx j hj
  exact ⟨h _ _ (f 0 (by omega)), h _ _ (f 1 (by omega)), h _ _ (f 2 (by omega)), h _ _ (f 3 (by omega)), h _ _ (f 4 (by omega)), h _ _ (f 5 (by omega)), h _ _ (f 6 (by omega)), h _ _ (f 7 (by omega)), h _ _ (f 8 (by omega))⟩
theorem ou_cells {w : World} {g : Nat} {L : List Ou} {k : Nat} {x : Ou} (h : ∀ j u, (L.flatMap Ou.cs)[j]? = some u → w.cell? ⟨g, j, none⟩ = some u) (hx : L[k]? = some x) :
    w.cell? ⟨g, k * 6, none⟩ = some (.int .i64 x.to) ∧ w.cell? ⟨g, k * 6 + 1, none⟩ = some (.int .i64 x.l.k) ∧ w.cell? ⟨g, k * 6 + 2, none⟩ = some (.int .i64 x.l.f) ∧ w.cell? ⟨g, k * 6 + 3, none⟩ = some (.int .u64 x.l.c) ∧ w.cell? ⟨g, k * 6 + 4, none⟩ = some (.string x.l.t) ∧ w.cell? ⟨g, k * 6 + 5, none⟩ = some (.bool x.l.b) := by
  have f := fun j hj => flat_get Ou.cs 6 (fun _ => rfl) L k x hx j hj
  exact ⟨h _ _ (f 0 (by omega)), h _ _ (f 1 (by omega)), h _ _ (f 2 (by omega)), h _ _ (f 3 (by omega)), h _ _ (f 4 (by omega)), h _ _ (f 5 (by omega))⟩

def stEq (a b : St) : Bool := sEq a.r a.c a.t a.ph a.p.k a.p.f a.p.c a.p.t a.p.b b.r b.c b.t b.ph b.p.k b.p.f b.p.c b.p.t b.p.b
/-- One event more. -/
def nextO (s : St) (acc : List St) (e : Ev) : List St :=
  if stEq (stepS s e).1 s || acc.any (fun x => stEq x (stepS s e).1) then acc else acc ++ [(stepS s e).1]
def nextS (s : St) (es : List Ev) : List St := es.foldl (nextO s) []

theorem next_len (s : St) : ∀ (es : List Ev) (acc : List St), (es.foldl (nextO s) acc).length ≤ acc.length + es.length
  | [], acc => by simp
  | e :: es, acc => by
    have := next_len s es (nextO s acc e)
    have h2 : (nextO s acc e).length ≤ acc.length + 1 := by unfold nextO; split <;> simp
    simp only [List.foldl_cons, List.length_cons]
    omega

theorem fold_take {α β : Type} (f : β → α → β) (b : β) {L : List α} {n : Nat} {x : α} (h : L[n]? = some x) : (L.take (n + 1)).foldl f b = f ((L.take n).foldl f b) x := by
  rw [List.take_add_one, h]
  simp

/-- A step, its results written out. -/
def SteppedT (w : World) (r : St × List Ou) (en : Ending) (w' : World) : Prop :=
  ∃ (T : St) (O : List Ou) (v : Value), r = (T, O) ∧ en = .returned (.tuple #[.agg #[.int .i64 T.r, .int .u64 T.c, .string T.t, .int .i64 T.ph, .int .i64 T.p.k, .int .i64 T.p.f, .int .u64 T.p.c, .string T.p.t, .bool T.p.b], v]) ∧ w'.ownsRow w.heap.size 45 6 v O.length (O.flatMap Ou.cs) ∧ Ext w w'

theorem or_stepT (r c : Int) (t : ByteArray) (ph k f c2 : Int) (t2 : ByteArray) (fk : Bool) (ek ec : Int) (et : ByteArray) (lk lf lc : Int) (lt : ByteArray) (lb : Bool) (w : World) :
    Calls Try.prog 10 #[.agg #[.int .i64 r, .int .u64 c, .string t, .int .i64 ph, .int .i64 k, .int .i64 f, .int .u64 c2, .string t2, .bool fk], .agg #[.int .i64 ek, .int .u64 ec, .string et, .int .i64 lk, .int .i64 lf, .int .u64 lc, .string lt, .bool lb]] w (SteppedT w (stepS ⟨r, c, t, ph, ⟨k, f, c2, t2, fk⟩⟩ ⟨ek, ec, et, ⟨lk, lf, lc, lt, lb⟩⟩)) :=
  (or_step r c t ph k f c2 t2 fk ek ec et lk lf lc lt lb w).mono fun e w' ⟨v, he, hv, hx⟩ => ⟨_, _, v, rfl, he, hv, hx⟩

theorem any_take {α : Type} (p : α → Bool) {L : List α} {m : Nat} {u : α} (h : L[m]? = some u) : (L.take (m + 1)).any p = ((L.take m).any p || p u) := by
  rw [List.take_add_one, h]
  simp

theorem next_new {s : St} {es : List Ev} {n : Nat} {x : Ev} {acc : List St} {T : St} {O : List Ou} (hx : es[n]? = some x) (ha : nextS s (es.take n) = acc) (ht : stepS s x = (T, O))
    (hb : (stEq T s || acc.any (fun x => stEq x T)) = false) : nextS s (es.take (n + 1)) = acc ++ [T] := by
  unfold nextS at *
  rw [fold_take _ _ hx, ha]
  unfold nextO
  simp only [ht, hb]
  rfl
theorem next_old {s : St} {es : List Ev} {n : Nat} {x : Ev} {acc : List St} {T : St} {O : List Ou} (hx : es[n]? = some x) (ha : nextS s (es.take n) = acc) (ht : stepS s x = (T, O))
    (hb : (stEq T s || acc.any (fun x => stEq x T)) = true) : nextS s (es.take (n + 1)) = acc := by
  unfold nextS at *
  rw [fold_take _ _ hx, ha]
  unfold nextO
  simp only [ht, hb, if_true]

theorem info_state3 : (Try.prog.info? 26).map (fun i => (i.zero, i.size, i.bytes)) = some (some (.agg #[.int .i64 0, .int .u64 0, .string { data := #[] }, .int .i64 0, .int .i64 0, .int .i64 0, .int .u64 0, .string { data := #[] }, .bool false]), 9, 88) := by kernel_rfl

set_option maxHeartbeats 1600000 in
theorem or_nextL (r c : Int) (t : ByteArray) (ph k f c2 : Int) (t2 : ByteArray) (fk : Bool) (w : World) (es : List Ev) (hes : es.length ≤ 3)
    (hev : ∀ w, Calls Try.prog 20 #[.agg #[.int .i64 r, .int .u64 c, .string t, .int .i64 ph, .int .i64 k, .int .i64 f, .int .u64 c2, .string t2, .bool fk]] w (Made w 28 8 es.length (es.flatMap Ev.cs))) :
    Calls Try.prog 23 #[.agg #[.int .i64 r, .int .u64 c, .string t, .int .i64 ph, .int .i64 k, .int .i64 f, .int .u64 c2, .string t2, .bool fk]] w (Made w 26 9 (nextS ⟨r, c, t, ph, ⟨k, f, c2, t2, fk⟩⟩ es).length ((nextS ⟨r, c, t, ph, ⟨k, f, c2, t2, fk⟩⟩ es).flatMap St.cs)) := by
  obtain ⟨i0, hi, hz0, hz1, hz2⟩ := info_parts info_state3
  have HE := Lib.hid hev
  clear hev
  go_enter Try.func23, Try.ntmps23
  go_wp2_with (go_at_call 20; refine (HE.out _).mono ?_; rintro e w2 ⟨v, rfl, hv, hx2⟩; obtain ⟨a, cap, rfl, hm, hvw⟩ := own_view hv; obtain ⟨x2, rfl⟩ := ext_of hx2; clear hx2 hv)
  refine wp_forget (fun w' => w'.heap[w.heap.size]? = some (.cells #[.int .i64 r, .int .u64 c, .string t, .int .i64 ph, .int .i64 k, .int .i64 f, .int .u64 c2, .string t2, .bool fk] 26 (0, 0)) ∧ Ext w w' ∧
      (0 < es.length → ∃ g, a = some ⟨g, 0, none⟩ ∧ g < w'.heap.size ∧ ∀ j u, (es.flatMap Ev.cs)[j]? = some u → w'.cell? ⟨g, j, none⟩ = some u)) ⟨?f1, ?f4, ?f5⟩ ?fr
  case f1 => exact heap_ext (heap_new rfl) x2.ext
  case f4 => exact ((Ext.refl _).alloc _).val x2
  case f5 => exact fun h => let ⟨g, ha, _, hg, hcell⟩ := hvw h; ⟨g, ha, hg, hcell⟩
  clear hvw x2
  rintro W3 ⟨h3a, h3x, hvw⟩
  have HV := Lib.hid hvw
  clear hvw
  have hc3 := fun j => cell_of_row W3 _ j _ _ _ h3a
  have hl3 : w.heap.size < W3.heap.size := (Array.getElem?_eq_some_iff.1 h3a).1
  have H3a := Lib.hid h3a
  clear h3a
  unfold maxLen at hm
  go_loopw [3, 14] (fun l i wr => ∃ (n : Nat) (y : ExtOf W3), n ≤ es.length ∧ i = .int .i64 n ∧ wr = y.val ∧ y.val.ownsRow W3.heap.size 26 9 l (nextS ⟨r, c, t, ph, ⟨k, f, c2, t2, fk⟩⟩ (es.take n)).length ((nextS ⟨r, c, t, ph, ⟨k, f, c2, t2, fk⟩⟩ (es.take n)).flatMap St.cs)) (fun _ i _ => es.length - (intOf i).toNat)
  case atStart => exact ⟨0, ⟨W3, Ext.refl _⟩, Nat.zero_le _, rfl, rfl, World.ownsRow_nil _ _ _ _⟩
  case round =>
    obtain ⟨n, y, hn, rfl, rfl, hown⟩ := hrel
    by_cases hlt : n < es.length
    · obtain ⟨g, rfl, hg, hcell⟩ := HV.out (by omega)
      obtain ⟨x, hx⟩ : ∃ x, es[n]? = some x := ⟨_, List.getElem?_eq_getElem hlt⟩
      obtain ⟨q0, q1, q2, q3, q4, q5, q6, q7⟩ := ev_cells hcell hx
      have HX := Lib.hid hx
      clear hx hcell
      have hacc : (nextS ⟨r, c, t, ph, ⟨k, f, c2, t2, fk⟩⟩ (es.take n)).length ≤ n := by have := next_len ⟨r, c, t, ph, ⟨k, f, c2, t2, fk⟩⟩ (es.take n) []; simp at this; unfold nextS; omega
      generalize hA : nextS ⟨r, c, t, ph, ⟨k, f, c2, t2, fk⟩⟩ (es.take n) = acc at hown hacc
      have HA := Lib.hid hA
      clear hA
      obtain ⟨a2, cap2, rfl, hm2, hvw2⟩ := own_view hown
      have HO := Lib.hid hown
      have HV2 := Lib.hid hvw2
      clear hown hvw2
      go_wp2_with (go_at_call 10; refine (or_stepT _ _ _ _ _ _ _ _ _ _ _ _ _ _ _ _ _ _).mono ?_; rintro e w4 ⟨T, O, v, hT, rfl, hv, hx4⟩; have hy4 := Lib.hid ((y.ext.alloc _).trans hx4); have f4 := heap_ext H3a.out hy4.out; have hc4 := fun j => cell_of_row w4 _ j _ _ _ f4; have hl4 : w.heap.size < w4.heap.size := (Array.getElem?_eq_some_iff.1 f4).1; have HO4 := Lib.hid (own_ext HO.out (((Ext.refl y.val).alloc _).trans hx4)); have HTS := Lib.hid hT; clear hx4 hv hT f4 hc3)
      refine wp_forget (fun w' => w'.heap[w.heap.size]? = some (.cells #[.int .i64 r, .int .u64 c, .string t, .int .i64 ph, .int .i64 k, .int .i64 f, .int .u64 c2, .string t2, .bool fk] 26 (0, 0)) ∧ w'.heap[w4.heap.size]? = some (.cells #[.int .i64 T.r, .int .u64 T.c, .string T.t, .int .i64 T.ph, .int .i64 T.p.k, .int .i64 T.p.f, .int .u64 T.p.c, .string T.p.t, .bool T.p.b] 26 (0, 0)) ∧ Ext W3 w' ∧ w'.ownsRow W3.heap.size 26 9 (.slice a2 acc.length cap2) acc.length (acc.flatMap St.cs)) ⟨?d1, ?d2, ?d3, ?d4⟩ ?dr
      case d1 => exact heap_ext (heap_ext H3a.out hy4.out) ((Ext.refl _).alloc _)
      case d2 => exact heap_new rfl
      case d3 => exact hy4.out.alloc _
      case d4 => exact own_ext HO4.out ((Ext.refl _).alloc _)
      clear hc4 q0 q1 q2 q3 q4 q5 q6 q7
      rintro W5 ⟨h5a, h5b, h5x, h5o⟩
      obtain ⟨_, _, e5, _, hv5⟩ := own_view h5o
      simp only [Value.slice.injEq] at e5
      obtain ⟨rfl, -, rfl⟩ := e5
      have hc5 := fun j => cell_of_row W5 _ j _ _ _ h5a
      have hd5 := fun j => cell_of_row W5 _ j _ _ _ h5b
      have hl5 : w.heap.size < W5.heap.size := (Array.getElem?_eq_some_iff.1 h5a).1
      have hm5 : w4.heap.size < W5.heap.size := (Array.getElem?_eq_some_iff.1 h5b).1
      have H5a := Lib.hid h5a
      have H5b := Lib.hid h5b
      have HV5 := Lib.hid hv5
      have H5o := Lib.hid h5o
      clear h5a h5b hv5 h5o hl3 HO HO4 HV2
      go_loopw [8, 29] (fun b i wr => ∃ (m : Nat) (z : ExtOf W5), m ≤ acc.length ∧ i = .int .i64 m ∧ wr = z.val ∧ b = .bool (stEq T ⟨r, c, t, ph, ⟨k, f, c2, t2, fk⟩⟩ || (acc.take m).any (fun x => stEq x T))) (fun _ i _ => acc.length - (intOf i).toNat)
      case atStart => exact ⟨0, ⟨W5, Ext.refl _⟩, Nat.zero_le _, rfl, rfl, by simp [stEq]⟩
      case round =>
        obtain ⟨m, z, hmn, rfl, rfl, rfl⟩ := hrel
        generalize hB : (stEq T ⟨r, c, t, ph, ⟨k, f, c2, t2, fk⟩⟩ || (acc.take m).any (fun x => stEq x T)) = B
        have HB := Lib.hid hB
        clear hB
        by_cases hlt2 : m < acc.length
        · obtain ⟨g2, rfl, hb2, hg2, hcell2⟩ := HV5.out (by omega)
          obtain ⟨u, hu⟩ : ∃ u, acc[m]? = some u := ⟨_, List.getElem?_eq_getElem hlt2⟩
          obtain ⟨p0, p1, p2, p3, p4, p5, p6, p7, p8⟩ := st_cells hcell2 hu
          have HU := Lib.hid hu
          clear hu hcell2
          cases B
          all_goals
            go_wp2_with fail
            go_roundw
            case rel => exact ⟨m + 1, ⟨_, z.ext.alloc _⟩, by omega, by go_num, rfl, by rw [any_take (fun x => stEq x T) HU.out, ← Bool.or_assoc, HB.out]; simp [stEq]⟩
            case measure => simp [intOf]; omega
        · obtain rfl : m = acc.length := by omega
          rw [List.take_length] at HB
          cases B
          · go_wp2_with (at_builtin; refine wpList_app W3.heap.size 40 26 i0 _ 9 88 Try.underlying40 hi hz0 hz1 hz2 rfl (by decide) rfl _ _ rfl _ _ _ rfl (own_ext H5o.out (z.ext.alloc _)) (Nat.le_trans (h5x.trans z.ext).size ((Ext.refl z.val).alloc _).size) z.val.heap.size 1 1 _ rfl (heap_new rfl) rfl (by simp [Value.oneCell']) (by unfold maxLen; omega) (by omega) ?_; intro v2 w2 hv2 hb2 _)
            go_roundw
            case rel =>
              refine ⟨n + 1, ⟨w2, ((h5x.trans z.ext).alloc _).trans' hb2⟩, by omega, by go_num, rfl, ?_⟩
              rw [next_new HX.out HA.out HTS.out HB.out]
              simpa [St.cs] using hv2
            case measure => simp [intOf]; omega
          · go_wp2_with fail
            go_roundw
            case rel =>
              refine ⟨n + 1, ⟨z.val, h5x.trans z.ext⟩, by omega, by go_num, rfl, ?_⟩
              rw [next_old HX.out HA.out HTS.out HB.out]
              exact own_ext H5o.out z.ext
            case measure => simp [intOf]; omega
    · obtain rfl : n = es.length := by omega
      go_wp2
      go_ret
      refine ⟨_, rfl, ?_, h3x.trans y.ext⟩
      rw [List.take_length] at hown
      exact own_base hown h3x.size

/-- A state that waits for nothing has no events. -/
theorem or_events (r c : Int) (t : ByteArray) (ph k f c2 : Int) (t2 : ByteArray) (fk : Bool) (w : World) :
    Calls Try.prog 20 #[.agg #[.int .i64 r, .int .u64 c, .string t, .int .i64 ph, .int .i64 k, .int .i64 f, .int .u64 c2, .string t2, .bool fk]] w (Made w 28 8 (evsS ⟨r, c, t, ph, ⟨k, f, c2, t2, fk⟩⟩).length ((evsS ⟨r, c, t, ph, ⟨k, f, c2, t2, fk⟩⟩).flatMap Ev.cs)) := by
  rcases hw : waitS ⟨r, c, t, ph, ⟨k, f, c2, t2, fk⟩⟩
  · have e : evsS ⟨r, c, t, ph, ⟨k, f, c2, t2, fk⟩⟩ = [] := by simp [evsS, hw]
    rw [e]
    clear e
    go_enter Try.func20, Try.ntmps20
    go_wp2_with (go_at_call 17; refine (or_waits _ _ _ _ _ _ _ _ _ _).mono ?_; rintro e w1 ⟨rfl, hx⟩; obtain ⟨x1, rfl⟩ := ext_of hx; clear hx)
    go_ret
    exact ⟨_, rfl, World.ownsRow_nil _ _ _ _, ((Ext.refl _).alloc _).val x1⟩
  · have e : evsS ⟨r, c, t, ph, ⟨k, f, c2, t2, fk⟩⟩ = (rowsS c t ph).map (evR c) := by simp [evsS, hw]
    rw [e, List.length_map]
    exact or_eventsW r c t ph k f c2 t2 fk w hw

theorem evs_len (s : St) : (evsS s).length ≤ 3 := by
  unfold evsS
  split
  · rw [List.length_map]; exact rows_len _ _ _
  · simp

theorem or_next (r c : Int) (t : ByteArray) (ph k f c2 : Int) (t2 : ByteArray) (fk : Bool) (w : World) :
    Calls Try.prog 23 #[.agg #[.int .i64 r, .int .u64 c, .string t, .int .i64 ph, .int .i64 k, .int .i64 f, .int .u64 c2, .string t2, .bool fk]] w (Made w 26 9 (nextS ⟨r, c, t, ph, ⟨k, f, c2, t2, fk⟩⟩ (evsS ⟨r, c, t, ph, ⟨k, f, c2, t2, fk⟩⟩)).length ((nextS ⟨r, c, t, ph, ⟨k, f, c2, t2, fk⟩⟩ (evsS ⟨r, c, t, ph, ⟨k, f, c2, t2, fk⟩⟩)).flatMap St.cs)) :=
  or_nextL r c t ph k f c2 t2 fk w (evsS ⟨r, c, t, ph, ⟨k, f, c2, t2, fk⟩⟩) (evs_len _) fun w => or_events r c t ph k f c2 t2 fk w
end Go.Proofs.Ytnfehccnofhmnaa

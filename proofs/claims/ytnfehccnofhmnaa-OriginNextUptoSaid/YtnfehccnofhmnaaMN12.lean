/-
  Walk: the law OriginNext: to behind the call of Run; the rest on symbols. No condition.
-/
import Derived.Test.YtnfehccnofhmnaaMN11
import Derived.Test.YtnfehccnofhmnaaRows
import Derived.ProofKit
import Derived.Deep.Slices
import Derived.Lib.SmallJoins
import Derived.JoinedCond
import Derived.OpenShut
set_option linter.all false
namespace Go.Proofs.Ytnfehccnofhmnaa
open Go.RowKit
attribute [local go_sem ↓] eql_lEq eql_sEq eql_eEq eql_oEq neq_lEq neq_sEq neq_eEq neq_oEq
attribute [local go_sem] ExtOf.cell ExtOf.frozen ExtOf.lt ExtOf.le
attribute [local go_sem high] ExtOf.cell2 ExtOf.frozen2 ExtOf.lt2 ExtOf.cell3 ExtOf.frozen3 ExtOf.lt3 ExtOf.cellB ExtOf.frozenB ExtOf.cellX ExtOf.frozenX ExtOf.cellX' ExtOf.frozenX'
attribute [local go_sem] BelOf.cell BelOf.frozen BelOf.lt

/-- What the symbols stand for: a state, an event. -/
def envN (T : St) (x : Ev) : E.Env :=
  { I := fun n => if n = 1 then T.c else if n = 100 then x.k else if n = 101 then x.c else if n = 103 then x.l.k else if n = 104 then x.l.f else if n = 105 then x.l.c else 0
    S := fun n => if n = 2 then T.t else if n = 102 then x.t else x.l.t
    B := fun _ => x.l.b }

theorem run_good : ∀ (L : List Ev) (p : St × List Ou), chkS p.1 = true → chkS (L.foldl runF p).1 = true
  | [], _, h => h
  | e :: L, p, h => by
    rw [List.foldl_cons]
    exact run_good L _ (good_step e h).1

theorem new_good (c : Int) : chkS ⟨0, c, { data := #[] }, 0, ⟨0, 0, 0, { data := #[] }, false⟩⟩ = true := by
  have h : lEq 0 0 0 { data := #[] } false 0 0 0 { data := #[] } false = true := by kernel_rfl
  have h2 : (ByteArray.toList { data := #[] }).isEmpty = true := by kernel_rfl
  have h3 : ByteArray.size { data := #[] } ≤ 64 := by decide
  unfold chkS chk
  simp [h, h2, h3]

theorem next_tail {st : List E.C} (hok : E.tailOk st = true) (T : St) (x : Ev) (ht : T.t.size ≤ 64) {a : Act} {w0 w : World} {r s : Nat} (hrs : r ≠ s) (hsz : a.tmps.size = 121) (hd : a.defers = [])
    (h5 : a.tmps[5]? = some (.pointer (some ⟨r, 0, none⟩))) (h7 : a.tmps[7]? = some (.pointer (some ⟨s, 0, none⟩)))
    (hr : w.heap[r]? = some (.cells #[.int .i64 x.k, .int .u64 x.c, .string x.t, .int .i64 x.l.k, .int .i64 x.l.f, .int .u64 x.l.c, .string x.l.t, .bool x.l.b] 28 (0, 0)))
    (hs : w.heap[s]? = some (.cells #[.int .i64 T.r, .int .u64 T.c, .string T.t, .int .i64 T.ph, .int .i64 T.p.k, .int .i64 T.p.f, .int .u64 T.p.c, .string T.p.t, .bool T.p.b] 26 (0, 0)))
    (hst : E.All2 (E.CRel (fun _ => none) E.noF) (st.map (E.C.den (envN T x))) [.int .i64 T.r, .int .u64 T.c, .string T.t, .int .i64 T.ph, .int .i64 T.p.k, .int .i64 T.p.f, .int .u64 T.p.c, .string T.p.t, .bool T.p.b])
    (n1 : w0.heap.size ≤ r) (n2 : w0.heap.size ≤ s) (h0 : Ext w0 w) :
    E.tlN.wp Try.prog (bodyPost Try.prog Try.f7 fun e w' => e = .returned (.bool true) ∧ Ext w0 w') a w := by
  have hK : E.Holds (envN T x) E.kN := fun f hf => by
    rw [E.kN, List.mem_singleton] at hf
    subst hf
    have hlen : T.t.data.toList.length ≤ 64 := by simpa using ht
    show E.iOf (E.den (envN T x) (.int .i64 64)) < E.iOf (E.den (envN T x) (.iface 2 (.iface 1 (.int .i64 2)))) ↔ false = true
    rw [show E.iOf (E.den (envN T x) (.int .i64 64)) = 64 from rfl, show E.iOf (E.den (envN T x) (.iface 2 (.iface 1 (.int .i64 2)))) = (T.t.data.toList.length : Int) from rfl]
    simp only [Bool.false_eq_true, iff_false]
    omega
  have hev : E.All2 (E.CRel (fun _ => none) E.noF) (E.evN.map (E.C.den (envN T x))) [.int .i64 x.k, .int .u64 x.c, .string x.t, .int .i64 x.l.k, .int .i64 x.l.f, .int .u64 x.l.c, .string x.l.t, .bool x.l.b] := by
    simp [E.evN, E.C.den, E.sI, E.sS, E.sB, E.den, E.All2, E.CRel, envN]
  refine Go.wp_mono (E.wp_of_ways (fn := Try.f7) (σ := E.sgN st) E.origin_live E.tlN_ok E.tlN_K hok hK (E.srel_two (t := 5) (u := 7) (by decide) hrs hsz hd h5 h7 hr hs hev hst)) fun e a' w' he => ?_
  obtain ⟨rfl, hd', hres, β', μ', σ', hstep⟩ := he
  exact bodyPost_ret hres hd' ⟨rfl, h0.trans' (E.step_two n1 n2 h0.size hstep)⟩

set_option maxRecDepth 100000 in
set_option maxHeartbeats 4000000 in
theorem next_loop (c : Int) (v : Value) (L : List Ev) (x : Ev) (w : World) (hR : Row w 8 v L.length (L.flatMap Ev.cs)) (hsz : ∀ e ∈ L, e.t.size ≤ 1048576 ∧ e.l.t.size ≤ 1048576) (hx : x.t.size ≤ 1048576 ∧ x.l.t.size ≤ 1048576) (hl : longS L = false) (hl2 : longS [x] = false) :
    Calls Try.prog 7 #[.int .u64 c, v, .agg #[.int .i64 x.k, .int .u64 x.c, .string x.t, .int .i64 x.l.k, .int .i64 x.l.f, .int .u64 x.l.c, .string x.l.t, .bool x.l.b]] w fun e w' => e = .returned (.bool true) ∧ Ext w w' := by
  have hL : L.length ≤ 60 := by
    unfold longS at hl
    simp only [Bool.or_eq_false_iff, decide_eq_false_iff_not] at hl
    omega
  have HR := Lib.hid hR
  have HS := Lib.hid hsz
  have HL := Lib.hid hl
  have HL2 := Lib.hid hl2
  have HX := Lib.hid hx
  clear hR hsz hl hl2 hx
  go_enter Try.func7, Try.ntmps7
  go_wp2_with fail
  refine (long_any _ L _ (HR.out.ext ((Ext.refl _).alloc _)) HS.out).mono ?_
  rintro e w1 ⟨rfl, hx1⟩
  rw [HL.out]
  have h1a := heap_ext (heap_new (w := w) rfl) hx1
  have hX1 : Ext w w1 := ((Ext.refl _).alloc _).trans hx1
  have hc1 := fun j => cell_of_row w1 _ j _ _ _ h1a
  have l1 : w.heap.size < w1.heap.size := (Array.getElem?_eq_some_iff.1 h1a).1
  have HX1 := Lib.hid hX1
  have HB := Lib.hid h1a
  clear hX1 hx1 h1a
  go_wp2_with fail
  refine (long_any _ [x] _ (Row.of_own (own_new (Ext.refl w1) rfl (by unfold maxLen; simp) rfl rfl)) (fun e he => by rw [List.mem_singleton.1 he]; exact HX.out)).mono ?_
  rintro e w2 ⟨rfl, hx2⟩
  rw [HL2.out]
  have hX2 := (Ext.refl w1).alloc (.cells #[.int .i64 x.k, .int .u64 x.c, .string x.t, .int .i64 x.l.k, .int .i64 x.l.f, .int .u64 x.l.c, .string x.l.t, .bool x.l.b] 28)
  have hX2b := hX2.trans hx2
  have h2a := heap_ext HB.out hX2b
  have HX2 := Lib.hid (HX1.out.trans hX2b)
  have HB2 := Lib.hid h2a
  clear hX2 hX2b hx2 h2a HX1 HB hc1 l1
  go_wp2_with fail
  refine (or_new _ _).mono ?_
  rintro e w3 ⟨rfl, hx3⟩
  have HX3 := Lib.hid (HX2.out.trans hx3)
  have HB3 := Lib.hid (heap_ext HB2.out hx3)
  clear hx3 HX2 HB2
  go_wp2_with fail
  refine (or_run _ _ _ _ _ _ _ _ _ _ L _ (HR.out.ext HX3.out) hL).mono ?_
  rintro e w4 ⟨T, O, v4, hT, rfl, hv4, hx4⟩
  have HT := Lib.hid hT
  have HX4 := Lib.hid (HX3.out.trans hx4)
  have HB4 := Lib.hid (heap_ext HB3.out hx4)
  clear hx4 HX3 HB3 hT hv4
  go_wp2_with (refine wpList_store_row rfl 26 _ _ rfl w4.heap.size _ rfl rfl 26 _ (heap_new rfl) info_state rfl (by simp [Value.oneCell']) (unHd ?_))
  have eX : Ext w4 ((w4.alloc (.cells #[.int .i64 0, .int .u64 0, .string { data := #[] }, .int .i64 0, .int .i64 0, .int .i64 0, .int .u64 0, .string { data := #[] }, .bool false] 26)).setRow w4.heap.size #[.int .i64 T.r, .int .u64 T.c, .string T.t, .int .i64 T.ph, .int .i64 T.p.k, .int .i64 T.p.f, .int .u64 T.p.c, .string T.p.t, .bool T.p.b]) := ((Ext.refl w4).alloc _).setRow (Nat.le_refl _) _
  have eT := setRow_heap _ _ _ #[.int .i64 T.r, .int .u64 T.c, .string T.t, .int .i64 T.ph, .int .i64 T.p.k, .int .i64 T.p.f, .int .u64 T.p.c, .string T.p.t, .bool T.p.b] _ _ (heap_new (w := w4) (o := .cells #[.int .i64 0, .int .u64 0, .string { data := #[] }, .int .i64 0, .int .i64 0, .int .i64 0, .int .u64 0, .string { data := #[] }, .bool false] 26) rfl)
  have hne : w.heap.size < w4.heap.size := (Array.getElem?_eq_some_iff.1 HB4.out).1
  generalize World.setRow _ _ _ = w5 at eX eT ⊢
  unfold Hd
  rename_i K hK
  have HK := Lib.hid hK
  clear hK
  have HE := Lib.hid eT
  have HX5 := Lib.hid (HX4.out.trans eX)
  have HB5 := Lib.hid (heap_ext HB4.out eX)
  clear eX eT HX4 HB4
  go_wp2_with fail
  have hgood : chkS T = true := by
    have := run_good L (⟨0, c, { data := #[] }, 0, ⟨0, 0, 0, { data := #[] }, false⟩⟩, []) (new_good c)
    have h := HT.out
    unfold runS at h
    rw [h] at this
    exact this
  refine HK.out _ _ ?_
  show Code.wp Try.prog E.tlN (bodyPost Try.prog Try.f7 fun e w' => e = .returned (.bool true) ∧ Ext w w') _ w5
  obtain ⟨hr, ht, hp⟩ := chk_first hgood
  rcases hp with ⟨hp, h6⟩ | ⟨hp, hte, hl⟩ | ⟨hp, hl⟩
  · unfold chk6 at h6
    simp only [Bool.or_eq_true, lEq_true] at h6
    rcases h6 with ⟨a, b, e, d, g⟩ | ⟨a, b, e, d, g⟩
    · refine next_tail E.tail_6a T x ht (w0 := w) (r := w.heap.size) (s := w4.heap.size) (by omega) ?_ ?_ ?_ ?_ HB5.out HE.out (by simp [E.stN6, E.C.den, E.sI, E.sS, E.den, E.All2, E.CRel, envN, hr, hp, a, b, e, d, g]) (Nat.le_refl _) (Nat.le_of_lt hne) HX5.out <;> rfl
    · refine next_tail E.tail_6b T x ht (w0 := w) (r := w.heap.size) (s := w4.heap.size) (by omega) ?_ ?_ ?_ ?_ HB5.out HE.out (by simp [E.stN6, E.C.den, E.sI, E.sS, E.den, E.All2, E.CRel, envN, hr, hp, a, b, e, d, g]) (Nat.le_refl _) (Nat.le_of_lt hne) HX5.out <;> rfl
  · simp only [lEq_true] at hl
    obtain ⟨a, b, e, d, g⟩ := hl
    have ht0 : T.t = { data := #[] } := by
      have h1 : T.t.toList = [] := by simpa using hte
      have h2 : ByteArray.toList { data := #[] } = [] := by kernel_rfl
      have h3 := toList_beq T.t { data := #[] }
      rw [h1, h2] at h3
      simpa using h3
    refine next_tail E.tail_0 T x ht (w0 := w) (r := w.heap.size) (s := w4.heap.size) (by omega) ?_ ?_ ?_ ?_ HB5.out HE.out (by simp [E.stN0, E.zN, E.C.den, E.sI, E.sS, E.den, E.All2, E.CRel, envN, hr, hp, a, b, e, d, g, ht0]) (Nat.le_refl _) (Nat.le_of_lt hne) HX5.out <;> rfl
  · simp only [lEq_true] at hl
    obtain ⟨a, b, e, d, g⟩ := hl
    rcases hp with hp | hp | hp | hp | hp
    · refine next_tail E.tail_2 T x ht (w0 := w) (r := w.heap.size) (s := w4.heap.size) (by omega) ?_ ?_ ?_ ?_ HB5.out HE.out (by simp [E.stN, E.zN, E.C.den, E.sI, E.sS, E.den, E.All2, E.CRel, envN, hr, hp, a, b, e, d, g]) (Nat.le_refl _) (Nat.le_of_lt hne) HX5.out <;> rfl
    · refine next_tail E.tail_3 T x ht (w0 := w) (r := w.heap.size) (s := w4.heap.size) (by omega) ?_ ?_ ?_ ?_ HB5.out HE.out (by simp [E.stN, E.zN, E.C.den, E.sI, E.sS, E.den, E.All2, E.CRel, envN, hr, hp, a, b, e, d, g]) (Nat.le_refl _) (Nat.le_of_lt hne) HX5.out <;> rfl
    · refine next_tail E.tail_4 T x ht (w0 := w) (r := w.heap.size) (s := w4.heap.size) (by omega) ?_ ?_ ?_ ?_ HB5.out HE.out (by simp [E.stN, E.zN, E.C.den, E.sI, E.sS, E.den, E.All2, E.CRel, envN, hr, hp, a, b, e, d, g]) (Nat.le_refl _) (Nat.le_of_lt hne) HX5.out <;> rfl
    · refine next_tail E.tail_5 T x ht (w0 := w) (r := w.heap.size) (s := w4.heap.size) (by omega) ?_ ?_ ?_ ?_ HB5.out HE.out (by simp [E.stN, E.zN, E.C.den, E.sI, E.sS, E.den, E.All2, E.CRel, envN, hr, hp, a, b, e, d, g]) (Nat.le_refl _) (Nat.le_of_lt hne) HX5.out <;> rfl
    · refine next_tail E.tail_7 T x ht (w0 := w) (r := w.heap.size) (s := w4.heap.size) (by omega) ?_ ?_ ?_ ?_ HB5.out HE.out (by simp [E.stN, E.zN, E.C.den, E.sI, E.sS, E.den, E.All2, E.CRel, envN, hr, hp, a, b, e, d, g]) (Nat.le_refl _) (Nat.le_of_lt hne) HX5.out <;> rfl

theorem next_any (c : Int) (v : Value) (L : List Ev) (x : Ev) (w : World) (hR : Row w 8 v L.length (L.flatMap Ev.cs)) (hsz : ∀ e ∈ L, e.t.size ≤ 1048576 ∧ e.l.t.size ≤ 1048576) (hx : x.t.size ≤ 1048576 ∧ x.l.t.size ≤ 1048576) :
    Calls Try.prog 7 #[.int .u64 c, v, .agg #[.int .i64 x.k, .int .u64 x.c, .string x.t, .int .i64 x.l.k, .int .i64 x.l.f, .int .u64 x.l.c, .string x.l.t, .bool x.l.b]] w fun e w' => e = .returned (.bool true) ∧ Ext w w' := by
  cases hl : longS L
  · cases hl2 : longS [x]
    · exact next_loop c v L x w hR hsz hx hl hl2
    · have HR := Lib.hid hR
      have HS := Lib.hid hsz
      have HL := Lib.hid hl
      have HL2 := Lib.hid hl2
      have HX := Lib.hid hx
      clear hR hsz hl hl2 hx
      go_enter Try.func7, Try.ntmps7
      go_wp2_with fail
      refine (long_any _ L _ (HR.out.ext ((Ext.refl _).alloc _)) HS.out).mono ?_
      rintro e w1 ⟨rfl, hx1⟩
      rw [HL.out]
      have h1a := heap_ext (heap_new (w := w) rfl) hx1
      have hX1 : Ext w w1 := ((Ext.refl _).alloc _).trans hx1
      have hc1 := fun j => cell_of_row w1 _ j _ _ _ h1a
      have l1 : w.heap.size < w1.heap.size := (Array.getElem?_eq_some_iff.1 h1a).1
      have HX1 := Lib.hid hX1
      clear hX1 hx1 h1a
      go_wp2_with fail
      refine (long_any _ [x] _ (Row.of_own (own_new (Ext.refl w1) rfl (by unfold maxLen; simp) rfl rfl)) (fun e he => by rw [List.mem_singleton.1 he]; exact HX.out)).mono ?_
      rintro e w2 ⟨rfl, hx2⟩
      rw [HL2.out]
      have HX2 := Lib.hid (HX1.out.trans (((Ext.refl w1).alloc (.cells #[.int .i64 x.k, .int .u64 x.c, .string x.t, .int .i64 x.l.k, .int .i64 x.l.f, .int .u64 x.l.c, .string x.l.t, .bool x.l.b] 28)).trans hx2))
      clear hc1 l1 hx2
      go_wp2_with fail
      refine (live_any _).mono ?_
      rintro e w9 ⟨rfl, hx9⟩
      go_wp2_with fail
      go_ret
      exact ⟨rfl, HX2.out.trans hx9⟩
  · have HR := Lib.hid hR
    have HS := Lib.hid hsz
    have HL := Lib.hid hl
    clear hR hsz hl hx
    go_enter Try.func7, Try.ntmps7
    go_wp2_with fail
    refine (long_any _ L _ (HR.out.ext ((Ext.refl _).alloc _)) HS.out).mono ?_
    rintro e w1 ⟨rfl, hx1⟩
    rw [HL.out]
    go_wp2_with fail
    refine (live_any _).mono ?_
    rintro e w9 ⟨rfl, hx9⟩
    go_wp2_with fail
    go_ret
    exact ⟨rfl, (((Ext.refl _).alloc _).trans hx1).trans hx9⟩
end Go.Proofs.Ytnfehccnofhmnaa

/-
  The arguments of the statements, opened: a letter, a state, an event; a slice of events. No condition.
-/
namespace Go.Proofs.Ytnfehccnofhmnaa
open Go.ChangeShapes Go.WideShapes Go.ChangeAt Go.RowKit Go.Deep

theorem cells_int : Try.prog.cellsOf 3 = 1 := by kernel_rfl
theorem cells_u64 : Try.prog.cellsOf 22 = 1 := by kernel_rfl
theorem cells_str : Try.prog.cellsOf 9 = 1 := by kernel_rfl
theorem cells_bool : Try.prog.cellsOf 4 = 1 := by kernel_rfl
theorem cells_letter : Try.prog.cellsOf 24 = 5 := by kernel_rfl
theorem cells_state : Try.prog.cellsOf 26 = 9 := by kernel_rfl
theorem cells_event : Try.prog.cellsOf 28 = 8 := by kernel_rfl

section
variable {H : Type} {enc : TypeId × Value → H} {w : World} {base : Nat} {spare : Nat → Bool} {held : Bool}

def Lt.data (l : Lt) : DataW H := .agg [.lit (.int .i64 l.k), .lit (.int .i64 l.f), .lit (.int .u64 l.c), .lit (.string l.t.data.toList), .lit (.bool l.b)]
def St.data (s : St) : DataW H := .agg [.lit (.int .i64 s.r), .lit (.int .u64 s.c), .lit (.string s.t.data.toList), .lit (.int .i64 s.ph), s.p.data]
def Ev.data (e : Ev) : DataW H := .agg [.lit (.int .i64 e.k), .lit (.int .u64 e.c), .lit (.string e.t.data.toList), e.l.data]

theorem open_letter {fuel : Nat} {cs : List Value} {x : DataW H × List MemPlace} (h : DataW.trod enc Try.prog w base spare held fuel 24 cs = some x) : ∃ l : Lt, cs = l.cs ∧ x = (l.data, []) := by
  obtain ⟨xs, n, _, hx, hl, hlen, hf⟩ := DataW.trod_struct Try.underlying24 h
  have hl5 : cs.length = 5 := hl.trans cells_letter
  match cs, hl5, xs, hlen with
  | [c0, c1, c2, c3, c4], _, [y0, y1, y2, y3, y4], _ =>
    have g0 := hf 0 _ rfl
    have g1 := hf 1 _ rfl
    have g2 := hf 2 _ rfl
    have g3 := hf 3 _ rfl
    have g4 := hf 4 _ rfl
    simp [cells_int, cells_u64, cells_str, cells_bool] at g0 g1 g2 g3 g4
    obtain ⟨k, e0, rfl, _⟩ := DataW.trod_int Try.underlying3 g0
    obtain ⟨f, e1, rfl, _⟩ := DataW.trod_int Try.underlying3 g1
    obtain ⟨c, e2, rfl, _⟩ := DataW.trod_int Try.underlying22 g2
    obtain ⟨t, e3, rfl, _⟩ := DataW.trod_string Try.underlying9 g3
    obtain ⟨b, e4, rfl⟩ := DataW.trod_bool Try.underlying4 g4
    simp only [List.cons.injEq, and_true] at e0 e1 e2 e3 e4
    subst e0 e1 e2 e3 e4
    exact ⟨⟨k, f, c, t, b⟩, rfl, by rw [hx]; rfl⟩

theorem open_state {fuel : Nat} {cs : List Value} {x : DataW H × List MemPlace} (h : DataW.trod enc Try.prog w base spare held fuel 26 cs = some x) : ∃ s : St, cs = s.cs ∧ x = (s.data, []) := by
  obtain ⟨xs, n, _, hx, hl, hlen, hf⟩ := DataW.trod_struct Try.underlying26 h
  have hl9 : cs.length = 9 := hl.trans cells_state
  match cs, hl9, xs, hlen with
  | [c0, c1, c2, c3, c4, c5, c6, c7, c8], _, [y0, y1, y2, y3, y4], _ =>
    have g0 := hf 0 _ rfl
    have g1 := hf 1 _ rfl
    have g2 := hf 2 _ rfl
    have g3 := hf 3 _ rfl
    have g4 := hf 4 _ rfl
    simp [cells_int, cells_u64, cells_str, cells_bool, cells_letter] at g0 g1 g2 g3 g4
    obtain ⟨k, e0, rfl, _⟩ := DataW.trod_int Try.underlying3 g0
    obtain ⟨c, e1, rfl, _⟩ := DataW.trod_int Try.underlying22 g1
    obtain ⟨t, e2, rfl, _⟩ := DataW.trod_string Try.underlying9 g2
    obtain ⟨f, e3, rfl, _⟩ := DataW.trod_int Try.underlying3 g3
    obtain ⟨l, e4, rfl⟩ := open_letter g4
    simp only [List.cons.injEq, and_true, Lt.cs] at e0 e1 e2 e3 e4
    obtain ⟨e5, e6, e7, e8, e9⟩ := e4
    subst e0 e1 e2 e3 e5 e6 e7 e8 e9
    exact ⟨⟨k, c, t, f, l⟩, rfl, by rw [hx]; rfl⟩

theorem open_event {fuel : Nat} {cs : List Value} {x : DataW H × List MemPlace} (h : DataW.trod enc Try.prog w base spare held fuel 28 cs = some x) : ∃ s : Ev, cs = s.cs ∧ x = (s.data, []) := by
  obtain ⟨xs, n, _, hx, hl, hlen, hf⟩ := DataW.trod_struct Try.underlying28 h
  have hl8 : cs.length = 8 := hl.trans cells_event
  match cs, hl8, xs, hlen with
  | [c0, c1, c2, c3, c4, c5, c6, c7], _, [y0, y1, y2, y3], _ =>
    have g0 := hf 0 _ rfl
    have g1 := hf 1 _ rfl
    have g2 := hf 2 _ rfl
    have g3 := hf 3 _ rfl
    simp [cells_int, cells_u64, cells_str, cells_bool, cells_letter] at g0 g1 g2 g3
    obtain ⟨k, e0, rfl, _⟩ := DataW.trod_int Try.underlying3 g0
    obtain ⟨c, e1, rfl, _⟩ := DataW.trod_int Try.underlying22 g1
    obtain ⟨t, e2, rfl, _⟩ := DataW.trod_string Try.underlying9 g2
    obtain ⟨l, e4, rfl⟩ := open_letter g3
    simp only [List.cons.injEq, and_true, Lt.cs] at e0 e1 e2 e4
    obtain ⟨e5, e6, e7, e8, e9⟩ := e4
    subst e0 e1 e2 e5 e6 e7 e8 e9
    exact ⟨⟨k, c, t, l⟩, rfl, by rw [hx]; rfl⟩

/-- What a slice of events reads as. -/
def evsData (L : List Ev) (sp : List (DataW H)) : Bool → DataW H
  | true => .nil
  | false => .slice (L.map Ev.data) sp

theorem Ev.cs_len (e : Ev) : e.cs.length = 8 := rfl

theorem flat_len : ∀ L : List Ev, (L.flatMap Ev.cs).length = L.length * 8
  | [] => rfl
  | y :: L => by rw [List.flatMap_cons, List.length_append, flat_len L, Ev.cs_len, List.length_cons]; omega

theorem flat_at {L : List Ev} {j : Nat} {u : Value} (h : (L.flatMap Ev.cs)[j]? = some u) : ∃ x, L[j / 8]? = some x ∧ x.cs[j % 8]? = some u := by
  have hlen := flat_len L
  have hj : j < L.length * 8 := by rw [← hlen]; exact (List.getElem?_eq_some_iff.1 h).1
  have hk : j / 8 < L.length := by omega
  refine ⟨_, List.getElem?_eq_getElem hk, ?_⟩
  have := flat_get Ev.cs 8 (fun _ => rfl) L (j / 8) _ (List.getElem?_eq_getElem hk) (j % 8) (by omega)
  rw [show j / 8 * 8 + j % 8 = j by omega, h] at this
  exact this.symm

theorem open_events {fuel : Nat} {cs : List Value} {x : DataW H × List MemPlace} (h : DataW.trod enc Try.prog w base spare held fuel 30 cs = some x) :
    ∃ (v : Value) (L : List Ev) (sp : List (DataW H)) (b : Bool), cs = [v] ∧ x.1 = evsData L sp b ∧ (b = true → L = []) ∧ Row w 8 v L.length (L.flatMap Ev.cs) := by
  rcases open_slice Try.underlying30 h with ⟨h1, h2⟩ | ⟨a, len, cap, m, n, D, Pl, h1, _, h3, h4, hm, h5, h6⟩
  · exact ⟨_, [], [], true, h1, by rw [h2]; rfl, fun _ => rfl, rfl, .inl ⟨rfl, none, 0, rfl⟩⟩
  · have hlm : len ≤ m := by rw [hm]; split <;> omega
    have key : ∀ i, i < len → ∃ e : Ev, D i = e.data ∧ ∀ j u, e.cs[j]? = some u → w.cell? ((a.add (i * 8)).add j) = some u := fun i hi => by
      obtain ⟨cs', hc, ht⟩ := h6 i (by omega)
      rw [cells_event] at hc
      obtain ⟨e, rfl, he⟩ := open_event ht
      obtain ⟨_, hlen, hcell⟩ := World.cells?_some hc
      simp only [Prod.mk.injEq] at he
      refine ⟨e, he.1, fun j u hj => ?_⟩
      have : j < 8 := by have := (List.getElem?_eq_some_iff.1 hj).1; simpa [Ev.cs] using this
      rw [hcell j this]; exact hj
    have hE : ∃ E : Nat → Ev, ∀ i, i < len → D i = (E i).data ∧ ∀ j u, (E i).cs[j]? = some u → w.cell? ((a.add (i * 8)).add j) = some u :=
      ⟨fun i => if hi : i < len then (key i hi).choose else ⟨0, 0, { data := #[] }, l0⟩, fun i hi => by simp only [hi, dif_pos]; exact (key i hi).choose_spec⟩
    obtain ⟨E, hE⟩ := hE
    refine ⟨_, (List.range len).map E, (List.range (m - len)).map fun j => D (len + j), false, h1, ?_, by simp, ?_⟩
    · rw [h5]
      simp only [evsData, List.map_map]
      congr 1
      exact List.map_congr_left fun i hi => (hE i (by simpa using hi)).1
    · have hln : ((List.range len).map E).length = len := by simp
      rw [hln]
      refine ⟨by rw [flat_len, hln], ?_⟩
      by_cases h0 : len = 0
      · exact .inl ⟨h0, _, _, by rw [h0]⟩
      · obtain ⟨b, off, spot⟩ := a
        have hs : spot = none := by
          have := (hE 0 (by omega)).2 0 _ rfl
          simpa [Addr.add] using World.cell?_spot this
        subst hs
        refine .inr ⟨b, off, cap, rfl, by omega, fun j u hj => ?_⟩
        obtain ⟨e, he, hu⟩ := flat_at hj
        have hk : j / 8 < len := by have := (List.getElem?_eq_some_iff.1 he).1; simpa using this
        rw [List.getElem?_map, List.getElem?_range hk] at he
        simp only [Option.map_some, Option.some.injEq] at he
        subst he
        have := (hE (j / 8) hk).2 _ u hu
        rw [Go.WideShapes.add_plain, Go.WideShapes.add_plain, Nat.add_assoc, show j / 8 * 8 + j % 8 = j by omega] at this
        exact this
end
end Go.Proofs.Ytnfehccnofhmnaa

/-
  The row's last step, for a call that only extends the world. What a small bulk says of the strings of a list of events. No condition.
-/
namespace Go.Proofs.Ytnfehccnofhmnaa
open Go.ChangeShapes Go.WideShapes Go.ChangeAt Go.RowKit

theorem prog_own : ownKnob Try.prog.godebug = none := by kernel_rfl
theorem prog_laid : laidOutB Try.prog = true := by kernel_rfl

section
variable {H : Type} {enc : TypeId × Value → H} {P : Program}
/-- Behind a call that extends the world and hands back what the specification says, each argument reads as it did. -/
theorem post_ext {f : Func} {s : ChangeSpec} {apart fresh handsOn again : Bool} {W W' : World} {args : Array Value} {v : Value} {ds gs : List (DataW H)} {before pa pv : List MemPlace}
    (hW : DataW.Whole enc P f.params.toList s.vars apart W args.toList ds gs before)
    (hres : ∀ (b : Nat) (sp : Nat → Bool) (hd : Bool), DataW.TrodAll enc P W' b sp hd f.resultTypes.toList (v.resultList f.resultTypes.size) (s.fn H (ds ++ gs)).results [])
    (hargs : ∀ sp : Nat → Bool, (∀ p ∈ before, sp p.block = true) → DataW.TrodAll enc P W' 0 sp true f.params.toList args.toList (s.fn H (ds ++ gs)).args pa)
    (hvars : ∀ sp : Nat → Bool, (∀ p ∈ before, sp p.block = true) → DataW.TrodVars enc P W' sp s.vars (s.fn H (ds ++ gs)).vars pv)
    (hps : before = pa ++ pv) (hb : Ext W W')
    (hok : ∀ (j : Nat) (t : TypeId) (r : Value), f.resultTypes[j]? = some t → (v.resultList f.resultTypes.size)[j]? = some r → Value.okWide P W' .any 0 t r) :
    s.post enc P f apart fresh handsOn again W args v W' := by
  have hlt : ∀ p ∈ before, p.block < W.heap.size := fun p hp => hW.lt p hp
  have hold : ∀ p ∈ before, (fun b => decide (b < W.heap.size)) p.block = true := fun p hp => by simpa using hlt p hp
  refine ⟨ds, gs, before, [], pa, pv, hW, hres _ _ _, hargs _ hold, hvars _ hold, World.keptBut_mono (fun p hp => ⟨hp, ?_⟩) (Below.frame hb (· ∈ before)), fun _ => ?_⟩
  · rw [hps, List.mem_append] at hp
    exact Or.inr hp
  · obtain ⟨_, _, _, _, _, hz, hn⟩ := hW
    refine ⟨hok, _, _, ([] ++ pa) ++ pv, ⟨[] ++ pa, pv, trodAll_append (hargs _ (fun _ _ => rfl)) (hres _ _ _), hvars _ (fun _ _ => rfl), rfl, ?_, ?_⟩, ?_⟩
    · intro b off hp
      have hin : MemPlace.cell b off ∈ before := by rw [hps]; simpa using hp
      rw [Below.frozen hb (hlt _ hin)]
      exact hz b off hin
    · intro ha
      have := hn ha
      rw [hps] at this
      simpa using this
    · intro p hp _
      rw [hps]
      simpa using hp

theorem trod_ext {t : TypeId} (hl : laidOutB P = true) (hr : P.readableRec t = true) (hrow : t < P.types.size) {W W' : World} {sp : Nat → Bool} {v : Value} {d : DataW H} {ps : List MemPlace}
    (h : DataW.Trod enc P W 0 (fun _ => true) true t v d ps) (hb : Ext W W') (hlt : ∀ x ∈ ps, x.block < W.heap.size) (hs : ∀ p ∈ ps, sp p.block = true) : DataW.Trod enc P W' 0 sp true t v d ps :=
  WideElems.Trod_stays hl hr hrow h (fun x hx => Below.same hb (hlt x hx)) hs

theorem bulk_one {d : DataW H} {l : List (DataW H)} (h : d ∈ l) : Rows.uptoBulk d ≤ Rows.uptoBulkAll l := by
  induction l with
  | nil => cases h
  | cons x r ih =>
    simp only [Rows.uptoBulkAll]
    rcases List.mem_cons.1 h with rfl | h
    · omega
    · have := ih h; omega

theorem Ev.bulk (e : Ev) : e.t.size + e.l.t.size ≤ Rows.uptoBulk (H := H) e.data := by
  simp only [Ev.data, Lt.data, Rows.uptoBulk, Rows.uptoBulkAll, Array.length_toList]
  have h1 : e.t.data.size = e.t.size := rfl
  have h2 : e.l.t.data.size = e.l.t.size := rfl
  omega

theorem evs_bulk {L : List Ev} {sp : List (DataW H)} {b : Bool} (hb : b = true → L = []) {e : Ev} (he : e ∈ L) : e.t.size + e.l.t.size ≤ Rows.uptoBulk (evsData L sp b) := by
  cases b
  · have h1 : Rows.uptoBulk (H := H) e.data ≤ Rows.uptoBulkAll (L.map Ev.data) := bulk_one (List.mem_map_of_mem he)
    have h2 := Ev.bulk (H := H) e
    simp only [evsData, Rows.uptoBulk]
    omega
  · rw [hb rfl] at he; cases he
end
end Go.Proofs.Ytnfehccnofhmnaa

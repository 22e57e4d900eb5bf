/-
  Walk: a timer is laid into the wheel, is set. No condition.
-/
import Derived.Test.YtibdplfdmncgiaaT4
import Derived.Test.YtibdplfdmncgiaaT5
import Derived.StillTailTactics
set_option linter.all false
namespace Go.Proofs.Ytibdplfdmncgiaa
open Go.RowKit
attribute [local go_sem] ExtOf.cell ExtOf.frozen ExtOf.lt ExtOf.le
attribute [local go_sem high] ExtOf.cell2 ExtOf.frozen2 ExtOf.lt2 ExtOf.cell3 ExtOf.frozen3 ExtOf.lt3 ExtOf.cellX ExtOf.frozenX ExtOf.cellX' ExtOf.frozenX'

/-- A wheel: its tick, the next number, the next place, the timers that are set, the heap's list and its count. -/
structure Wh where
  now : Int
  ids : Int
  ord : Int
  S : List Tm
  L : List Hd
  m : Int

/-- Where a wheel lies: its map, its heap, itself; rows lie from block B on. -/
structure At where
  bM : Nat
  bH : Nat
  bW : Nat
  B : Nat
  hM : bM < bH
  hH : bH < bW
  hW : bW < B

def WheelW (T : TypeId) (f : FuncId) (p : At) (v : Value) (W : Wh) (w : World) : Prop :=
  w.heap[p.bW]? = some (.cells #[.int .i64 W.now, .int .i64 W.ids, .int .i64 W.ord, .map (some p.bM), .pointer (some ⟨p.bH, 0, none⟩), .slice none 0 0] T (0, 0)) ∧ MapW p.bM W.S w ∧ HeapW p.B p.bH f v W.L W.m w

theorem rowB_ge {B bH : Nat} {f : FuncId} {v : Value} {L : List Hd} {m : Int} {w : World} (h : HeapW B bH f v L m w) : ∀ g ∈ rowB v, B ≤ g := fun g hg => by
  rcases h.2.2 with ⟨hv, _⟩ | ⟨g', cap, cur, hv, hb, _⟩
  · subst hv; simp [rowB, Value.ownBlock] at hg
  · subst hv
    simp only [rowB, Value.ownBlock, List.mem_singleton] at hg
    omega
theorem HeapW.ext {B bH : Nat} {f : FuncId} {v : Value} {L : List Hd} {m : Int} {w w' : World} (h : HeapW B bH f v L m w) (e : Ext w w') : HeapW B bH f v L m w' := ⟨heap_ext h.1 e, own_ext h.2 e⟩
theorem HeapW.same {B bH : Nat} {f : FuncId} {v : Value} {L : List Hd} {m : Int} {w w' : World} (h : HeapW B bH f v L m w) (h1 : w'.heap[bH]? = w.heap[bH]?) (h2 : ∀ k, B ≤ k → k < w.heap.size → w'.heap[k]? = w.heap[k]?) : HeapW B bH f v L m w' := ⟨h1.trans h.1, own_same h.2 h2⟩

/-- The blocks of a wheel. -/
def At.all (p : At) (v : Value) : List Nat := p.bW :: p.bM :: p.bH :: rowB v

section
variable {P : Program} {ops : Array Oper} {rest : List Oper} {o : Oper} {a : Act} {w : World} {Q : Exit → Act → World → Prop}
theorem wpList_update (hgd : o.guard = none) (T kt et : TypeId) (q : IntKind) (m k x : Operand) (ho : o.op = .mapUpdate T m k x) (hT : P.underlying T = some (.map kt et)) (hk : P.underlying kt = some (.int q)) (b : Nat) (S : List Tm) (t : Tm)
    (hm : a.eval m = .map (some b)) (hkv : a.eval k = .int .i64 t.id) (hx : a.eval x = t.val) (hM : MapW b S w)
    (h : ∀ ob, MapW b (putT S t) (setB w b ob) → wpList P ops Q rest (a.put o.dst undef) (setB w b ob)) : wpList P ops Q (o :: rest) a w := by
  refine wpList_plain hgd fun _ hK => ?_
  obtain ⟨ob, hr, hM'⟩ := run_update (P := P) hT hk hM t
  unfold Oper.wp execOp
  simp only [ho, hm, hkv, hx, Sem.run_bind, hr, Result.andThen_ok]
  exact hK _ _ (h ob hM')
end

/-- What is behind the laying of a timer. -/
def laidW (W : Wh) (id at_ v : Int) : Wh := ⟨W.now, W.ids, W.ord + 1, putT W.S ⟨id, at_, W.ord, v⟩, upH W.L.length (W.L ++ [⟨at_, W.ord, id, W.m⟩]) W.L.length, W.m + 1⟩
def LaidW (T : TypeId) (f : FuncId) (p : At) (v : Value) (W : Wh) (r : Value) (w : World) : Ending → World → Prop := fun e w' =>
  e = .returned r ∧ ∃ v', WheelW T f p v' W w' ∧ Keeps (p.all v) w w' ∧ ∀ g ∈ rowB v', g ∈ rowB v ∨ w.heap.size ≤ g

/-- What Set does: its answer, the wheel then. -/
def setW (W : Wh) (at_ v : Int) : (Int × Int) × Wh :=
  if at_ ≤ W.now then ((0, 140), W)
  else if 4096 ≤ (W.S.length : Int) then ((0, 6), W)
  else ((W.ids, 0), laidW { W with ids := W.ids + 1 } W.ids at_ v)
def numV (x : Int × Int) : Value := .tuple #[.int .i64 x.1, .int .i64 x.2]

set_option maxRecDepth 100000 in
set_option maxHeartbeats 8000000 in
theorem lay_int (p : At) (v : Value) (W : Wh) (id at_ x : Int) (w : World) (hW : WheelW 91 43 p v W w) (hB : p.B ≤ w.heap.size) (hL : W.L.length ≤ 100000) (hm : 0 ≤ W.m ∧ W.m ≤ 100000) (ho : 0 ≤ W.ord ∧ W.ord ≤ 100000) :
    Calls Try.prog 44 #[.pointer (some ⟨p.bW, 0, none⟩), .int .i64 id, .int .i64 at_, .int .i64 x] w (LaidW 91 43 p v (laidW W id at_ x) (.tuple #[]) w) := by
  obtain ⟨now, ids, ord, S, L, m⟩ := W
  obtain ⟨bM, bH, bW, B, pM, pH, pW⟩ := p
  obtain ⟨hb, hM, hH⟩ := hW
  obtain ⟨ho0, ho1⟩ := ho
  simp only at hb hM hH hB hL hm ho0 ho1 ⊢
  have lb : bW < w.heap.size := (Array.getElem?_eq_some_iff.1 hb).1
  have hcb := fun j => cell_of_row w _ j _ _ _ hb
  have HB := Lib.hid hb
  have HM := Lib.hid hM
  have HH := Lib.hid hH
  have HMM := Lib.hid hm
  clear hb hM hH hm
  go_enter Try.func44, Try.ntmps44
  go_upto_region 0 with fail
  go_cut [] (fun wx => Hid (wx.heap[bW]? = some (.cells #[.int .i64 now, .int .i64 ids, .int .i64 ord, .map (some bM), .pointer (some ⟨bH, 0, none⟩), .slice none 0 0] 91 (0, 0)) ∧ MapW bM (putT S ⟨id, at_, ord, x⟩) wx ∧ HeapW B bH 43 v L m wx ∧ Keeps (bW :: bM :: bH :: rowB v) w wx))
  case first =>
    refine wp_region_late (af := ?af1) [true, true, true, true, true, true, true, true, true, true, true, true, false] [false, false, false, false, false, false, false, false, false, false, false, false, true] 39 (Ext w) (by kernel_rfl) rfl (by kernel_rfl) (fun _ _ h e => Ext.trans h e) (Ext.refl w).drew ?q ?r
    case q =>
      intro w' hw'
      obtain ⟨y, rfl⟩ := ext_of hw'
      simp only [pickT, if_true, if_false, Bool.false_eq_true]
      repeat (go_big_quiet_step (fail))
      exact rfl
    case r =>
      simp only [pickN, if_true, if_false, Bool.false_eq_true]
      intro y1
      have e1 : Ext w y1.val := (Ext.refl _).drew.val y1
      refine wpList_update rfl 88 3 95 .i64 _ _ _ rfl Try.underlying88 Try.underlying3 bM S ⟨id, at_, ord, x⟩ rfl rfl rfl (HM.out.ext e1) fun ob hM' => ?_
      have hWb := heap_ext HB.out e1
      have b2 : (setB y1.val bM ob).heap[bW]? = _ := (setB_other (show bW ≠ bM by omega)).trans hWb
      have h2 : HeapW B bH 43 v L m (setB y1.val bM ob) := (HH.out.ext e1).same (setB_other (show bH ≠ bM by omega)) (fun k hk _ => setB_other (show k ≠ bM by omega))
      have k2 : Keeps (bW :: bM :: bH :: rowB v) w (setB y1.val bM ob) := ((Keeps.refl _ w).ext e1).setB (.inl (by simp)) _
      generalize setB y1.val bM ob = w2 at hM' b2 h2 k2 ⊢
      go_wp2_with fail
      try refine ⟨fun h => absurd h (by decide), ?_⟩
      intro y3
      go_wp2_with fail
      go_meet
      exact Lib.hid ⟨heap_ext b2 y3.ext, hM'.ext y3.ext, h2.ext y3.ext, k2.ext y3.ext⟩
  case rest =>
    obtain ⟨hb1, hM1, hH1, hk1⟩ := hcut.out
    clear hcut hcb lb HB HM HH
    have lb1 : bW < wc.heap.size := (Array.getElem?_eq_some_iff.1 hb1).1
    have hcb1 := fun j => cell_of_row wc _ j _ _ _ hb1
    have hs1 : B ≤ wc.heap.size := Nat.le_trans hB hk1.size
    have HB1 := Lib.hid hb1
    have HM1 := Lib.hid hM1
    have HH1 := Lib.hid hH1
    have HK1 := Lib.hid hk1
    clear hb1 hM1 hH1 hk1
    go_upto_region 1 with fail
    go_cut [] (fun wx => Hid (∃ v', wx.heap[bW]? = some (.cells #[.int .i64 now, .int .i64 ids, .int .i64 ord, .map (some bM), .pointer (some ⟨bH, 0, none⟩), .slice none 0 0] 91 (0, 0)) ∧ MapW bM (putT S ⟨id, at_, ord, x⟩) wx ∧ HeapW B bH 43 v' (upH L.length (L ++ [⟨at_, ord, id, m⟩]) L.length) (m + 1) wx ∧ Keeps (bW :: bM :: bH :: rowB v) w wx ∧ ∀ g ∈ rowB v', g ∈ rowB v ∨ w.heap.size ≤ g))
    case first =>
      go_still_tail 11, (by kernel_rfl)
      change wpList _ _ _ _ _ wc.drew
      generalize hw1 : wc.drew = w1
      have e1 : Ext wc w1 := by rw [← hw1]; exact (Ext.refl _).drew
      clear hw1
      go_wp2_with fail
      refine (push_int B bH v L ⟨at_, ord, id, m⟩ w1 (HH1.out.ext e1) (by omega) (Nat.le_trans hs1 e1.size) hL HMM.out).mono ?_
      rintro e w2 ⟨rfl, v', hH2, hk2, hr2⟩
      have hg := rowB_ge HH1.out
      have nW : bW ∉ bH :: rowB v := fun h => by
        rcases List.mem_cons.1 h with h | h
        · omega
        · have := hg _ h; omega
      have nM : bM ∉ bH :: rowB v := fun h => by
        rcases List.mem_cons.1 h with h | h
        · omega
        · have := hg _ h; omega
      have b2 : w2.heap[bW]? = _ := (hk2.block bW (Nat.lt_of_lt_of_le lb1 e1.size) nW).trans (heap_ext HB1.out e1)
      have m2 : MapW bM _ w2 := (HM1.out.ext e1).same (hk2.block bM (HM1.out.ext e1).lt nM)
      have k2 : Keeps (bW :: bM :: bH :: rowB v) w w2 := (HK1.out.ext e1).trans (hk2.mono (fun k hk => by simp only [List.mem_cons] at hk ⊢; rcases hk with h | h <;> simp [h]))
      have r2 : ∀ g ∈ rowB v', g ∈ rowB v ∨ w.heap.size ≤ g := fun q hq => (hr2 q hq).imp (fun h => h) (fun h => by have := HK1.out.size; have := e1.size; omega)
      clear hk2 hr2
      go_wp2_with fail
      go_meet
      exact Lib.hid ⟨v', b2, m2, hH2, k2, r2⟩
    case rest =>
      obtain ⟨v', hb2, hM2, hH2, hk2, hr2⟩ := hcut.out
      clear hcut hcb1 lb1 HB1 HM1 HH1 HK1
      have lb2 : bW < wc.heap.size := (Array.getElem?_eq_some_iff.1 hb2).1
      have hcb2 := fun j => cell_of_row wc _ j _ _ _ hb2
      have hfb2 := fun j => frozen_of_row wc _ j _ _ hb2
      have HB2 := Lib.hid hb2
      have HM2 := Lib.hid hM2
      have HH2 := Lib.hid hH2
      have HK2 := Lib.hid hk2
      clear hb2 hM2 hH2 hk2
      go_wp2_with fail
      refine ⟨rfl, .tuple #[], by simp [results, go_sem], rfl, v', ⟨by simpa [laidW] using setCell_row (o := 2) HB2.out (.int .i64 (ord + 1)), HM2.out.same (cell_other (by show bM ≠ bW; omega)), HH2.out.same (cell_other (by show bH ≠ bW; omega)) (fun k hk _ => cell_other (by show k ≠ bW; omega))⟩, HK2.out.setCell (.inl (by simp)) _ _, hr2⟩

set_option maxRecDepth 100000 in
set_option maxHeartbeats 8000000 in
theorem set_int (p : At) (v : Value) (W : Wh) (at_ x : Int) (w : World) (hW : WheelW 91 43 p v W w) (hB : p.B ≤ w.heap.size) (hL : W.L.length ≤ 100000) (hm : 0 ≤ W.m ∧ W.m ≤ 100000) (ho : 0 ≤ W.ord ∧ W.ord ≤ 100000) (hi : 0 ≤ W.ids ∧ W.ids ≤ 100000) :
    Calls Try.prog 16 #[.pointer (some ⟨p.bW, 0, none⟩), .int .i64 at_, .int .i64 x] w (LaidW 91 43 p v (setW W at_ x).2 (numV (setW W at_ x).1) w) := by
  obtain ⟨now, ids, ord, S, L, m⟩ := W
  obtain ⟨bM, bH, bW, B, pM, pH, pW⟩ := p
  obtain ⟨hb, hM, hH⟩ := hW
  simp only at hb hM hH hB hL hm ho hi ⊢
  have lb : bW < w.heap.size := (Array.getElem?_eq_some_iff.1 hb).1
  have hcb := fun j => cell_of_row w _ j _ _ _ hb
  have hfb := fun j => frozen_of_row w _ j _ _ hb
  have hlen : ∀ ty, (Builtin.len_ #[88] ty #[.map (some bM)]).run Try.prog w = .ok (.int .i64 S.length) w := fun ty => run_lenMap (ts := #[88]) rfl Try.underlying88 hM
  have HB := Lib.hid hb
  have HM := Lib.hid hM
  have HH := Lib.hid hH
  have HMM := Lib.hid hm
  have HOO := Lib.hid ho
  obtain ⟨i0, i1⟩ := hi
  clear hb hM hH hm ho
  by_cases h1 : at_ ≤ now
  · have HS : setW ⟨now, ids, ord, S, L, m⟩ at_ x = ((0, 140), ⟨now, ids, ord, S, L, m⟩) := by unfold setW; rw [if_pos h1]
    rw [HS]
    go_enter Try.func16, Try.ntmps16
    go_wp2_with fail
    go_ret2
    exact ⟨rfl, v, ⟨HB.out, HM.out, HH.out⟩, Keeps.refl _ _, fun q hq => .inl hq⟩
  · have h1' : now < at_ := by omega
    by_cases h2 : 4096 ≤ (S.length : Int)
    · have HS : setW ⟨now, ids, ord, S, L, m⟩ at_ x = ((0, 6), ⟨now, ids, ord, S, L, m⟩) := by unfold setW; rw [if_neg h1, if_pos h2]
      rw [HS]
      clear HS h1
      go_enter Try.func16, Try.ntmps16
      go_wp2_with fail
      go_ret2
      exact ⟨rfl, v, ⟨HB.out, HM.out, HH.out⟩, Keeps.refl _ _, fun q hq => .inl hq⟩
    · have h2' : (S.length : Int) < 4096 := by omega
      have HS : setW ⟨now, ids, ord, S, L, m⟩ at_ x = ((ids, 0), laidW ⟨now, ids + 1, ord, S, L, m⟩ ids at_ x) := by unfold setW; rw [if_neg h1, if_neg h2]
      rw [HS]
      clear HS h1 h2
      go_enter Try.func16, Try.ntmps16
      go_wp2_with fail
      have hb2 := setCell_row (o := 1) HB.out (.int .i64 (ids + 1))
      refine (lay_int ⟨bM, bH, bW, B, pM, pH, pW⟩ v ⟨now, ids + 1, ord, S, L, m⟩ ids at_ x _ ⟨by simpa using hb2, HM.out.same (cell_other (by show bM ≠ bW; omega)), HH.out.same (cell_other (by show bH ≠ bW; omega)) (fun k hk _ => cell_other (by show k ≠ bW; omega))⟩ (by simpa [World.setCell] using hB) hL HMM.out HOO.out).mono ?_
      rintro e w2 ⟨rfl, v', hW2, hk2, hr2⟩
      have k0 : Keeps (At.all ⟨bM, bH, bW, B, pM, pH, pW⟩ v) w (w.setCell ⟨bW, 1, none⟩ (.int .i64 (ids + 1))) := (Keeps.refl _ w).setCell (.inl (by simp [At.all])) _ _
      have hs : (w.setCell ⟨bW, 1, none⟩ (.int .i64 (ids + 1))).heap.size = w.heap.size := by simp [World.setCell]
      rw [hs] at hr2
      have HW2 := Lib.hid hW2
      have HK2 := Lib.hid (k0.trans hk2)
      clear hW2 hk2 k0 hb2 hs
      go_wp2_with fail
      go_ret2
      exact ⟨rfl, v', HW2.out, HK2.out, hr2⟩

set_option maxRecDepth 100000 in
set_option maxHeartbeats 8000000 in
theorem lay_int64 (p : At) (v : Value) (W : Wh) (id at_ x : Int) (w : World) (hW : WheelW 85 39 p v W w) (hB : p.B ≤ w.heap.size) (hL : W.L.length ≤ 100000) (hm : 0 ≤ W.m ∧ W.m ≤ 100000) (ho : 0 ≤ W.ord ∧ W.ord ≤ 100000) :
    Calls Try.prog 41 #[.pointer (some ⟨p.bW, 0, none⟩), .int .i64 id, .int .i64 at_, .int .i64 x] w (LaidW 85 39 p v (laidW W id at_ x) (.tuple #[]) w) := by
  obtain ⟨now, ids, ord, S, L, m⟩ := W
  obtain ⟨bM, bH, bW, B, pM, pH, pW⟩ := p
  obtain ⟨hb, hM, hH⟩ := hW
  obtain ⟨ho0, ho1⟩ := ho
  simp only at hb hM hH hB hL hm ho0 ho1 ⊢
  have lb : bW < w.heap.size := (Array.getElem?_eq_some_iff.1 hb).1
  have hcb := fun j => cell_of_row w _ j _ _ _ hb
  have HB := Lib.hid hb
  have HM := Lib.hid hM
  have HH := Lib.hid hH
  have HMM := Lib.hid hm
  clear hb hM hH hm
  go_enter Try.func41, Try.ntmps41
  go_upto_region 0 with fail
  go_cut [] (fun wx => Hid (wx.heap[bW]? = some (.cells #[.int .i64 now, .int .i64 ids, .int .i64 ord, .map (some bM), .pointer (some ⟨bH, 0, none⟩), .slice none 0 0] 85 (0, 0)) ∧ MapW bM (putT S ⟨id, at_, ord, x⟩) wx ∧ HeapW B bH 39 v L m wx ∧ Keeps (bW :: bM :: bH :: rowB v) w wx))
  case first =>
    refine wp_region_late (af := ?af1) [true, true, true, true, true, true, true, true, true, true, true, true, false] [false, false, false, false, false, false, false, false, false, false, false, false, true] 39 (Ext w) (by kernel_rfl) rfl (by kernel_rfl) (fun _ _ h e => Ext.trans h e) (Ext.refl w).drew ?q ?r
    case q =>
      intro w' hw'
      obtain ⟨y, rfl⟩ := ext_of hw'
      simp only [pickT, if_true, if_false, Bool.false_eq_true]
      repeat (go_big_quiet_step (fail))
      exact rfl
    case r =>
      simp only [pickN, if_true, if_false, Bool.false_eq_true]
      intro y1
      have e1 : Ext w y1.val := (Ext.refl _).drew.val y1
      refine wpList_update rfl 80 3 117 .i64 _ _ _ rfl Try.underlying80 Try.underlying3 bM S ⟨id, at_, ord, x⟩ rfl rfl rfl (HM.out.ext e1) fun ob hM' => ?_
      have hWb := heap_ext HB.out e1
      have b2 : (setB y1.val bM ob).heap[bW]? = _ := (setB_other (show bW ≠ bM by omega)).trans hWb
      have h2 : HeapW B bH 39 v L m (setB y1.val bM ob) := (HH.out.ext e1).same (setB_other (show bH ≠ bM by omega)) (fun k hk _ => setB_other (show k ≠ bM by omega))
      have k2 : Keeps (bW :: bM :: bH :: rowB v) w (setB y1.val bM ob) := ((Keeps.refl _ w).ext e1).setB (.inl (by simp)) _
      generalize setB y1.val bM ob = w2 at hM' b2 h2 k2 ⊢
      go_wp2_with fail
      try refine ⟨fun h => absurd h (by decide), ?_⟩
      intro y3
      go_wp2_with fail
      go_meet
      exact Lib.hid ⟨heap_ext b2 y3.ext, hM'.ext y3.ext, h2.ext y3.ext, k2.ext y3.ext⟩
  case rest =>
    obtain ⟨hb1, hM1, hH1, hk1⟩ := hcut.out
    clear hcut hcb lb HB HM HH
    have lb1 : bW < wc.heap.size := (Array.getElem?_eq_some_iff.1 hb1).1
    have hcb1 := fun j => cell_of_row wc _ j _ _ _ hb1
    have hs1 : B ≤ wc.heap.size := Nat.le_trans hB hk1.size
    have HB1 := Lib.hid hb1
    have HM1 := Lib.hid hM1
    have HH1 := Lib.hid hH1
    have HK1 := Lib.hid hk1
    clear hb1 hM1 hH1 hk1
    go_upto_region 1 with fail
    go_cut [] (fun wx => Hid (∃ v', wx.heap[bW]? = some (.cells #[.int .i64 now, .int .i64 ids, .int .i64 ord, .map (some bM), .pointer (some ⟨bH, 0, none⟩), .slice none 0 0] 85 (0, 0)) ∧ MapW bM (putT S ⟨id, at_, ord, x⟩) wx ∧ HeapW B bH 39 v' (upH L.length (L ++ [⟨at_, ord, id, m⟩]) L.length) (m + 1) wx ∧ Keeps (bW :: bM :: bH :: rowB v) w wx ∧ ∀ g ∈ rowB v', g ∈ rowB v ∨ w.heap.size ≤ g))
    case first =>
      go_still_tail 11, (by kernel_rfl)
      change wpList _ _ _ _ _ wc.drew
      generalize hw1 : wc.drew = w1
      have e1 : Ext wc w1 := by rw [← hw1]; exact (Ext.refl _).drew
      clear hw1
      go_wp2_with fail
      refine (push_int64 B bH v L ⟨at_, ord, id, m⟩ w1 (HH1.out.ext e1) (by omega) (Nat.le_trans hs1 e1.size) hL HMM.out).mono ?_
      rintro e w2 ⟨rfl, v', hH2, hk2, hr2⟩
      have hg := rowB_ge HH1.out
      have nW : bW ∉ bH :: rowB v := fun h => by
        rcases List.mem_cons.1 h with h | h
        · omega
        · have := hg _ h; omega
      have nM : bM ∉ bH :: rowB v := fun h => by
        rcases List.mem_cons.1 h with h | h
        · omega
        · have := hg _ h; omega
      have b2 : w2.heap[bW]? = _ := (hk2.block bW (Nat.lt_of_lt_of_le lb1 e1.size) nW).trans (heap_ext HB1.out e1)
      have m2 : MapW bM _ w2 := (HM1.out.ext e1).same (hk2.block bM (HM1.out.ext e1).lt nM)
      have k2 : Keeps (bW :: bM :: bH :: rowB v) w w2 := (HK1.out.ext e1).trans (hk2.mono (fun k hk => by simp only [List.mem_cons] at hk ⊢; rcases hk with h | h <;> simp [h]))
      have r2 : ∀ g ∈ rowB v', g ∈ rowB v ∨ w.heap.size ≤ g := fun q hq => (hr2 q hq).imp (fun h => h) (fun h => by have := HK1.out.size; have := e1.size; omega)
      clear hk2 hr2
      go_wp2_with fail
      go_meet
      exact Lib.hid ⟨v', b2, m2, hH2, k2, r2⟩
    case rest =>
      obtain ⟨v', hb2, hM2, hH2, hk2, hr2⟩ := hcut.out
      clear hcut hcb1 lb1 HB1 HM1 HH1 HK1
      have lb2 : bW < wc.heap.size := (Array.getElem?_eq_some_iff.1 hb2).1
      have hcb2 := fun j => cell_of_row wc _ j _ _ _ hb2
      have hfb2 := fun j => frozen_of_row wc _ j _ _ hb2
      have HB2 := Lib.hid hb2
      have HM2 := Lib.hid hM2
      have HH2 := Lib.hid hH2
      have HK2 := Lib.hid hk2
      clear hb2 hM2 hH2 hk2
      go_wp2_with fail
      refine ⟨rfl, .tuple #[], by simp [results, go_sem], rfl, v', ⟨by simpa [laidW] using setCell_row (o := 2) HB2.out (.int .i64 (ord + 1)), HM2.out.same (cell_other (by show bM ≠ bW; omega)), HH2.out.same (cell_other (by show bH ≠ bW; omega)) (fun k hk _ => cell_other (by show k ≠ bW; omega))⟩, HK2.out.setCell (.inl (by simp)) _ _, hr2⟩

set_option maxRecDepth 100000 in
set_option maxHeartbeats 8000000 in
theorem set_int64 (p : At) (v : Value) (W : Wh) (at_ x : Int) (w : World) (hW : WheelW 85 39 p v W w) (hB : p.B ≤ w.heap.size) (hL : W.L.length ≤ 100000) (hm : 0 ≤ W.m ∧ W.m ≤ 100000) (ho : 0 ≤ W.ord ∧ W.ord ≤ 100000) (hi : 0 ≤ W.ids ∧ W.ids ≤ 100000) :
    Calls Try.prog 10 #[.pointer (some ⟨p.bW, 0, none⟩), .int .i64 at_, .int .i64 x] w (LaidW 85 39 p v (setW W at_ x).2 (numV (setW W at_ x).1) w) := by
  obtain ⟨now, ids, ord, S, L, m⟩ := W
  obtain ⟨bM, bH, bW, B, pM, pH, pW⟩ := p
  obtain ⟨hb, hM, hH⟩ := hW
  simp only at hb hM hH hB hL hm ho hi ⊢
  have lb : bW < w.heap.size := (Array.getElem?_eq_some_iff.1 hb).1
  have hcb := fun j => cell_of_row w _ j _ _ _ hb
  have hfb := fun j => frozen_of_row w _ j _ _ hb
  have hlen : ∀ ty, (Builtin.len_ #[80] ty #[.map (some bM)]).run Try.prog w = .ok (.int .i64 S.length) w := fun ty => run_lenMap (ts := #[80]) rfl Try.underlying80 hM
  have HB := Lib.hid hb
  have HM := Lib.hid hM
  have HH := Lib.hid hH
  have HMM := Lib.hid hm
  have HOO := Lib.hid ho
  obtain ⟨i0, i1⟩ := hi
  clear hb hM hH hm ho
  by_cases h1 : at_ ≤ now
  · have HS : setW ⟨now, ids, ord, S, L, m⟩ at_ x = ((0, 140), ⟨now, ids, ord, S, L, m⟩) := by unfold setW; rw [if_pos h1]
    rw [HS]
    go_enter Try.func10, Try.ntmps10
    go_wp2_with fail
    go_ret2
    exact ⟨rfl, v, ⟨HB.out, HM.out, HH.out⟩, Keeps.refl _ _, fun q hq => .inl hq⟩
  · have h1' : now < at_ := by omega
    by_cases h2 : 4096 ≤ (S.length : Int)
    · have HS : setW ⟨now, ids, ord, S, L, m⟩ at_ x = ((0, 6), ⟨now, ids, ord, S, L, m⟩) := by unfold setW; rw [if_neg h1, if_pos h2]
      rw [HS]
      clear HS h1
      go_enter Try.func10, Try.ntmps10
      go_wp2_with fail
      go_ret2
      exact ⟨rfl, v, ⟨HB.out, HM.out, HH.out⟩, Keeps.refl _ _, fun q hq => .inl hq⟩
    · have h2' : (S.length : Int) < 4096 := by omega
      have HS : setW ⟨now, ids, ord, S, L, m⟩ at_ x = ((ids, 0), laidW ⟨now, ids + 1, ord, S, L, m⟩ ids at_ x) := by unfold setW; rw [if_neg h1, if_neg h2]
      rw [HS]
      clear HS h1 h2
      go_enter Try.func10, Try.ntmps10
      go_wp2_with fail
      have hb2 := setCell_row (o := 1) HB.out (.int .i64 (ids + 1))
      refine (lay_int64 ⟨bM, bH, bW, B, pM, pH, pW⟩ v ⟨now, ids + 1, ord, S, L, m⟩ ids at_ x _ ⟨by simpa using hb2, HM.out.same (cell_other (by show bM ≠ bW; omega)), HH.out.same (cell_other (by show bH ≠ bW; omega)) (fun k hk _ => cell_other (by show k ≠ bW; omega))⟩ (by simpa [World.setCell] using hB) hL HMM.out HOO.out).mono ?_
      rintro e w2 ⟨rfl, v', hW2, hk2, hr2⟩
      have k0 : Keeps (At.all ⟨bM, bH, bW, B, pM, pH, pW⟩ v) w (w.setCell ⟨bW, 1, none⟩ (.int .i64 (ids + 1))) := (Keeps.refl _ w).setCell (.inl (by simp [At.all])) _ _
      have hs : (w.setCell ⟨bW, 1, none⟩ (.int .i64 (ids + 1))).heap.size = w.heap.size := by simp [World.setCell]
      rw [hs] at hr2
      have HW2 := Lib.hid hW2
      have HK2 := Lib.hid (k0.trans hk2)
      clear hW2 hk2 k0 hb2 hs
      go_wp2_with fail
      go_ret2
      exact ⟨rfl, v', HW2.out, HK2.out, hr2⟩
end Go.Proofs.Ytibdplfdmncgiaa

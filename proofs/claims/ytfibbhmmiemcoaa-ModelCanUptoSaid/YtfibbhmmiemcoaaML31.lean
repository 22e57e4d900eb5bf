/-
  The walks of letter.Build, of term.New, of Key. No condition.
-/
import Derived.Test.YtfibbhmmiemcoaaML30
set_option linter.all false
namespace Go.Proofs.Ytfibbhmmiemcoaa
open Go.RowKit
attribute [local go_sem] ExtOf.cell ExtOf.frozen ExtOf.lt ExtOf.le
attribute [local go_sem high] ExtOf.cell2 ExtOf.frozen2 ExtOf.lt2 ExtOf.cell3 ExtOf.frozen3 ExtOf.lt3

theorem fit_deal {c : Int} {t : ByteArray} (ht : t.size ≤ 64) : FitT (dealT c t) := ⟨by show wDeal.size ≤ 64; decide, trivial, ht⟩
theorem fit_prm {f : Int} {b : Bool} {d : Tt} (hf : f = 0 ∨ f = 1) (hd : FitT d) : FitT (prmT f b d) := by
  unfold prmT
  have h : (0 ≤ f ∧ f < 16) ∧ (0 ≤ 1 - f ∧ 1 - f < 16) ∧ ¬ 1 - f = f := by omega
  cases b
  · exact ⟨h, hd⟩
  · exact ⟨h, hd⟩
theorem fit_tree {l : Lt} (h : lchk l = 0) : FitT (treeL l) := by
  obtain ⟨h1, h2, h3, h4, _⟩ := lchk_size h
  have hn : 0 ≤ l.f ∧ l.f < 16 := by omega
  have hd : FitT (dealT l.c l.t) := fit_deal h1
  have w1 : wAbort.size ≤ 64 := by decide
  have w2 : wResolve.size ≤ 64 := by decide
  have w3 : wAborted.size ≤ 64 := by decide
  have w4 : wInstead.size ≤ 64 := by decide
  have w5 : wFull.size ≤ 64 := by decide
  unfold treeL
  split
  · exact fit_prm h2 hd
  split
  · exact ⟨hn, hd⟩
  split
  · exact ⟨by show (0 : Int) ≤ 0 ∧ (0 : Int) < 16; decide, w1, trivial⟩
  split
  · exact ⟨hn, w2, fit_prm (.inl rfl) hd, fit_prm (.inr rfl) hd⟩
  split
  · exact ⟨by show (0 : Int) ≤ 2 ∧ (2 : Int) < 16; decide, w3, trivial⟩
  split
  · exact ⟨by show (0 : Int) ≤ 2 ∧ (2 : Int) < 16; decide, w4, hd⟩
  · exact ⟨w5, trivial⟩
theorem size_prm (f : Int) (b : Bool) (d : Tt) : sizeT (prmT f b d) = 1 + sizeT d ∧ depthT (prmT f b d) = depthT d + 1 := by
  unfold prmT
  cases b <;> exact ⟨rfl, rfl⟩
theorem size_tree (l : Lt) : sizeT (treeL l) ≤ 16 ∧ depthT (treeL l) ≤ 7 := by
  have hd : sizeT (dealT l.c l.t) = 5 ∧ depthT (dealT l.c l.t) = 3 := ⟨rfl, rfl⟩
  unfold treeL
  split
  · have := size_prm l.f l.b (dealT l.c l.t); omega
  split
  · simp only [sizeT, depthT]; omega
  split
  · simp only [sizeT, depthT]; omega
  split
  · have h0 := size_prm 0 l.b (dealT l.c l.t)
    have h1 := size_prm 1 l.b (dealT l.c l.t)
    simp only [sizeT, depthT]; omega
  split
  · simp only [sizeT, depthT]; omega
  split
  · simp only [sizeT, depthT]; omega
  · simp only [sizeT, depthT]; omega

set_option maxRecDepth 100000 in
set_option maxHeartbeats 3200000 in
theorem le_build (l : Lt) (L : List Tt) (B pb mb : Nat) (v : Value) (w : World) (ok : PoolOk L) (hP : PoolAt B pb mb v L w) (hl : lchk l = 0) (hL : L.length ≤ 50000) :
    Calls Try.prog 12 #[.pointer (some ⟨pb, 0, none⟩), .agg #[.int .i64 l.k, .int .i64 l.f, .int .u64 l.c, .string l.t, .bool l.b]] w (Grown B pb mb v L (treeL l) w) := by
  have HP := Lib.hid hP
  have HC := le_check l
  rw [hl] at HC
  have hz := lchk_size hl
  have HL := Lib.hid (And.intro ok (And.intro hL (And.intro (fit_tree hl) (And.intro (size_tree l) hz))))
  have HCK := Lib.hid HC
  have hT := fun C w hC => le_tree C l ⟨hz.2.2.1, hz.2.2.2.1⟩ hz.2.1 w hC
  have HT := Lib.hid hT
  generalize treeL l = t at HL HT ⊢
  obtain ⟨k, f, c, tx, b⟩ := l
  clear hP hl hL ok HC hz hT
  go_enter Try.func12, Try.ntmps12
  go_wp2_with fail
  refine (HCK.out _).mono ?_
  rintro e w2 ⟨rfl, hx⟩
  obtain ⟨y1, rfl⟩ := ext_of hx
  have HX := Lib.hid (((Ext.refl w).alloc (.cells #[.int .i64 k, .int .i64 f, .int .u64 c, .string tx, .bool b] 24)).trans hx)
  clear hx
  go_wp2_with fail
  refine (HT.out (w.heap.size + 1) _ (by have := y1.ext.size; simpa using this)).mono ?_
  rintro e w3 ⟨hx3, kd, rfl, hk3⟩
  have HK3 := Lib.hid hk3
  have HX3 := Lib.hid (HX.out.trans hx3)
  clear hk3 hx3
  go_wp2_with fail
  refine (te_of t kd L B pb mb v w3 HL.out.1 (HP.out.ext HX3.out) (kids_mono (fun g h1 h2 => ⟨?_, h2, rfl⟩) HK3.out) HL.out.2.2.1 (by have := HL.out.2.2.2.1; omega) (by have := HL.out.2.2.2.1; omega) (by have := HL.out.2.2.2.1; have := HL.out.2.1; omega)).mono ?_
  · have h1 : w.heap.size + 1 ≤ g := h1
    have hlo := HP.out.lo
    simp only [List.mem_cons, not_or]
    exact ⟨by omega, by omega, fun hm => by have := row_lt HP.out.row _ hm; omega⟩
  rintro e w4 ⟨rfl, hp4⟩
  have HP4 := Lib.hid (Pooled.of_ext HX3.out hp4)
  clear hp4
  go_wp2_with fail
  refine bodyPost_ret (results_tmp2 rfl _ _ _) rfl ?_
  exact ⟨rfl, HP4.out⟩

set_option maxRecDepth 100000 in
set_option maxHeartbeats 3200000 in
theorem te_key (n : Int) (hn : 0 ≤ n ∧ n < 16) (L : List Tt) (B pb mb : Nat) (v : Value) (w : World) (ok : PoolOk L) (hP : PoolAt B pb mb v L w) (hL : L.length ≤ 50000) :
    Calls Try.prog 14 #[.pointer (some ⟨pb, 0, none⟩), .int .i64 n] w (Grown B pb mb v L (.key n) w) := by
  have HM := Lib.hid (te_make B pb mb v L (.key n) w ok hP (by omega) (by simp [kidsT]) hn (by simp [kidsT]))
  clear hP hL ok
  go_enter Try.func14, Try.ntmps14
  go_wp2_with fail
  refine HM.out.mono ?_
  rintro e w4 ⟨rfl, hp4⟩
  have HP4 := Lib.hid hp4
  clear hp4
  go_wp2_with fail
  refine bodyPost_ret (results_tmp2 rfl _ _ _) rfl ?_
  exact ⟨rfl, HP4.out⟩

set_option maxRecDepth 100000 in
set_option maxHeartbeats 3200000 in
theorem te_new (w : World) : Calls Try.prog 10 #[] w fun e w' => Ext w w' ∧ e = .returned (.pointer (some ⟨w.heap.size + 1, 0, none⟩)) ∧ PoolAt (w.heap.size + 2) (w.heap.size + 1) w.heap.size (.slice none 0 0) [] w' := by
  have hmm := @run_makeMap Try.prog
  go_enter Try.func10, Try.ntmps10
  go_wp2_with fail
  go_ret
  exact ⟨((Ext.refl _).alloc _).alloc _, rfl, heap_new (by simp), World.ownsRow_nil _ _ _ _, ⟨#[], 0, heap_ext (heap_new rfl) ((Ext.refl _).alloc _), rfl⟩, by omega, by omega, by omega, by simp⟩
end Go.Proofs.Ytfibbhmmiemcoaa

/-
  What somebody knows, in memory; the walks of deduce.New, Sees, and of the closure that notes what is shown. No condition.
-/
namespace Go.Proofs.Ytfibbhmmiemcoaa
open Go.RowKit
attribute [local go_sem] ExtOf.cell ExtOf.frozen ExtOf.lt ExtOf.le
attribute [local go_sem high] ExtOf.cell2 ExtOf.frozen2 ExtOf.lt2 ExtOf.cell3 ExtOf.frozen3 ExtOf.lt3 ExtOf.cellX ExtOf.frozenX ExtOf.cellX' ExtOf.frozenX'

theorem ExtOf.cellN {X : Nat} {w : World} {x : ButOf X w} (y : ExtOf x.val) {a : Addr} (h : a.block < w.heap.size) (hn : ¬ a.block = X) : y.val.cell? a = w.cell? a :=
  ButOf.cell0 ⟨y.val, but_ext x.but y.ext⟩ h hn
theorem ExtOf.frozenN {X : Nat} {w : World} {x : ButOf X w} (y : ExtOf x.val) {a : Addr} (h : a.block < w.heap.size) (hn : ¬ a.block = X) : y.val.frozen? a = w.frozen? a :=
  ButOf.frozen0 ⟨y.val, but_ext x.but y.ext⟩ h hn
attribute [local go_sem high] ExtOf.cellN ExtOf.frozenN

def wyV (p : Int × Int) : Value := .agg #[.int .i64 p.1, .int .i64 p.2]
abbrev ikV (n : Int) : Value := .int .i64 n
/-- What was seen, and how. -/
def seenL (L K : List Tt) (W : List (Int × Int)) : List (Int × Value) := (K.zip W).map fun p => ((idT L p.1 : Int), wyV p.2)

structure KnowAt (B kb sb pb : Nat) (gv lv : Value) (L G K : List Tt) (W : List (Int × Int)) (w : World) : Prop where
  head : w.heap[kb]? = some (.cells #[.pointer (some ⟨pb, 0, none⟩), gv, .map (some sb), lv] 78 (0, 0))
  given : w.ownsRow B 44 1 gv G.length (G.map fun t => .int .i64 (idT L t))
  list : w.ownsRow B 44 1 lv K.length (K.map fun t => .int .i64 (idT L t))
  map : MapG ikV sb (seenL L K W) w
  lo : kb < B ∧ sb < B ∧ kb ≠ sb ∧ B ≤ w.heap.size
  dis : ∀ g ∈ rowB gv, g ∉ rowB lv
  len : W.length = K.length

theorem KnowAt.ext {B kb sb pb : Nat} {gv lv : Value} {L G K : List Tt} {W : List (Int × Int)} {w w' : World} (h : KnowAt B kb sb pb gv lv L G K W w) (e : Ext w w') : KnowAt B kb sb pb gv lv L G K W w' :=
  ⟨heap_ext h.head e, own_ext h.given e, own_ext h.list e, h.map.ext e, ⟨h.lo.1, h.lo.2.1, h.lo.2.2.1, Nat.le_trans h.lo.2.2.2 e.size⟩, h.dis, h.len⟩
/-- Behind the noting. -/
def Known (B kb sb pb : Nat) (gv lv : Value) (L G K' : List Tt) (W' : List (Int × Int)) (w w' : World) : Prop :=
  ∃ lv', KnowAt B kb sb pb gv lv' L G K' W' w' ∧ Keeps (kb :: sb :: rowB lv) w w' ∧ ∀ g ∈ rowB lv', g ∈ rowB lv ∨ w.heap.size ≤ g

theorem idT_injI {L : List Tt} {t u : Tt} (ht : t ∈ L) (hu : u ∈ L) (h : (idT L t : Int) = (idT L u : Int)) : t = u := idT_inj ht hu (by omega)
theorem find_seen {L : List Tt} {t : Tt} (ht : t ∈ L) : ∀ {K : List Tt} {W : List (Int × Int)}, (∀ u ∈ K, u ∈ L) → t ∉ K → (seenL L K W).find? (fun p => decide (p.1 = (idT L t : Int))) = none := by
  intro K W hK hn
  rw [List.find?_eq_none]
  intro p hp
  obtain ⟨q, hq, rfl⟩ := List.mem_map.1 hp
  simp only [decide_eq_true_eq]
  intro e
  have hm := (List.of_mem_zip hq).1
  exact hn (idT_injI (hK _ hm) ht e ▸ hm)
theorem getM_not {L K : List Tt} {W : List (Int × Int)} {t : Tt} (ht : t ∈ L) (hK : ∀ u ∈ K, u ∈ L) (hn : t ∉ K) : getM (seenL L K W) (idT L t : Int) = none := by
  unfold getM
  rw [find_seen ht hK hn]
  rfl
theorem getM_at {L : List Tt} : ∀ {K : List Tt} {W : List (Int × Int)} {i : Nat} {t : Tt} {p : Int × Int}, (∀ u ∈ K, u ∈ L) → K.Nodup → K[i]? = some t → W[i]? = some p → getM (seenL L K W) (idT L t : Int) = some (wyV p)
  | [], _, _, _, _, _, _, h, _ => by simp at h
  | _ :: _, [], _, _, _, _, _, _, h => by simp at h
  | u :: K, q :: W, i, t, p, hK, hn, h1, h2 => by
    have hu := hK u (by simp)
    cases i with
    | zero =>
      simp only [List.getElem?_cons_zero, Option.some.injEq] at h1 h2
      subst h1; subst h2
      simp [getM, seenL]
    | succ i =>
      simp only [List.getElem?_cons_succ] at h1 h2
      have ht := List.mem_of_getElem? h1
      have hne : ¬ ((idT L u : Int) = (idT L t : Int)) := fun e => (List.nodup_cons.1 hn).1 (idT_injI hu (hK t (by simp [ht])) e ▸ ht)
      have := getM_at (L := L) (fun x hx => hK x (by simp [hx])) (List.nodup_cons.1 hn).2 h1 h2
      simpa [getM, seenL, hne] using this
theorem seenL_add {L K : List Tt} {W : List (Int × Int)} {t : Tt} {p : Int × Int} (hl : W.length = K.length) (ht : t ∈ L) (hK : ∀ u ∈ K, u ∈ L) (hn : t ∉ K) : putM (seenL L K W) (idT L t : Int) (wyV p) = seenL L (K ++ [t]) (W ++ [p]) := by
  have h0 : (seenL L K W).findIdx? (fun q => decide (q.1 = (idT L t : Int))) = none := by
    rw [List.findIdx?_eq_none_iff]
    have := find_seen (W := W) ht hK hn
    rw [List.find?_eq_none] at this
    intro x hx
    have := this x hx
    simpa using this
  unfold putM
  rw [h0]
  unfold seenL
  rw [List.zip_append hl.symm, List.map_append]
  rfl

theorem zero_way (w : World) : (zeroValue 91).run Try.prog w = .ok (wyV (0, 0)) w := by kernel_rfl
theorem look_seen {B kb sb pb : Nat} {gv lv : Value} {L G K : List Tt} {W : List (Int × Int)} {w : World} (h : KnowAt B kb sb pb gv lv L G K W w) (n : Int) : (Instr.lookup 75 (.map (some sb)) (.int .i64 n) true).run Try.prog w = .ok (lookG (seenL L K W) n (wyV (0, 0)) true) w :=
  run_lookupG (keys_int Try.underlying44) Try.underlying75 zero_way h.map n true

set_option maxRecDepth 100000 in
set_option maxHeartbeats 1600000 in
theorem du_new (pb : Nat) (w : World) : Calls Try.prog 11 #[.pointer (some ⟨pb, 0, none⟩)] w fun e w' => Ext w w' ∧ e = .returned (.pointer (some ⟨w.heap.size + 1, 0, none⟩)) ∧ KnowAt (w.heap.size + 2) (w.heap.size + 1) w.heap.size pb (.slice none 0 0) (.slice none 0 0) [] [] [] [] w' := by
  have hmm := @run_makeMap Try.prog
  go_enter Try.func11, Try.ntmps11
  go_wp2_with fail
  go_ret
  exact ⟨((Ext.refl _).alloc _).alloc _, rfl, heap_new (by simp), World.ownsRow_nil _ _ _ _, World.ownsRow_nil _ _ _ _, ⟨#[], 0, heap_ext (heap_new rfl) ((Ext.refl _).alloc _), rfl⟩, ⟨by omega, by omega, by omega, by simp⟩, by simp [rowB, Value.ownBlock], rfl⟩

set_option maxRecDepth 100000 in
set_option maxHeartbeats 3200000 in
theorem du_sees (B kb sb pb : Nat) (gv lv : Value) (L G K : List Tt) (W : List (Int × Int)) (n : Int) (p : Value) (b : Bool) (w : World) (hK : KnowAt B kb sb pb gv lv L G K W w) (x y : Int) (hl : lookG (seenL L K W) n (wyV (0, 0)) true = .tuple #[.agg #[.int .i64 x, .int .i64 y], .bool b]) :
    Calls Try.prog 82 #[.pointer (some ⟨kb, 0, none⟩), .int .i64 n] w fun e w' => e = .returned (.bool b) ∧ Ext w w' := by
  have hlk := look_seen hK n
  rw [hl] at hlk
  have hb := hK.head
  have lb : kb < w.heap.size := (Array.getElem?_eq_some_iff.1 hb).1
  have hcb := fun j => cell_of_row w _ j _ _ _ hb
  clear hK hb hl
  go_enter Try.func82, Try.ntmps82
  go_wp2_with fail
  go_ret
  exact ⟨rfl, (Ext.refl _).alloc _⟩

set_option maxRecDepth 100000 in
set_option maxHeartbeats 3200000 in
theorem du_shown_old (B kb sb pb c1 c2 : Nat) (gv lv : Value) (L G K : List Tt) (W : List (Int × Int)) (n rule : Int) (ty : TypeId) (w : World) (hK : KnowAt B kb sb pb gv lv L G K W w) (hc1 : w.heap[c1]? = some (.cells #[.pointer (some ⟨kb, 0, none⟩)] ty (0, 0)))
    (x y : Int) (hl : lookG (seenL L K W) n (wyV (0, 0)) true = .tuple #[.agg #[.int .i64 x, .int .i64 y], .bool true]) :
    Calls Try.prog 67 #[.int .i64 n, .int .i64 rule, .pointer (some ⟨c1, 0, none⟩), .pointer (some ⟨c2, 0, none⟩)] w fun e w' => e = .returned (.tuple #[]) ∧ Ext w w' := by
  have hlk := look_seen hK n
  rw [hl] at hlk
  have hb := hK.head
  have lb : kb < w.heap.size := (Array.getElem?_eq_some_iff.1 hb).1
  have hcb := fun j => cell_of_row w _ j _ _ _ hb
  have lc : c1 < w.heap.size := (Array.getElem?_eq_some_iff.1 hc1).1
  have hcc := fun j => cell_of_row w _ j _ _ _ hc1
  clear hK hb hl hc1
  go_enter Try.func67, Try.ntmps67
  go_wp2_with fail
  exact ⟨rfl, .tuple #[], by simp [results, go_sem], rfl, (Ext.refl _).alloc _⟩

theorem info_term : (Try.prog.info? 44).map (fun i => (i.zero, i.size, i.bytes)) = some (some (.int .i64 0), 1, 8) := by kernel_rfl
/-- Between the map and the list. -/
def NoteMid (B kb sb pb c1 c2 : Nat) (gv lv : Value) (L G K : List Tt) (t u : Tt) (p : Int × Int) (W : List (Int × Int)) (ty : TypeId) (w wx : World) : Prop :=
  wx.heap[kb]? = some (.cells #[.pointer (some ⟨pb, 0, none⟩), gv, .map (some sb), lv] 78 (0, 0)) ∧ wx.ownsRow B 44 1 gv G.length (G.map fun t => .int .i64 (idT L t)) ∧
  wx.ownsRow B 44 1 lv K.length (K.map fun t => .int .i64 (idT L t)) ∧ MapG ikV sb (seenL L (K ++ [t]) (W ++ [p])) wx ∧
  wx.heap[c1]? = some (.cells #[.pointer (some ⟨kb, 0, none⟩)] ty (0, 0)) ∧ Keeps (kb :: sb :: rowB lv) w wx

theorem note_end {B kb sb pb c1 c2 : Nat} {gv lv v' : Value} {L G K : List Tt} {t u : Tt} {p : Int × Int} {W : List (Int × Int)} {ty : TypeId} {w wx w5 w6 : World} (lo : kb < B ∧ sb < B ∧ kb ≠ sb ∧ B ≤ w.heap.size) (dis : ∀ g ∈ rowB gv, g ∉ rowB lv) (len : W.length = K.length) (lr : ∀ g ∈ rowB lv, B ≤ g) (hg : ∀ g ∈ rowB gv, g < wx.heap.size)
    (h : NoteMid B kb sb pb c1 c2 gv lv L G K t u p W ty w wx) (c5 : wx.grownBy w5 lv.ownBlock) (o5 : w5.ownsRow B 44 1 v' (K.length + 1) (K.map (fun t => Value.int .i64 (idT L t)) ++ [.int .i64 (idT L t)])) (hr : ∀ g ∈ rowB v', g ∈ rowB lv ∨ wx.heap.size ≤ g)
    (e6 : Ext (w5.setCell ⟨kb, 3, none⟩ v') w6) : Known B kb sb pb gv lv L G (K ++ [t]) (W ++ [p]) w w6 := by
  obtain ⟨h1, h2, h3, h4, h5, h6⟩ := h
  have lkb := (Array.getElem?_eq_some_iff.1 h1).1
  have blk : ∀ k, k < wx.heap.size → k ∉ rowB lv → w5.heap[k]? = wx.heap[k]? := fun k hk hn => c5.block k hk (by
    intro e
    apply hn
    unfold rowB
    first | (rw [e]; simp) | (rw [← e]; simp))
  have nlv : ∀ k, k < B → k ∉ rowB lv := fun k hk hm => by have := lr k hm; omega
  have hb5 := (blk kb lkb (nlv kb lo.1)).trans h1
  have oth : ∀ k, k ≠ kb → (w5.setCell ⟨kb, 3, none⟩ v').heap[k]? = w5.heap[k]? := fun k hk => cell_other hk
  have hs5 : sb < wx.heap.size := h4.lt
  refine ⟨v', ⟨heap_ext (setCell_row hb5 v') e6, ?_, ?_, ?_, ⟨lo.1, lo.2.1, lo.2.2.1, ?_⟩, ?_, by simp [len]⟩, ?_, ?_⟩
  · refine own_ext (own_at h2 fun k hk => (oth k ?_).trans (blk k (hg k hk) (dis k hk))) e6
    have := row_lo h2 k hk
    omega
  · refine own_ext ?_ e6
    have := own_at o5 (w' := w5.setCell ⟨kb, 3, none⟩ v') fun k hk => oth k (by have := row_lo o5 k hk; omega)
    simpa using this
  · exact (h4.same ((oth sb (Ne.symm lo.2.2.1)).trans (blk sb hs5 (nlv sb lo.2.1)))).ext e6
  · have := e6.size
    have := c5.size
    have := h6.size
    simp at *
    omega
  · intro g hgm hm
    rcases hr g hm with h | h
    · exact dis g hgm h
    · have := hg g hgm; omega
  · have k5 : Keeps (kb :: sb :: rowB lv) w w5 := ⟨c5.os.trans h6.os, c5.tape.trans h6.tape, c5.output.trans h6.output, Nat.le_trans h6.size c5.size, fun k hk hx => (blk k (Nat.lt_of_lt_of_le hk h6.size) (fun hm => hx (by simp [hm]))).trans (h6.block k hk hx)⟩
    exact (Keeps.setCell k5 (.inl (.head _)) 3 _).ext e6
  · exact fun g hg => (hr g hg).imp id fun h => Nat.le_trans h6.size h

set_option maxRecDepth 100000 in
set_option maxHeartbeats 8000000 in
theorem du_shown_new (B kb sb pb c1 c2 : Nat) (gv lv : Value) (L G K : List Tt) (W : List (Int × Int)) (t u : Tt) (rule : Int) (ty : TypeId) (w : World) (hK : KnowAt B kb sb pb gv lv L G K W w) (hc1 : w.heap[c1]? = some (.cells #[.pointer (some ⟨kb, 0, none⟩)] ty (0, 0)))
    (hc2 : w.heap[c2]? = some (.cells #[.int .i64 (idT L u)] 44 (0, 0))) (hn1 : c1 ∉ kb :: sb :: rowB lv) (hKL : ∀ u ∈ K, u ∈ L) (ht : t ∈ L) (hn : t ∉ K) (hlen : K.length ≤ 100000) :
    Calls Try.prog 67 #[.int .i64 (idT L t), .int .i64 rule, .pointer (some ⟨c1, 0, none⟩), .pointer (some ⟨c2, 0, none⟩)] w fun e w' => e = .returned (.tuple #[]) ∧ Known B kb sb pb gv lv L G (K ++ [t]) (W ++ [(rule, (idT L u : Int))]) w w' := by
  obtain ⟨ti0, hi, hz0, hz1, hz2⟩ := info_parts info_term
  have hlk := look_seen hK (idT L t)
  have hlg : lookG (seenL L K W) (idT L t) (wyV (0, 0)) true = .tuple #[.agg #[.int .i64 0, .int .i64 0], .bool false] := by
    unfold lookG
    rw [getM_not ht hKL hn]
    rfl
  rw [hlg] at hlk
  have hb := hK.head
  have lb : kb < w.heap.size := (Array.getElem?_eq_some_iff.1 hb).1
  have hcb := fun j => cell_of_row w _ j _ _ _ hb
  have lc : c1 < w.heap.size := (Array.getElem?_eq_some_iff.1 hc1).1
  have hcc := fun j => cell_of_row w _ j _ _ _ hc1
  obtain ⟨a, cap, hlv, _, _⟩ := own_view hK.list
  have HK := Lib.hid hK
  have HC1 := Lib.hid hc1
  have HC2 := Lib.hid hc2
  have HA := Lib.hid (And.intro hKL (And.intro ht (And.intro hn (And.intro hlen hn1))))
  have hadd := Lib.hid (seenL_add (p := (rule, (idT L u : Int))) hK.len ht hKL hn)
  clear hK hb hc1 hc2 hKL ht hn hlen hlg hn1
  generalize hnt : (idT L t : Int) = nt at hlk hadd ⊢
  have HNT := Lib.hid hnt
  clear hnt
  go_enter Try.func67, Try.ntmps67
  go_upto_region 2 with fail
  have HK1 := Lib.hid (HK.out.ext ((Ext.refl w).alloc (.cells #[.int .i64 0, .int .i64 0] 91)))
  have HC11 := Lib.hid (heap_ext HC1.out ((Ext.refl w).alloc (.cells #[.int .i64 0, .int .i64 0] 91)))
  have HC21 := Lib.hid (heap_ext HC2.out ((Ext.refl w).alloc (.cells #[.int .i64 0, .int .i64 0] 91)))
  have HX1 := Lib.hid ((Ext.refl w).alloc (.cells #[.int .i64 0, .int .i64 0] 91))
  clear hcb hcc hlk lb lc
  generalize hw1 : w.alloc (.cells #[.int .i64 0, .int .i64 0] 91) = w1 at HK1 HC11 HC21 HX1 ⊢
  clear hw1
  have hb := HK1.out.head
  have lb : kb < w1.heap.size := (Array.getElem?_eq_some_iff.1 hb).1
  have hcb := fun j => cell_of_row w1 _ j _ _ _ hb
  have lc : c1 < w1.heap.size := (Array.getElem?_eq_some_iff.1 HC11.out).1
  have hcc := fun j => cell_of_row w1 _ j _ _ _ HC11.out
  have lc2 : c2 < w1.heap.size := (Array.getElem?_eq_some_iff.1 HC21.out).1
  have hcc2 := fun j => cell_of_row w1 _ j _ _ _ HC21.out
  go_cut [] (fun wx => Hid (NoteMid B kb sb pb c1 c2 gv lv L G K t u (rule, (idT L u : Int)) W ty w wx))
  case first =>
    clear hb
    refine wp_region_late (af := ?af1) [true, true, true, true, true, true, true, true, false] [false, false, false, false, false, false, false, false, true] 37 (Ext w1) (by kernel_rfl) rfl (by kernel_rfl) (fun _ _ h e => Ext.trans h e) (Ext.refl w1).drew ?q ?r
    case q =>
      intro w' hw'
      obtain ⟨y, rfl⟩ := ext_of hw'
      simp only [pickT, if_true, if_false, Bool.false_eq_true]
      repeat (go_big_quiet_step (fail))
      exact rfl
    case r =>
      simp only [pickN, if_true, if_false, Bool.false_eq_true]
      intro y1
      have e1 : Ext w1 y1.val := (Ext.refl _).drew.val y1
      refine wpList_updateG rfl _ _ _ rfl (keys_int Try.underlying44) Try.underlying75 sb _ nt (wyV (rule, (idT L u : Int))) rfl rfl rfl (HK1.out.map.ext e1) fun ob hM' => ?_
      rw [hadd.out] at hM'
      have hlo := HK1.out.lo
      have hn1 := HA.out.2.2.2.2
      simp only [List.mem_cons, not_or] at hn1
      try refine ⟨fun h => absurd h (by decide), ?_⟩
      intro y3
      go_wp2_with fail
      go_meet
      refine Lib.hid ⟨heap_ext ((setB_other hlo.2.2.1).trans (heap_ext HK1.out.head e1)) y3.ext, own_ext (own_same (own_ext HK1.out.given e1) (fun k hk _ => setB_other (by omega))) y3.ext, own_ext (own_same (own_ext HK1.out.list e1) (fun k hk _ => setB_other (by omega))) y3.ext, hM'.ext y3.ext, heap_ext ((setB_other hn1.2.1).trans (heap_ext HC11.out e1)) y3.ext, ?_⟩
      have h1 := (Keeps.refl (kb :: sb :: rowB lv) w).ext (HX1.out.trans e1)
      have h2 : Keeps (kb :: sb :: rowB lv) w (setB y1.val sb ob) := ⟨h1.os, h1.tape, h1.output, by simpa [setB] using h1.size, fun k hk hx => (setB_other (fun e => hx (by rw [e]; simp))).trans (h1.block k hk hx)⟩
      exact h2.ext y3.ext
  case rest =>
    have hM := hcut.out
    obtain ⟨h1, h2, h3, h4, h5, h6⟩ := hM
    have HM := hcut
    clear hcut
    go_upto_region 3 with fail
    clear hb hcb lb hcc lc hcc2 lc2 HC11 HC21 HX1
    have lo := HK.out.lo
    have hdis := HK.out.dis
    have hlen := HK.out.len
    have hlr := row_lo HK.out.list
    have hgr : ∀ g ∈ rowB gv, g < wc.heap.size := row_lt h2
    have lb : kb < wc.heap.size := (Array.getElem?_eq_some_iff.1 h1).1
    have hcb := fun j => cell_of_row wc _ j _ _ _ h1
    have lc : c1 < wc.heap.size := (Array.getElem?_eq_some_iff.1 h5).1
    have hcc := fun j => cell_of_row wc _ j _ _ _ h5
    have hBx : B ≤ wc.heap.size := Nat.le_trans lo.2.2.2 h6.size
    have HEND := Lib.hid (fun v' w5 w6 c5 o5 hr e6 => note_end (v' := v') (w5 := w5) (w6 := w6) lo hdis hlen hlr hgr HM.out c5 o5 hr e6)
    have HH := Lib.hid h1
    have HH5 := Lib.hid h5
    have HB := Lib.hid (And.intro lo.1 (And.intro hBx HA.out.2.2.2.1))
    have HNL := Lib.hid (show c1 ∉ rowB lv from fun h => HA.out.2.2.2.2 (by simp [h]))
    have HO := Lib.hid h3
    clear h1 h2 h3 h4 h5 h6 lo hdis hlen hlr hgr hBx HM HK HK1 HC1 HC2 hadd HA
    rcases HO.out.2 with ⟨hv, hn⟩ | ⟨g, cap2, cur, hv, hbg, hg, hnc, hcm, hcs, htk⟩
    · subst hv
      obtain rfl : K = [] := List.length_eq_zero_iff.1 hn
      clear hlv
      refine wp_region_late (af := ?af2) [true, true, true, true, true, true, false, false, false, false, false] [false, false, false, false, false, false, false, false, true, true, true] 37 (fun w' => wc.grownBy w' none) (by kernel_rfl) rfl (by kernel_rfl) (fun _ _ h e => non_extK h e) (non_ofK (Ext.refl wc).drew) ?q ?r
      case q =>
        intro w' hw'
        obtain ⟨y, rfl⟩ : ∃ y : ExtOf wc, w' = y.val := ⟨⟨w', ext_grown hw'⟩, rfl⟩
        simp only [pickT, if_true, if_false, Bool.false_eq_true]
        repeat (go_big_quiet_step (fail))
        exact rfl
      case r =>
        simp only [pickN, if_true, if_false, Bool.false_eq_true]
        intro x1
        have e1 : Ext wc x1.val := (Ext.refl _).drew.val x1
        go_wp2_with fail
        refine ⟨fun _ => non_ofK (e1.alloc _), ?_⟩
        intro x2
        have e2 : Ext wc x2.val := (e1.alloc _).val x2
        go_wp2_with (at_builtin; refine unHd ?_)
        unfold Hd2
        refine wpList_app5 B 76 44 ti0 _ 1 8 Try.underlying76 hi hz0 hz1 hz2 rfl (by decide) rfl _ _ rfl _ 0 _ rfl (own_ext HO.out e2) (Nat.le_trans HB.out.2.1 e2.size) x1.val.heap.size 1 1 #[.int .i64 nt] (by decide) rfl (heap_ext (heap_new rfl) x2.ext) rfl (by simp [Value.oneCell']) (by unfold maxLen; have := HB.out.2.2; omega) (by have := HB.out.2.2; omega) ?_
        intro v2 w2 hown2 hg2 hr2
        obtain ⟨g2, cap3, rfl⟩ : ∃ g2 cap3, v2 = .slice (some ⟨g2, 0, none⟩) (0 + 1) cap3 := by
          rcases hown2.2 with ⟨_, h0⟩ | ⟨g2, cap2, _, h0, _⟩
          · omega
          · exact ⟨g2, cap2, h0⟩
        have c2' : wc.grownBy w2 none := but_trans (non_ofK (e2)) hg2
        first | refine ⟨fun _ => c2', ?_⟩ | refine ⟨c2', ?_⟩
        intro x3
        go_wp2_with fail
        try refine ⟨fun h => absurd h (by decide), ?_⟩
        intro x4
        go_wp2_with fail
        try refine ⟨fun h => absurd h (by decide), ?_⟩
        intro x5
        have c5 : wc.grownBy x5.val none := non_extK c2' ((x3.ext.trans x4.ext).trans x5.ext)
        have hb5 : x5.val.heap[kb]? = some (.cells #[.pointer (some ⟨pb, 0, none⟩), gv, .map (some sb), .slice none 0 0] 78 (0, 0)) := (c5.block kb lb (by simp)).trans HH.out
        have o5 := own_ext hown2 ((x3.ext.trans x4.ext).trans x5.ext)
        have hr5 : ∀ k ∈ rowB (.slice (some ⟨g2, 0, none⟩) (0 + 1) cap3), k ∈ rowB (.slice none 0 0) ∨ wc.heap.size ≤ k := fun k hk => (hr2 k hk).imp id (fun h => by have := e2.size; omega)
        have hcb5 := fun j => cell_of_row x5.val _ j _ _ _ hb5
        have hfb5 := fun j => frozen_of_row x5.val _ j _ _ hb5
        generalize x5.val = w5 at c5 hb5 o5 hcb5 hfb5 ⊢
        have HO5 := Lib.hid o5
        have HR5 := Lib.hid hr5
        clear hb5 o5 hr5 hr2 hg2 hown2
        go_wp2_with fail
        try refine ⟨fun h => absurd h (by decide), ?_⟩
        intro x6
        go_wp2_with fail
        exact ⟨rfl, .tuple #[], by simp [results, go_sem], rfl, HEND.out _ w5 x6.val c5 (by rw [HNT.out]; exact HO5.out) HR5.out x6.ext⟩
    · have hlv2 := hlv.symm.trans hv
      clear hlv
      simp only [Value.slice.injEq, true_and] at hlv2
      obtain ⟨rfl, rfl⟩ := hlv2
      subst hv
      have lg : g < wc.heap.size := (Array.getElem?_eq_some_iff.1 hg).1
      have hkg : kb < g := by have := HB.out.1; omega
      have hne : ¬ c1 = g := fun e => HNL.out (by simp [rowB, Value.ownBlock, e])
      clear hg hnc hcm hcs htk
      refine wp_region_late (af := ?af3) [true, true, true, true, true, true, false, false, false, false, false] [false, false, false, false, false, false, false, false, true, true, true] 37 (fun w' => wc.grownBy w' (some g)) (by kernel_rfl) rfl (by kernel_rfl) (fun _ _ h e => but_ext h e) (but_ext (but_refl g wc) (Ext.refl wc).drew) ?q ?r
      case q =>
        intro w' hw'
        obtain ⟨y, rfl⟩ : ∃ y : ButOf g wc, w' = y.val := ⟨⟨w', hw'⟩, rfl⟩
        simp only [pickT, if_true, if_false, Bool.false_eq_true]
        repeat (go_big_quiet_step (fail))
        exact rfl
      case r =>
        simp only [pickN, if_true, if_false, Bool.false_eq_true]
        intro x1
        have e1 : Ext wc x1.val := (Ext.refl _).drew.val x1
        go_wp2_with fail
        refine ⟨fun _ => but_ext (but_refl g wc) (e1.alloc _), ?_⟩
        intro x2
        have e2 : Ext wc x2.val := (e1.alloc _).val x2
        go_wp2_with (at_builtin; refine unHd ?_)
        unfold Hd2
        refine wpList_app5 B 76 44 ti0 _ 1 8 Try.underlying76 hi hz0 hz1 hz2 rfl (by decide) rfl _ _ rfl _ K.length _ rfl (own_ext HO.out e2) (Nat.le_trans HB.out.2.1 e2.size) x1.val.heap.size 1 1 #[.int .i64 nt] (by decide) rfl (heap_ext (heap_new rfl) x2.ext) rfl (by simp [Value.oneCell']) (by unfold maxLen; have := HB.out.2.2; omega) (by have := HB.out.2.2; omega) ?_
        intro v2 w2 hown2 hg2 hr2
        obtain ⟨g2, cap3, rfl⟩ : ∃ g2 cap3, v2 = .slice (some ⟨g2, 0, none⟩) (K.length + 1) cap3 := by
          rcases hown2.2 with ⟨_, h0⟩ | ⟨g2, cap2, _, h0, _⟩
          · omega
          · exact ⟨g2, cap2, h0⟩
        have c2' : wc.grownBy w2 (some g) := but_trans (but_ext (but_refl g wc) (e2)) hg2
        first | refine ⟨fun _ => c2', ?_⟩ | refine ⟨c2', ?_⟩
        intro x3
        go_wp2_with fail
        try refine ⟨fun h => absurd h (by decide), ?_⟩
        intro x4
        go_wp2_with fail
        try refine ⟨fun h => absurd h (by decide), ?_⟩
        intro x5
        have c5 : wc.grownBy x5.val (some g) := but_ext c2' ((x3.ext.trans x4.ext).trans x5.ext)
        have hb5 : x5.val.heap[kb]? = some (.cells #[.pointer (some ⟨pb, 0, none⟩), gv, .map (some sb), .slice (some ⟨g, 0, none⟩) K.length cap] 78 (0, 0)) := (c5.block kb lb (by simp; omega)).trans HH.out
        have o5 := own_ext hown2 ((x3.ext.trans x4.ext).trans x5.ext)
        have hr5 : ∀ k ∈ rowB (.slice (some ⟨g2, 0, none⟩) (K.length + 1) cap3), k ∈ rowB (.slice (some ⟨g, 0, none⟩) K.length cap) ∨ wc.heap.size ≤ k := fun k hk => (hr2 k hk).imp id (fun h => by have := e2.size; omega)
        have hcb5 := fun j => cell_of_row x5.val _ j _ _ _ hb5
        have hfb5 := fun j => frozen_of_row x5.val _ j _ _ hb5
        generalize x5.val = w5 at c5 hb5 o5 hcb5 hfb5 ⊢
        have HO5 := Lib.hid o5
        have HR5 := Lib.hid hr5
        clear hb5 o5 hr5 hr2 hg2 hown2
        go_wp2_with fail
        try refine ⟨fun h => absurd h (by decide), ?_⟩
        intro x6
        go_wp2_with fail
        exact ⟨rfl, .tuple #[], by simp [results, go_sem], rfl, HEND.out _ w5 x6.val c5 (by rw [HNT.out]; exact HO5.out) HR5.out x6.ext⟩
end Go.Proofs.Ytfibbhmmiemcoaa

/-
  The pool and what is known, together; the closure that notes what is shown, in these words. No condition.
-/
namespace Go.Proofs.Ytfibbhmmiemcoaa
open Go.RowKit

/-- How each was seen: given, or by one that was seen ahead of it. -/
def WayOk (L K : List Tt) (W : List (Int × Int)) : Prop := ∀ (i : Nat) (p : Int × Int), W[i]? = some p → p.1 = 0 ∨ (p.1 ≠ 0 ∧ ∃ j u, j < i ∧ K[j]? = some u ∧ p.2 = idT L u)

structure StAt (B pb mb kb sb : Nat) (v gv lv : Value) (L G K : List Tt) (W : List (Int × Int)) (w : World) : Prop where
  pool : PoolAt B pb mb v L w
  know : KnowAt B kb sb pb gv lv L G K W w
  ne : pb ≠ kb ∧ pb ≠ sb ∧ mb ≠ kb ∧ mb ≠ sb
  dv : ∀ g ∈ rowB v, g ∉ rowB gv ∧ g ∉ rowB lv
  ok : PoolOk L
  KL : ∀ u ∈ K, u ∈ L
  GL : ∀ u ∈ G, u ∈ L
  nd : K.Nodup
  way : WayOk L K W

section
variable {B pb mb kb sb : Nat} {v gv lv : Value} {L G K : List Tt} {W : List (Int × Int)} {w w' : World}
theorem StAt.ext (h : StAt B pb mb kb sb v gv lv L G K W w) (e : Ext w w') : StAt B pb mb kb sb v gv lv L G K W w' :=
  ⟨h.pool.ext e, h.know.ext e, h.ne, h.dv, h.ok, h.KL, h.GL, h.nd, h.way⟩
/-- The blocks that noting changes. -/
theorem StAt.out (h : StAt B pb mb kb sb v gv lv L G K W w) : pb ∉ kb :: sb :: rowB lv ∧ mb ∉ kb :: sb :: rowB lv ∧ ∀ g ∈ rowB v, g ∉ kb :: sb :: rowB lv := by
  have hl := row_lo h.know.list
  have hv := row_lo h.pool.row
  have lp := h.pool.lo
  have lk := h.know.lo
  simp only [List.mem_cons, not_or]
  exact ⟨⟨h.ne.1, h.ne.2.1, fun hm => by have := hl _ hm; omega⟩, ⟨h.ne.2.2.1, h.ne.2.2.2, fun hm => by have := hl _ hm; omega⟩, fun g hg => ⟨by have := hv g hg; omega, by have := hv g hg; omega, (h.dv g hg).2⟩⟩
theorem PoolAt.keep {X : List Nat} (h : PoolAt B pb mb v L w) (k : Keeps X w w') (h1 : pb ∉ X) (h2 : mb ∉ X) (h3 : ∀ g ∈ rowB v, g ∉ X) : PoolAt B pb mb v L w' :=
  ⟨(k.block _ (Array.getElem?_eq_some_iff.1 h.head).1 h1).trans h.head, own_at h.row fun g hg => k.block g (row_lt h.row g hg) (h3 g hg), h.map.same (k.block _ h.map.lt h2), h.lo.1, h.lo.2.1, h.lo.2.2.1, Nat.le_trans h.lo.2.2.2 k.size⟩
/-- Another term is noted. -/
theorem StAt.note {K' : List Tt} {W' : List (Int × Int)} (h : StAt B pb mb kb sb v gv lv L G K W w) (hk : Known B kb sb pb gv lv L G K' W' w w') (hKL : ∀ u ∈ K', u ∈ L) (hnd : K'.Nodup) (hw : WayOk L K' W') :
    ∃ lv', StAt B pb mb kb sb v gv lv' L G K' W' w' ∧ Keeps (kb :: sb :: rowB lv) w w' ∧ ∀ g ∈ rowB lv', g ∈ rowB lv ∨ w.heap.size ≤ g := by
  obtain ⟨lv', h1, h2, h3⟩ := hk
  obtain ⟨o1, o2, o3⟩ := h.out
  refine ⟨lv', ⟨h.pool.keep h2 o1 o2 o3, h1, h.ne, fun g hg => ⟨(h.dv g hg).1, fun hm => ?_⟩, h.ok, hKL, h.GL, hnd, hw⟩, h2, h3⟩
  rcases h3 g hm with e | e
  · exact (h.dv g hg).2 e
  · have := row_lt h.pool.row g hg; omega
end

theorem way_add {L K : List Tt} {W : List (Int × Int)} {t u : Tt} {i : Nat} {r : Int} (hl : W.length = K.length) (h : WayOk L K W) (hu : K[i]? = some u) (hr : r ≠ 0) : WayOk L (K ++ [t]) (W ++ [(r, (idT L u : Int))]) := by
  intro j p hp
  have hi := (List.getElem?_eq_some_iff.1 hu).1
  by_cases hj : j < W.length
  · rw [List.getElem?_append_left hj] at hp
    rcases h j p hp with h | ⟨h, j', x, a, b, c⟩
    · exact .inl h
    · exact .inr ⟨h, j', x, a, by rw [List.getElem?_append_left (List.getElem?_eq_some_iff.1 b).1]; exact b, c⟩
  · have hj2 : j = W.length := by
      have := (List.getElem?_eq_some_iff.1 hp).1
      simp at this
      omega
    subst hj2
    simp at hp
    subst hp
    exact .inr ⟨hr, i, u, by omega, by rw [List.getElem?_append_left hi]; exact hu, rfl⟩
theorem way_given {L K : List Tt} {W : List (Int × Int)} {t : Tt} {n : Int} (hl : W.length = K.length) (h : WayOk L K W) : WayOk L (K ++ [t]) (W ++ [(0, n)]) := by
  intro j p hp
  by_cases hj : j < W.length
  · rw [List.getElem?_append_left hj] at hp
    rcases h j p hp with h | ⟨h, j', x, a, b, c⟩
    · exact .inl h
    · exact .inr ⟨h, j', x, a, by rw [List.getElem?_append_left (List.getElem?_eq_some_iff.1 b).1]; exact b, c⟩
  · have hj2 : j = W.length := by
      have := (List.getElem?_eq_some_iff.1 hp).1
      simp at this
      omega
    subst hj2
    simp at hp
    subst hp
    exact .inl rfl

/-- Behind the closure. -/
def Shown (B pb mb kb sb c1 c2 : Nat) (v gv lv : Value) (L G K : List Tt) (W : List (Int × Int)) (ty : TypeId) (nu : Int) (w w' : World) : Prop :=
  ∃ lv' W', StAt B pb mb kb sb v gv lv' L G K W' w' ∧ Keeps (kb :: sb :: rowB lv) w w' ∧ (∀ g ∈ rowB lv', g ∈ rowB lv ∨ w.heap.size ≤ g) ∧
    w'.heap[c1]? = some (.cells #[.pointer (some ⟨kb, 0, none⟩)] ty (0, 0)) ∧ w'.heap[c2]? = some (.cells #[.int .i64 nu] 44 (0, 0)) ∧ c1 ∉ kb :: sb :: rowB lv' ∧ c2 ∉ kb :: sb :: rowB lv' ∧ W <+: W'

theorem fresh_out {kb sb c : Nat} {lv lv' : Value} {n : Nat} (h : c ∉ kb :: sb :: rowB lv) (hc : c < n) (hf : ∀ g ∈ rowB lv', g ∈ rowB lv ∨ n ≤ g) : c ∉ kb :: sb :: rowB lv' := by
  simp only [List.mem_cons, not_or] at h ⊢
  refine ⟨h.1, h.2.1, fun hm => ?_⟩
  rcases hf c hm with e | e
  · exact h.2.2 e
  · omega

theorem getM_in {L K : List Tt} {W : List (Int × Int)} {t : Tt} (hl : W.length = K.length) (hKL : ∀ u ∈ K, u ∈ L) (hn : K.Nodup) (ht : t ∈ K) : ∃ p : Int × Int, getM (seenL L K W) (idT L t : Int) = some (wyV p) := by
  obtain ⟨i, hi, he⟩ := List.getElem_of_mem ht
  exact ⟨W[i]'(by omega), getM_at hKL hn (by rw [List.getElem?_eq_getElem hi, he]) (List.getElem?_eq_getElem (by omega))⟩

theorem du_shown (B pb mb kb sb c1 c2 : Nat) (v gv lv : Value) (L G K : List Tt) (W : List (Int × Int)) (t u : Tt) (i : Nat) (rule : Int) (ty : TypeId) (w : World) (hS : StAt B pb mb kb sb v gv lv L G K W w) (hc1 : w.heap[c1]? = some (.cells #[.pointer (some ⟨kb, 0, none⟩)] ty (0, 0)))
    (hc2 : w.heap[c2]? = some (.cells #[.int .i64 (idT L u)] 44 (0, 0))) (hn1 : c1 ∉ kb :: sb :: rowB lv) (hn2 : c2 ∉ kb :: sb :: rowB lv) (ht : t ∈ L) (hu : K[i]? = some u) (hr : rule ≠ 0) (hlen : K.length ≤ 100000) :
    Calls Try.prog 67 #[.int .i64 (idT L t), .int .i64 rule, .pointer (some ⟨c1, 0, none⟩), .pointer (some ⟨c2, 0, none⟩)] w fun e w' => e = .returned (.tuple #[]) ∧ Shown B pb mb kb sb c1 c2 v gv lv L G (addT K t) W ty (idT L u) w w' := by
  by_cases hm : t ∈ K
  · obtain ⟨p, hp⟩ := getM_in hS.know.len hS.KL hS.nd hm
    have hl : lookG (seenL L K W) (idT L t) (wyV (0, 0)) true = .tuple #[.agg #[.int .i64 p.1, .int .i64 p.2], .bool true] := by
      unfold lookG; rw [hp]; rfl
    refine (du_shown_old B kb sb pb c1 c2 gv lv L G K W (idT L t) rule ty w hS.know hc1 _ _ hl).mono ?_
    rintro e w' ⟨rfl, hx⟩
    rw [show addT K t = K from if_pos hm]
    exact ⟨rfl, lv, W, hS.ext hx, (Keeps.refl _ w).ext hx, fun g hg => .inl hg, heap_ext hc1 hx, heap_ext hc2 hx, hn1, hn2, List.prefix_refl _⟩
  · refine (du_shown_new B kb sb pb c1 c2 gv lv L G K W t u rule ty w hS.know hc1 hc2 hn1 hS.KL ht hm hlen).mono ?_
    rintro e w' ⟨rfl, hk⟩
    rw [show addT K t = K ++ [t] from if_neg hm]
    have l1 := (Array.getElem?_eq_some_iff.1 hc1).1
    have l2 := (Array.getElem?_eq_some_iff.1 hc2).1
    have nd := addT_nodup hS.nd t
    rw [show addT K t = K ++ [t] from if_neg hm] at nd
    obtain ⟨lv', h1, h2, h3⟩ := hS.note hk (fun x hx => by
      rcases List.mem_append.1 hx with h | h
      · exact hS.KL x h
      · rw [List.mem_singleton.1 h]; exact ht) nd (way_add hS.know.len hS.way hu hr)
    exact ⟨rfl, lv', _, h1, h2, h3, (h2.block _ l1 hn1).trans hc1, (h2.block _ l2 hn2).trans hc2, fresh_out hn1 l1 h3, fresh_out hn2 l2 h3, List.prefix_append _ _⟩
end Go.Proofs.Ytfibbhmmiemcoaa

/-
  Walk: the wheel is turned to a tick. No condition.
-/
import Derived.Test.YtibdplfdmncgiaaT7
set_option linter.all false
namespace Go.Proofs.Ytibdplfdmncgiaa
open Go.RowKit
attribute [local go_sem] ExtOf.cell ExtOf.frozen ExtOf.lt ExtOf.le
attribute [local go_sem high] ExtOf.cell2 ExtOf.frozen2 ExtOf.lt2 ExtOf.cell3 ExtOf.frozen3 ExtOf.lt3 ExtOf.cellX ExtOf.frozenX ExtOf.cellX' ExtOf.frozenX'

section
variable {P : Program} {ops : Array Oper} {rest : List Oper} {o : Oper} {a : Act} {w : World} {Q : Exit → Act → World → Prop}
theorem wpList_delete (hgd : o.guard = none) (T kt et t2 : TypeId) (q : IntKind) (m k : Operand) (ho : o.op = .call { callee := .builtin .delete, args := #[m, k], argTypes := #[T, t2] }) (hT : P.underlying T = some (.map kt et)) (hk : P.underlying kt = some (.int q)) (b : Nat) (S : List Tm) (i : Int)
    (hm : a.eval m = .map (some b)) (hkv : a.eval k = .int .i64 i) (hM : MapW b S w)
    (h : ∀ ob, MapW b (dropT S i) (setB w b ob) → wpList P ops Q rest (a.put o.dst (.tuple #[])) (setB w b ob)) : wpList P ops Q (o :: rest) a w := by
  refine wpList_plain hgd fun _ hK => ?_
  obtain ⟨ob, hr, hM'⟩ := run_delete (P := P) (ty := o.type) (ts := #[T, t2]) rfl hT hk hM i
  unfold Oper.wp execOp
  simp only [ho, resolve, invoke, builtin, Sem.run_bind, Sem.run_pure, Result.andThen_ok, List.map_toArray, List.map_cons, List.map_nil, hm, hkv, hr]
  exact hK _ _ (h ob hM')
end

theorem rowB_lt {B bH : Nat} {f : FuncId} {v : Value} {L : List Hd} {m : Int} {w : World} (h : HeapW B bH f v L m w) : ∀ g ∈ rowB v, g < w.heap.size := fun g hg => by
  rcases h.2.2 with ⟨hv, _⟩ | ⟨g', cap, cur, hv, hb, hg', _⟩
  · subst hv; simp [rowB, Value.ownBlock] at hg
  · subst hv
    simp only [rowB, Value.ownBlock, List.mem_singleton] at hg
    subst hg
    exact (Array.getElem?_eq_some_iff.1 hg').1

theorem HeapW.same2 {B bH : Nat} {f : FuncId} {v : Value} {L : List Hd} {m : Int} {w w' : World} (h : HeapW B bH f v L m w) (h1 : w'.heap[bH]? = w.heap[bH]?) (h2 : ∀ k ∈ rowB v, w'.heap[k]? = w.heap[k]?) : HeapW B bH f v L m w' := by
  refine ⟨h1.trans h.1, h.2.1, h.2.2.imp id ?_⟩
  rintro ⟨g, cap, cur, hv, hb, hg, r⟩
  refine ⟨g, cap, cur, hv, hb, ?_, r⟩
  rw [h2 g (by subst hv; simp [rowB, Value.ownBlock])]
  exact hg
theorem Keeps.below {X : List Nat} {a b c : World} (h : Keeps X a b) (k : Below a.heap.size b c) : Keeps X a c :=
  ⟨k.os.trans h.os, k.tape.trans h.tape, k.output.trans h.output, Nat.le_trans h.size k.size, fun i hi hx => (k.block i hi).trans (h.block i hi hx)⟩

theorem firstL_head {S : List Tm} : ∀ {f : Nat} {L L' : List Hd} {x : Hd}, L.length ≤ f → firstL S f L = x :: L' → ∃ t, getT S x.i = some t ∧ t.o = x.o
  | 0, [], _, _, _, h => by simp [firstL] at h
  | 0, _ :: _, _, _, h, _ => by simp at h
  | f + 1, [], _, _, _, h => by simp [firstL] at h
  | f + 1, y :: L, L', x, hf, h => by
    have hp : (popH (y :: L)).length ≤ f := by rw [popH_length]; simpa using hf
    simp only [firstL] at h
    split at h
    · rename_i t ht
      split at h
      · rename_i ho
        simp only [List.cons.injEq] at h
        obtain ⟨rfl, rfl⟩ := h
        exact ⟨t, ht, ho⟩
      · exact firstL_head hp h
    · exact firstL_head hp h

theorem firstL_le {S : List Tm} : ∀ (f : Nat) (L : List Hd), (firstL S f L).length ≤ L.length
  | 0, _ => Nat.le_refl _
  | f + 1, [] => Nat.le_refl _
  | f + 1, y :: L => by
    have := firstL_le (S := S) f (popH (y :: L))
    rw [popH_length] at this
    simp only [firstL]
    split
    · split
      · exact Nat.le_refl _
      · simp; omega
    · simp; omega

theorem getT_idx {S : List Tm} {k : Int} {t : Tm} (h : getT S k = some t) : ∃ j, S.findIdx? (fun u => u.id == k) = some j ∧ j < S.length := by
  rw [← find_of_idx] at h
  cases hi : S.findIdx? (fun u => u.id == k) with
  | none => rw [hi] at h; cases h
  | some j =>
    obtain ⟨hlt, _⟩ := List.findIdx?_eq_some_iff_getElem.1 hi
    exact ⟨j, rfl, hlt⟩
theorem dropT_length {S : List Tm} {k : Int} {t : Tm} (h : getT S k = some t) : (dropT S k).length + 1 = S.length := by
  obtain ⟨j, hj, hlt⟩ := getT_idx h
  unfold dropT
  rw [hj]
  simp only [List.length_eraseIdx, if_pos hlt]
  omega

def tmAt (S : List Tm) (k : Int) : Tm := (getT S k).getD ⟨k, 0, 0, 0⟩

/-- The wheel turned to a tick: what falls due, the wheel then. -/
def untilW (zt : Int) : Nat → Wh → List Int → List Int × Wh
  | 0, W, acc => (acc, W)
  | f + 1, W, acc => match firstL W.S W.L.length W.L with
    | [] => (acc, { W with L := [], now := zt })
    | x :: L' => if zt < (tmAt W.S x.i).a then (acc, { W with L := x :: L', now := zt })
      else untilW zt f { W with now := (tmAt W.S x.i).a, S := dropT W.S x.i, L := x :: L' } (acc ++ [(tmAt W.S x.i).v])

def intCs (l : List Int) : List Value := l.map (.int .i64)

/-- What is behind a turn. -/
def TurnedW (T V : TypeId) (f : FuncId) (p : At) (v : Value) (R : List Int × Wh) (g : Value → Value) (w : World) : Ending → World → Prop := fun e w' =>
  ∃ vl v', e = .returned (g vl) ∧ w'.ownsRow w.heap.size V 1 vl R.1.length (intCs R.1) ∧ WheelW T f p v' R.2 w' ∧ Keeps (p.all v) w w' ∧ rowB v' = rowB v

theorem field0_int (x y z : Int) (w : World) : (Instr.field 95 (.agg #[.int .i64 x, .int .i64 y, .int .i64 z]) 0).run Try.prog w = .ok (.int .i64 x) w := by kernel_rfl
attribute [local go_sem] field0_int

theorem info_v_int : (Try.prog.info? 3).map (fun i => (i.zero, i.size, i.bytes)) = some (some (.int .i64 0), 1, 8) := by kernel_rfl

set_option maxRecDepth 100000 in
set_option maxHeartbeats 8000000 in
theorem until_int (p : At) (v : Value) (W : Wh) (zt : Int) (w : World) (hW : WheelW 91 43 p v W w) (hB : p.B ≤ w.heap.size) (hL : W.L.length ≤ 100000) (hS : W.S.length ≤ 100000) :
    Calls Try.prog 45 #[.pointer (some ⟨p.bW, 0, none⟩), .int .i64 zt] w (TurnedW 91 3 43 p v (untilW zt (W.S.length + 1) W []) (fun x => x) w) := by
  obtain ⟨ti0, hi, hz0, hz1, hz2⟩ := info_parts info_v_int
  obtain ⟨now, ids, ord, S, L, m⟩ := W
  obtain ⟨bM, bH, bW, B, pM, pH, pW⟩ := p
  simp only at hB hL hS ⊢
  have HGL := Lib.hid (rowB_lt hW.2.2)
  have HW := Lib.hid hW
  clear hW
  go_enter Try.func45, Try.ntmps45
  go_wp2_with fail
  go_loopg [5] S.length (fun g vl wr => ∃ (f : Nat) (Wc : Wh) (vc : Value) (acc : List Int), Wc.S.length ≤ g ∧ Wc.S.length + 1 ≤ f ∧ Wc.S.length + acc.length ≤ S.length ∧ Wc.L.length ≤ L.length ∧ Hid (untilW zt f Wc acc = untilW zt (S.length + 1) ⟨now, ids, ord, S, L, m⟩ []) ∧
      Hid (WheelW 91 43 ⟨bM, bH, bW, B, pM, pH, pW⟩ vc Wc wr) ∧ Hid (wr.ownsRow w.heap.size 3 1 vl acc.length (intCs acc)) ∧ Hid (Keeps (At.all ⟨bM, bH, bW, B, pM, pH, pW⟩ v) w wr) ∧ Hid (rowB vc = rowB v))
  case atStart => exact ⟨S.length + 1, ⟨now, ids, ord, S, L, m⟩, v, [], Nat.le_refl _, Nat.le_refl _, by simp, Nat.le_refl _, Lib.hid rfl, HW, Lib.hid (World.ownsRow_nil _ _ _ _), Lib.hid (Keeps.refl _ _), Lib.hid rfl⟩
  case round =>
    obtain ⟨f, Wc, vc, acc, hg, hf, hla, hll, HU, HWc, HO, HK, HR⟩ := hrel
    obtain ⟨now1, ids1, ord1, S1, L1, m1⟩ := Wc
    simp only at hg hf hla hll
    have hsz : w.heap.size ≤ wr.heap.size := HK.out.size
    clear HW
    go_wp2_with fail
    refine (first_int ⟨bM, bH, bW, B, pM, pH, pW⟩ vc ⟨now1, ids1, ord1, S1, L1, m1⟩ wr HWc.out (Nat.le_trans hB hsz) (by simp only; omega)).mono ?_
    rintro e w1 ⟨rfl, v1, hW1, hk1, hr1⟩
    simp only at hW1 ⊢
    obtain ⟨hb1, hM1, hH1⟩ := hW1
    simp only at hb1 hM1 hH1
    have hgl : ∀ q ∈ rowB vc, q < w.heap.size := fun q hq => HGL.out q (by rw [← HR.out]; exact hq)
    have hHc := HWc.out.2.2
    have hgB := rowB_ge hHc
    have HO1 := Lib.hid (own_same HO.out (w' := w1) (fun k hk hk2 => hk1.block k hk2 (fun h => by
      rcases List.mem_cons.1 h with h | h
      · have h : k = bH := h
        omega
      · have := hgl _ h; omega)))
    have HK1 := Lib.hid (HK.out.trans (hk1.mono (fun k hk => by
      rw [HR.out] at hk
      simp only [At.all, List.mem_cons] at hk ⊢
      rcases hk with h | h <;> simp [h])))
    have HR1 := Lib.hid (hr1.trans HR.out)
    have hsz1 : w.heap.size ≤ w1.heap.size := HK1.out.size
    have lb1 : bW < w1.heap.size := (Array.getElem?_eq_some_iff.1 hb1).1
    have hcb1 := fun j => cell_of_row w1 _ j _ _ _ hb1
    have hfb1 := fun j => frozen_of_row w1 _ j _ _ hb1
    have HB1 := Lib.hid hb1
    have HM1 := Lib.hid hM1
    clear hb1 hM1 hk1 hr1 hHc hgl hgB HO HK HR HWc
    rcases hfl : firstL S1 L1.length L1 with _ | ⟨x, L2⟩
    · rw [hfl] at hH1
      have HFL := Lib.hid hfl
      have HH1 := Lib.hid hH1
      clear hfl hH1
      simp only [firstV]
      go_wp2_with fail
      refine bodyPost_ret (results_tmp (t := 4) rfl _ _ _) ?_ ?_
      · rfl
      have hU : untilW zt (S.length + 1) ⟨now, ids, ord, S, L, m⟩ [] = (acc, ⟨zt, ids1, ord1, S1, [], m1⟩) := by
        rw [← HU.out]
        obtain ⟨f', rfl⟩ : ∃ f', f = f' + 1 := ⟨f - 1, by omega⟩
        unfold untilW
        simp only [HFL.out]
        skip
      rw [hU]
      refine ⟨_, v1, rfl, own_same HO1.out (fun k hk _ => cell_other (by show k ≠ bW; omega)), ⟨by simpa using setCell_row (o := 0) HB1.out (.int .i64 zt), HM1.out.same (cell_other (by show bM ≠ bW; omega)), HH1.out.same (cell_other (by show bH ≠ bW; omega)) (fun k hk _ => cell_other (by show k ≠ bW; omega))⟩, HK1.out.setCell (.inl (by simp [At.all])) _ _, HR1.out⟩
    · rw [hfl] at hH1
      have HFL := Lib.hid hfl
      have HH1 := Lib.hid hH1
      have hll2 : (x :: L2).length ≤ L1.length := by rw [← hfl]; exact firstL_le _ _
      obtain ⟨t, hgt, hto⟩ := firstL_head (Nat.le_refl _) hfl
      have htm : tmAt S1 x.i = t := by unfold tmAt; rw [hgt]; rfl
      have hlk : (Instr.lookup 88 (.map (some bM)) (.int .i64 x.i) false).run Try.prog w1 = .ok (.agg #[.int .i64 t.a, .int .i64 t.o, .int .i64 t.v]) w1 := by
        rw [run_lookup Try.underlying88 Try.underlying3 zero_int HM1.out x.i false]
        simp only [lookV, hgt]
        rfl
      have HGT := Lib.hid hgt
      have HTM := Lib.hid htm
      clear hfl hH1 hgt hto htm
      simp only [firstV]
      by_cases hlt : zt < t.a
      · have HLT := Lib.hid hlt
        go_wp2_with fail
        refine bodyPost_ret (results_tmp (t := 4) rfl _ _ _) ?_ ?_
        · rfl
        have hU : untilW zt (S.length + 1) ⟨now, ids, ord, S, L, m⟩ [] = (acc, ⟨zt, ids1, ord1, S1, x :: L2, m1⟩) := by
          rw [← HU.out]
          obtain ⟨f', rfl⟩ : ∃ f', f = f' + 1 := ⟨f - 1, by omega⟩
          unfold untilW
          simp only [HFL.out]
          rw [HTM.out, if_pos HLT.out]
        rw [hU]
        refine ⟨_, v1, rfl, own_same HO1.out (fun k hk _ => cell_other (by show k ≠ bW; omega)), ⟨by simpa using setCell_row (o := 0) HB1.out (.int .i64 zt), HM1.out.same (cell_other (by show bM ≠ bW; omega)), HH1.out.same (cell_other (by show bH ≠ bW; omega)) (fun k hk _ => cell_other (by show k ≠ bW; omega))⟩, HK1.out.setCell (.inl (by simp [At.all])) _ _, HR1.out⟩
      · have HLT := Lib.hid hlt
        have hle : t.a ≤ zt := by omega
        clear hlt
        go_wp2_with (refine wpList_store_row rfl 95 _ _ rfl w1.heap.size _ rfl rfl 95 _ (heap_new rfl) (info_tm_int _ _ _) rfl (by simp [Value.oneCell']) (unHd ?_))
        have eX : Ext w1 ((w1.alloc (.cells #[.int .i64 0, .int .i64 0, .int .i64 0] 95)).setRow w1.heap.size #[.int .i64 t.a, .int .i64 t.o, .int .i64 t.v]) := ((Ext.refl w1).alloc _).setRow (Nat.le_refl _) _
        have eT := setRow_heap _ _ _ #[.int .i64 t.a, .int .i64 t.o, .int .i64 t.v] _ _ (heap_new (w := w1) (o := .cells #[.int .i64 0, .int .i64 0, .int .i64 0] 95) rfl)
        generalize World.setRow _ _ _ = w2 at eX eT ⊢
        have hb2 := heap_ext HB1.out eX
        have lb2 : bW < w2.heap.size := (Array.getElem?_eq_some_iff.1 hb2).1
        have hcb2 := fun j => cell_of_row w2 _ j _ _ _ hb2
        have hfb2 := fun j => frozen_of_row w2 _ j _ _ hb2
        have hct2 := fun j => cell_of_row w2 _ j _ _ _ eT
        have lt2 : w1.heap.size < w2.heap.size := (Array.getElem?_eq_some_iff.1 eT).1
        have HT2 := Lib.hid eT
        have HB2 := Lib.hid hb2
        have HM2 := Lib.hid (HM1.out.ext eX)
        have HH2 := Lib.hid (HH1.out.ext eX)
        have HO2 := Lib.hid (own_ext HO1.out eX)
        have HK2 := Lib.hid (HK1.out.ext eX)
        have hne : bW ≠ w1.heap.size := by omega
        clear eX eT hb2 hlk hcb1 hfb1 lb1 HB1 HM1 HH1 HO1 HK1
        unfold Hd2
        go_upto_region 8 with fail
        have b3 : (w2.setCell ⟨bW, 0, none⟩ (.int .i64 t.a)).heap[bW]? = some (.cells #[.int .i64 t.a, .int .i64 ids1, .int .i64 ord1, .map (some bM), .pointer (some ⟨bH, 0, none⟩), .slice none 0 0] 91 (0, 0)) := by simpa using setCell_row (o := 0) HB2.out (.int .i64 t.a)
        have t3 : (w2.setCell ⟨bW, 0, none⟩ (.int .i64 t.a)).heap[w1.heap.size]? = _ := (cell_other (Ne.symm hne)).trans HT2.out
        have m3 : MapW bM S1 (w2.setCell ⟨bW, 0, none⟩ (.int .i64 t.a)) := HM2.out.same (cell_other (by show bM ≠ bW; omega))
        have h3 : HeapW B bH 43 v1 (x :: L2) m1 (w2.setCell ⟨bW, 0, none⟩ (.int .i64 t.a)) := HH2.out.same (cell_other (by show bH ≠ bW; omega)) (fun k hk _ => cell_other (by show k ≠ bW; omega))
        have o3 := own_same HO2.out (w' := w2.setCell ⟨bW, 0, none⟩ (.int .i64 t.a)) (fun k hk _ => cell_other (by show k ≠ bW; omega))
        have k3 := HK2.out.setCell (g := bW) (.inl (by simp [At.all])) 0 (.int .i64 t.a)
        generalize w2.setCell ⟨bW, 0, none⟩ (.int .i64 t.a) = w3 at b3 t3 m3 h3 o3 k3 ⊢
        have lb3 : bW < w3.heap.size := (Array.getElem?_eq_some_iff.1 b3).1
        have hcb3 := fun j => cell_of_row w3 _ j _ _ _ b3
        have HT3 := Lib.hid t3
        have HB3 := Lib.hid b3
        have HM3 := Lib.hid m3
        have HH3 := Lib.hid h3
        have HO3 := Lib.hid o3
        have HK3 := Lib.hid k3
        clear b3 t3 m3 h3 o3 k3 hcb2 hfb2 hct2 lb2 lt2 HT2 HB2 HM2 HH2 HO2 HK2
        go_wp2_with (refine wpList_delete rfl 88 3 95 3 .i64 _ _ rfl Try.underlying88 Try.underlying3 bM S1 x.i rfl rfl HM3.out (fun ob hM4 => unHd ?_))
        have b4 : (setB w3 bM ob).heap[bW]? = _ := (setB_other (show bW ≠ bM by omega)).trans HB3.out
        have hbt : bM ≠ w1.heap.size := by omega
        have t4 : (setB w3 bM ob).heap[w1.heap.size]? = _ := (setB_other (Ne.symm hbt)).trans HT3.out
        have h4 : HeapW B bH 43 v1 (x :: L2) m1 (setB w3 bM ob) := HH3.out.same (setB_other (by omega)) (fun k hk _ => setB_other (by omega))
        have o4 := own_same HO3.out (w' := setB w3 bM ob) (fun k hk _ => setB_other (by omega))
        have k4 := HK3.out.setB (g := bM) (.inl (by simp [At.all])) ob
        generalize setB w3 bM ob = w4 at b4 t4 h4 o4 k4 hM4 ⊢
        have lb4 : bW < w4.heap.size := (Array.getElem?_eq_some_iff.1 b4).1
        have hcb4 := fun j => cell_of_row w4 _ j _ _ _ b4
        have hct4 := fun j => cell_of_row w4 _ j _ _ _ t4
        have lt4 : w1.heap.size < w4.heap.size := (Array.getElem?_eq_some_iff.1 t4).1
        have HB4 := Lib.hid b4
        have HM4 := Lib.hid hM4
        have HH4 := Lib.hid h4
        have HO4 := Lib.hid o4
        have HK4 := Lib.hid k4
        clear b4 t4 h4 o4 k4 hM4 hcb3 lb3 HT3 HB3 HM3 HH3 HO3 HK3
        unfold Hd2
        go_wp2_with (at_builtin; refine unHd ?_)
        unfold Hd2
        refine wpList_app w.heap.size 38 3 ti0 _ 1 8 Try.underlying38 hi hz0 hz1 hz2 rfl (by decide) rfl _ _ rfl _ acc.length _ rfl (own_ext HO4.out ((Ext.refl w4).alloc _)) (by have := HK4.out.size; simp; omega) w4.heap.size 1 1 #[.int .i64 t.v] rfl (heap_new rfl) rfl (by simp [Value.oneCell']) (by unfold maxLen; omega) (by omega) ?_
        intro v5 w5 hown5 hb5 hg5
        have eA : Ext w4 (w4.alloc (.cells #[.int .i64 t.v] 3)) := (Ext.refl w4).alloc _
        have b5 : w5.heap[bW]? = _ := (hb5.block bW (by omega)).trans (heap_ext HB4.out eA)
        have m5 : MapW bM _ w5 := (HM4.out.ext eA).same (hb5.block bM (by omega))
        have h5 : HeapW B bH 43 v1 (x :: L2) m1 w5 := (HH4.out.ext eA).same2 (hb5.block bH (by omega)) (fun k hk => hb5.block k (HGL.out k (by rw [← HR1.out]; exact hk)))
        have k5 := Keeps.below (HK4.out.ext eA) hb5
        have lb5 : bW < w5.heap.size := (Array.getElem?_eq_some_iff.1 b5).1
        have hcb5 := fun j => cell_of_row w5 _ j _ _ _ b5
        have HB5 := Lib.hid b5
        have HM5 := Lib.hid m5
        have HH5 := Lib.hid h5
        have HK5 := Lib.hid k5
        have HO5 := Lib.hid hown5
        clear b5 m5 h5 k5 eA hown5 hb5 hg5 hcb4 hct4 lb4 lt4 HB4 HM4 HH4 HO4 HK4
        go_wp2_with fail
        refine wp_loop_once ?_
        go_wp2_with fail
        have hd := dropT_length HGT.out
        have hU : untilW zt f ⟨now1, ids1, ord1, S1, L1, m1⟩ acc = untilW zt (f - 1) ⟨t.a, ids1, ord1, dropT S1 x.i, x :: L2, m1⟩ (acc ++ [t.v]) := by
          obtain ⟨f', rfl⟩ : ∃ f', f = f' + 1 := ⟨f - 1, by omega⟩
          conv => lhs; unfold untilW
          simp only [HFL.out]
          rw [HTM.out, if_neg (show ¬ zt < t.a by have := HLT.out; omega)]
          rfl
        have HUU := Lib.hid (hU.symm.trans HU.out)
        have HO6 := Lib.hid (show w5.ownsRow w.heap.size 3 1 v5 (acc ++ [t.v]).length (intCs (acc ++ [t.v])) by simpa [intCs] using HO5.out)
        clear hU
        go_roundg (gk - 1)
        case rel => exact ⟨f - 1, ⟨t.a, ids1, ord1, dropT S1 x.i, x :: L2, m1⟩, v1, acc ++ [t.v], by simp only; omega, by simp only; omega, by simp; omega, by simp only; omega, HUU, Lib.hid ⟨HB5.out, HM5.out, HH5.out⟩, HO6, HK5, HR1⟩
        case measure => omega

theorem field0_int64 (x y z : Int) (w : World) : (Instr.field 117 (.agg #[.int .i64 x, .int .i64 y, .int .i64 z]) 0).run Try.prog w = .ok (.int .i64 x) w := by kernel_rfl
attribute [local go_sem] field0_int64

theorem info_v_int64 : (Try.prog.info? 2).map (fun i => (i.zero, i.size, i.bytes)) = some (some (.int .i64 0), 1, 8) := by kernel_rfl

set_option maxRecDepth 100000 in
set_option maxHeartbeats 8000000 in
theorem until_int64 (p : At) (v : Value) (W : Wh) (zt : Int) (w : World) (hW : WheelW 85 39 p v W w) (hB : p.B ≤ w.heap.size) (hL : W.L.length ≤ 100000) (hS : W.S.length ≤ 100000) :
    Calls Try.prog 42 #[.pointer (some ⟨p.bW, 0, none⟩), .int .i64 zt] w (TurnedW 85 2 39 p v (untilW zt (W.S.length + 1) W []) (fun x => x) w) := by
  obtain ⟨ti0, hi, hz0, hz1, hz2⟩ := info_parts info_v_int64
  obtain ⟨now, ids, ord, S, L, m⟩ := W
  obtain ⟨bM, bH, bW, B, pM, pH, pW⟩ := p
  simp only at hB hL hS ⊢
  have HGL := Lib.hid (rowB_lt hW.2.2)
  have HW := Lib.hid hW
  clear hW
  go_enter Try.func42, Try.ntmps42
  go_wp2_with fail
  go_loopg [5] S.length (fun g vl wr => ∃ (f : Nat) (Wc : Wh) (vc : Value) (acc : List Int), Wc.S.length ≤ g ∧ Wc.S.length + 1 ≤ f ∧ Wc.S.length + acc.length ≤ S.length ∧ Wc.L.length ≤ L.length ∧ Hid (untilW zt f Wc acc = untilW zt (S.length + 1) ⟨now, ids, ord, S, L, m⟩ []) ∧
      Hid (WheelW 85 39 ⟨bM, bH, bW, B, pM, pH, pW⟩ vc Wc wr) ∧ Hid (wr.ownsRow w.heap.size 2 1 vl acc.length (intCs acc)) ∧ Hid (Keeps (At.all ⟨bM, bH, bW, B, pM, pH, pW⟩ v) w wr) ∧ Hid (rowB vc = rowB v))
  case atStart => exact ⟨S.length + 1, ⟨now, ids, ord, S, L, m⟩, v, [], Nat.le_refl _, Nat.le_refl _, by simp, Nat.le_refl _, Lib.hid rfl, HW, Lib.hid (World.ownsRow_nil _ _ _ _), Lib.hid (Keeps.refl _ _), Lib.hid rfl⟩
  case round =>
    obtain ⟨f, Wc, vc, acc, hg, hf, hla, hll, HU, HWc, HO, HK, HR⟩ := hrel
    obtain ⟨now1, ids1, ord1, S1, L1, m1⟩ := Wc
    simp only at hg hf hla hll
    have hsz : w.heap.size ≤ wr.heap.size := HK.out.size
    clear HW
    go_wp2_with fail
    refine (first_int64 ⟨bM, bH, bW, B, pM, pH, pW⟩ vc ⟨now1, ids1, ord1, S1, L1, m1⟩ wr HWc.out (Nat.le_trans hB hsz) (by simp only; omega)).mono ?_
    rintro e w1 ⟨rfl, v1, hW1, hk1, hr1⟩
    simp only at hW1 ⊢
    obtain ⟨hb1, hM1, hH1⟩ := hW1
    simp only at hb1 hM1 hH1
    have hgl : ∀ q ∈ rowB vc, q < w.heap.size := fun q hq => HGL.out q (by rw [← HR.out]; exact hq)
    have hHc := HWc.out.2.2
    have hgB := rowB_ge hHc
    have HO1 := Lib.hid (own_same HO.out (w' := w1) (fun k hk hk2 => hk1.block k hk2 (fun h => by
      rcases List.mem_cons.1 h with h | h
      · have h : k = bH := h
        omega
      · have := hgl _ h; omega)))
    have HK1 := Lib.hid (HK.out.trans (hk1.mono (fun k hk => by
      rw [HR.out] at hk
      simp only [At.all, List.mem_cons] at hk ⊢
      rcases hk with h | h <;> simp [h])))
    have HR1 := Lib.hid (hr1.trans HR.out)
    have hsz1 : w.heap.size ≤ w1.heap.size := HK1.out.size
    have lb1 : bW < w1.heap.size := (Array.getElem?_eq_some_iff.1 hb1).1
    have hcb1 := fun j => cell_of_row w1 _ j _ _ _ hb1
    have hfb1 := fun j => frozen_of_row w1 _ j _ _ hb1
    have HB1 := Lib.hid hb1
    have HM1 := Lib.hid hM1
    clear hb1 hM1 hk1 hr1 hHc hgl hgB HO HK HR HWc
    rcases hfl : firstL S1 L1.length L1 with _ | ⟨x, L2⟩
    · rw [hfl] at hH1
      have HFL := Lib.hid hfl
      have HH1 := Lib.hid hH1
      clear hfl hH1
      simp only [firstV]
      go_wp2_with fail
      refine bodyPost_ret (results_tmp (t := 4) rfl _ _ _) ?_ ?_
      · rfl
      have hU : untilW zt (S.length + 1) ⟨now, ids, ord, S, L, m⟩ [] = (acc, ⟨zt, ids1, ord1, S1, [], m1⟩) := by
        rw [← HU.out]
        obtain ⟨f', rfl⟩ : ∃ f', f = f' + 1 := ⟨f - 1, by omega⟩
        unfold untilW
        simp only [HFL.out]
        skip
      rw [hU]
      refine ⟨_, v1, rfl, own_same HO1.out (fun k hk _ => cell_other (by show k ≠ bW; omega)), ⟨by simpa using setCell_row (o := 0) HB1.out (.int .i64 zt), HM1.out.same (cell_other (by show bM ≠ bW; omega)), HH1.out.same (cell_other (by show bH ≠ bW; omega)) (fun k hk _ => cell_other (by show k ≠ bW; omega))⟩, HK1.out.setCell (.inl (by simp [At.all])) _ _, HR1.out⟩
    · rw [hfl] at hH1
      have HFL := Lib.hid hfl
      have HH1 := Lib.hid hH1
      have hll2 : (x :: L2).length ≤ L1.length := by rw [← hfl]; exact firstL_le _ _
      obtain ⟨t, hgt, hto⟩ := firstL_head (Nat.le_refl _) hfl
      have htm : tmAt S1 x.i = t := by unfold tmAt; rw [hgt]; rfl
      have hlk : (Instr.lookup 80 (.map (some bM)) (.int .i64 x.i) false).run Try.prog w1 = .ok (.agg #[.int .i64 t.a, .int .i64 t.o, .int .i64 t.v]) w1 := by
        rw [run_lookup Try.underlying80 Try.underlying3 zero_int64 HM1.out x.i false]
        simp only [lookV, hgt]
        rfl
      have HGT := Lib.hid hgt
      have HTM := Lib.hid htm
      clear hfl hH1 hgt hto htm
      simp only [firstV]
      by_cases hlt : zt < t.a
      · have HLT := Lib.hid hlt
        go_wp2_with fail
        refine bodyPost_ret (results_tmp (t := 4) rfl _ _ _) ?_ ?_
        · rfl
        have hU : untilW zt (S.length + 1) ⟨now, ids, ord, S, L, m⟩ [] = (acc, ⟨zt, ids1, ord1, S1, x :: L2, m1⟩) := by
          rw [← HU.out]
          obtain ⟨f', rfl⟩ : ∃ f', f = f' + 1 := ⟨f - 1, by omega⟩
          unfold untilW
          simp only [HFL.out]
          rw [HTM.out, if_pos HLT.out]
        rw [hU]
        refine ⟨_, v1, rfl, own_same HO1.out (fun k hk _ => cell_other (by show k ≠ bW; omega)), ⟨by simpa using setCell_row (o := 0) HB1.out (.int .i64 zt), HM1.out.same (cell_other (by show bM ≠ bW; omega)), HH1.out.same (cell_other (by show bH ≠ bW; omega)) (fun k hk _ => cell_other (by show k ≠ bW; omega))⟩, HK1.out.setCell (.inl (by simp [At.all])) _ _, HR1.out⟩
      · have HLT := Lib.hid hlt
        have hle : t.a ≤ zt := by omega
        clear hlt
        go_wp2_with (refine wpList_store_row rfl 117 _ _ rfl w1.heap.size _ rfl rfl 117 _ (heap_new rfl) (info_tm_int64 _ _ _) rfl (by simp [Value.oneCell']) (unHd ?_))
        have eX : Ext w1 ((w1.alloc (.cells #[.int .i64 0, .int .i64 0, .int .i64 0] 117)).setRow w1.heap.size #[.int .i64 t.a, .int .i64 t.o, .int .i64 t.v]) := ((Ext.refl w1).alloc _).setRow (Nat.le_refl _) _
        have eT := setRow_heap _ _ _ #[.int .i64 t.a, .int .i64 t.o, .int .i64 t.v] _ _ (heap_new (w := w1) (o := .cells #[.int .i64 0, .int .i64 0, .int .i64 0] 117) rfl)
        generalize World.setRow _ _ _ = w2 at eX eT ⊢
        have hb2 := heap_ext HB1.out eX
        have lb2 : bW < w2.heap.size := (Array.getElem?_eq_some_iff.1 hb2).1
        have hcb2 := fun j => cell_of_row w2 _ j _ _ _ hb2
        have hfb2 := fun j => frozen_of_row w2 _ j _ _ hb2
        have hct2 := fun j => cell_of_row w2 _ j _ _ _ eT
        have lt2 : w1.heap.size < w2.heap.size := (Array.getElem?_eq_some_iff.1 eT).1
        have HT2 := Lib.hid eT
        have HB2 := Lib.hid hb2
        have HM2 := Lib.hid (HM1.out.ext eX)
        have HH2 := Lib.hid (HH1.out.ext eX)
        have HO2 := Lib.hid (own_ext HO1.out eX)
        have HK2 := Lib.hid (HK1.out.ext eX)
        have hne : bW ≠ w1.heap.size := by omega
        clear eX eT hb2 hlk hcb1 hfb1 lb1 HB1 HM1 HH1 HO1 HK1
        unfold Hd2
        go_upto_region 8 with fail
        have b3 : (w2.setCell ⟨bW, 0, none⟩ (.int .i64 t.a)).heap[bW]? = some (.cells #[.int .i64 t.a, .int .i64 ids1, .int .i64 ord1, .map (some bM), .pointer (some ⟨bH, 0, none⟩), .slice none 0 0] 85 (0, 0)) := by simpa using setCell_row (o := 0) HB2.out (.int .i64 t.a)
        have t3 : (w2.setCell ⟨bW, 0, none⟩ (.int .i64 t.a)).heap[w1.heap.size]? = _ := (cell_other (Ne.symm hne)).trans HT2.out
        have m3 : MapW bM S1 (w2.setCell ⟨bW, 0, none⟩ (.int .i64 t.a)) := HM2.out.same (cell_other (by show bM ≠ bW; omega))
        have h3 : HeapW B bH 39 v1 (x :: L2) m1 (w2.setCell ⟨bW, 0, none⟩ (.int .i64 t.a)) := HH2.out.same (cell_other (by show bH ≠ bW; omega)) (fun k hk _ => cell_other (by show k ≠ bW; omega))
        have o3 := own_same HO2.out (w' := w2.setCell ⟨bW, 0, none⟩ (.int .i64 t.a)) (fun k hk _ => cell_other (by show k ≠ bW; omega))
        have k3 := HK2.out.setCell (g := bW) (.inl (by simp [At.all])) 0 (.int .i64 t.a)
        generalize w2.setCell ⟨bW, 0, none⟩ (.int .i64 t.a) = w3 at b3 t3 m3 h3 o3 k3 ⊢
        have lb3 : bW < w3.heap.size := (Array.getElem?_eq_some_iff.1 b3).1
        have hcb3 := fun j => cell_of_row w3 _ j _ _ _ b3
        have HT3 := Lib.hid t3
        have HB3 := Lib.hid b3
        have HM3 := Lib.hid m3
        have HH3 := Lib.hid h3
        have HO3 := Lib.hid o3
        have HK3 := Lib.hid k3
        clear b3 t3 m3 h3 o3 k3 hcb2 hfb2 hct2 lb2 lt2 HT2 HB2 HM2 HH2 HO2 HK2
        go_wp2_with (refine wpList_delete rfl 80 3 117 3 .i64 _ _ rfl Try.underlying80 Try.underlying3 bM S1 x.i rfl rfl HM3.out (fun ob hM4 => unHd ?_))
        have b4 : (setB w3 bM ob).heap[bW]? = _ := (setB_other (show bW ≠ bM by omega)).trans HB3.out
        have hbt : bM ≠ w1.heap.size := by omega
        have t4 : (setB w3 bM ob).heap[w1.heap.size]? = _ := (setB_other (Ne.symm hbt)).trans HT3.out
        have h4 : HeapW B bH 39 v1 (x :: L2) m1 (setB w3 bM ob) := HH3.out.same (setB_other (by omega)) (fun k hk _ => setB_other (by omega))
        have o4 := own_same HO3.out (w' := setB w3 bM ob) (fun k hk _ => setB_other (by omega))
        have k4 := HK3.out.setB (g := bM) (.inl (by simp [At.all])) ob
        generalize setB w3 bM ob = w4 at b4 t4 h4 o4 k4 hM4 ⊢
        have lb4 : bW < w4.heap.size := (Array.getElem?_eq_some_iff.1 b4).1
        have hcb4 := fun j => cell_of_row w4 _ j _ _ _ b4
        have hct4 := fun j => cell_of_row w4 _ j _ _ _ t4
        have lt4 : w1.heap.size < w4.heap.size := (Array.getElem?_eq_some_iff.1 t4).1
        have HB4 := Lib.hid b4
        have HM4 := Lib.hid hM4
        have HH4 := Lib.hid h4
        have HO4 := Lib.hid o4
        have HK4 := Lib.hid k4
        clear b4 t4 h4 o4 k4 hM4 hcb3 lb3 HT3 HB3 HM3 HH3 HO3 HK3
        unfold Hd2
        go_wp2_with (at_builtin; refine unHd ?_)
        unfold Hd2
        refine wpList_app w.heap.size 22 2 ti0 _ 1 8 Try.underlying22 hi hz0 hz1 hz2 rfl (by decide) rfl _ _ rfl _ acc.length _ rfl (own_ext HO4.out ((Ext.refl w4).alloc _)) (by have := HK4.out.size; simp; omega) w4.heap.size 1 1 #[.int .i64 t.v] rfl (heap_new rfl) rfl (by simp [Value.oneCell']) (by unfold maxLen; omega) (by omega) ?_
        intro v5 w5 hown5 hb5 hg5
        have eA : Ext w4 (w4.alloc (.cells #[.int .i64 t.v] 2)) := (Ext.refl w4).alloc _
        have b5 : w5.heap[bW]? = _ := (hb5.block bW (by omega)).trans (heap_ext HB4.out eA)
        have m5 : MapW bM _ w5 := (HM4.out.ext eA).same (hb5.block bM (by omega))
        have h5 : HeapW B bH 39 v1 (x :: L2) m1 w5 := (HH4.out.ext eA).same2 (hb5.block bH (by omega)) (fun k hk => hb5.block k (HGL.out k (by rw [← HR1.out]; exact hk)))
        have k5 := Keeps.below (HK4.out.ext eA) hb5
        have lb5 : bW < w5.heap.size := (Array.getElem?_eq_some_iff.1 b5).1
        have hcb5 := fun j => cell_of_row w5 _ j _ _ _ b5
        have HB5 := Lib.hid b5
        have HM5 := Lib.hid m5
        have HH5 := Lib.hid h5
        have HK5 := Lib.hid k5
        have HO5 := Lib.hid hown5
        clear b5 m5 h5 k5 eA hown5 hb5 hg5 hcb4 hct4 lb4 lt4 HB4 HM4 HH4 HO4 HK4
        go_wp2_with fail
        refine wp_loop_once ?_
        go_wp2_with fail
        have hd := dropT_length HGT.out
        have hU : untilW zt f ⟨now1, ids1, ord1, S1, L1, m1⟩ acc = untilW zt (f - 1) ⟨t.a, ids1, ord1, dropT S1 x.i, x :: L2, m1⟩ (acc ++ [t.v]) := by
          obtain ⟨f', rfl⟩ : ∃ f', f = f' + 1 := ⟨f - 1, by omega⟩
          conv => lhs; unfold untilW
          simp only [HFL.out]
          rw [HTM.out, if_neg (show ¬ zt < t.a by have := HLT.out; omega)]
          rfl
        have HUU := Lib.hid (hU.symm.trans HU.out)
        have HO6 := Lib.hid (show w5.ownsRow w.heap.size 2 1 v5 (acc ++ [t.v]).length (intCs (acc ++ [t.v])) by simpa [intCs] using HO5.out)
        clear hU
        go_roundg (gk - 1)
        case rel => exact ⟨f - 1, ⟨t.a, ids1, ord1, dropT S1 x.i, x :: L2, m1⟩, v1, acc ++ [t.v], by simp only; omega, by simp only; omega, by simp; omega, by simp only; omega, HUU, Lib.hid ⟨HB5.out, HM5.out, HH5.out⟩, HO6, HK5, HR1⟩
        case measure => omega
end Go.Proofs.Ytibdplfdmncgiaa

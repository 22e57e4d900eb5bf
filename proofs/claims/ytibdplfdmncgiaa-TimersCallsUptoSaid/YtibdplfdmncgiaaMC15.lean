/-
  Walk: the wheel is turned to a tick. No condition.
-/
import Derived.Test.YtibdplfdmncgiaaMC14
set_option linter.all false
namespace Go.Proofs.Ytibdplfdmncgiaa
open Go.RowKit
attribute [local go_sem] ExtOf.cell ExtOf.frozen ExtOf.lt ExtOf.le
attribute [local go_sem high] ExtOf.cell2 ExtOf.frozen2 ExtOf.lt2 ExtOf.cell3 ExtOf.frozen3 ExtOf.lt3 ExtOf.cellX ExtOf.frozenX ExtOf.cellX' ExtOf.frozenX'

section
variable {P : Program} {ops : Array Oper} {rest : List Oper} {o : Oper} {a : Act} {w : World} {Q : Exit → Act → World → Prop}
theorem wpList_delete (hgd : o.guard = none) (T kt et t2 : TypeId) (q : IntKind) (m k : Operand) (ho : o.op = .call { callee := .builtin .delete, args := #[m, k], argTypes := #[T, t2] }) (hT : P.underlying T = some (.map kt et)) (hk : P.underlying kt = some (.int q)) (b : Nat) (S : List Tm) (i : Int)
    (hm : a.eval m = .map (some b)) (hkv : a.eval k = .int .i64 i) (hM : MapW b S w)
    (h : ∀ ob, MapW b (dropT S i) (setB w b ob) → wpList P ops Q rest (a.put o.dst (.tuple #[])) (setB w b ob)) : wpList P ops Q (o :: rest) a w := by
  refine wpList_plain hgd fun _ hK => ?_
  obtain ⟨ob, hr, hM'⟩ := run_delete (P := P) (ty := o.type) (ts := #[T, t2]) rfl hT hk hM i
  unfold Oper.wp execOp
  simp only [ho, resolve, invoke, builtin, Sem.run_bind, Sem.run_pure, Result.andThen_ok, List.map_toArray, List.map_cons, List.map_nil, hm, hkv, hr]
  exact hK _ _ (h ob hM')
end

theorem rowB_lt {B bH : Nat} {f : FuncId} {v : Value} {L : List Hd} {m : Int} {w : World} (h : HeapW B bH f v L m w) : ∀ g ∈ rowB v, g < w.heap.size := fun g hg => by
  rcases h.2.2 with ⟨hv, _⟩ | ⟨g', cap, cur, hv, hb, hg', _⟩
  · subst hv; simp [rowB, Value.ownBlock] at hg
  · subst hv
    simp only [rowB, Value.ownBlock, List.mem_singleton] at hg
    subst hg
    exact (Array.getElem?_eq_some_iff.1 hg').1

theorem HeapW.same2 {B bH : Nat} {f : FuncId} {v : Value} {L : List Hd} {m : Int} {w w' : World} (h : HeapW B bH f v L m w) (h1 : w'.heap[bH]? = w.heap[bH]?) (h2 : ∀ k ∈ rowB v, w'.heap[k]? = w.heap[k]?) : HeapW B bH f v L m w' := by
  refine ⟨h1.trans h.1, h.2.1, h.2.2.imp id ?_⟩
  rintro ⟨g, cap, cur, hv, hb, hg, r⟩
  refine ⟨g, cap, cur, hv, hb, ?_, r⟩
  rw [h2 g (by subst hv; simp [rowB, Value.ownBlock])]
  exact hg
theorem Keeps.below {X : List Nat} {a b c : World} (h : Keeps X a b) (k : Below a.heap.size b c) : Keeps X a c :=
  ⟨k.os.trans h.os, k.tape.trans h.tape, k.output.trans h.output, Nat.le_trans h.size k.size, fun i hi hx => (k.block i hi).trans (h.block i hi hx)⟩

theorem firstL_head {S : List Tm} : ∀ {f : Nat} {L L' : List Hd} {x : Hd}, L.length ≤ f → firstL S f L = x :: L' → ∃ t, getT S x.i = some t ∧ t.o = x.o
  | 0, [], _, _, _, h => by simp [firstL] at h
  | 0, _ :: _, _, _, h, _ => by simp at h
  | f + 1, [], _, _, _, h => by simp [firstL] at h
  | f + 1, y :: L, L', x, hf, h => by
    have hp : (popH (y :: L)).length ≤ f := by rw [popH_length]; simpa using hf
    simp only [firstL] at h
    split at h
    · rename_i t ht
      split at h
      · rename_i ho
        simp only [List.cons.injEq] at h
        obtain ⟨rfl, rfl⟩ := h
        exact ⟨t, ht, ho⟩
      · exact firstL_head hp h
    · exact firstL_head hp h

theorem firstL_le {S : List Tm} : ∀ (f : Nat) (L : List Hd), (firstL S f L).length ≤ L.length
  | 0, _ => Nat.le_refl _
  | f + 1, [] => Nat.le_refl _
  | f + 1, y :: L => by
    have := firstL_le (S := S) f (popH (y :: L))
    rw [popH_length] at this
    simp only [firstL]
    split
    · split
      · exact Nat.le_refl _
      · simp; omega
    · simp; omega

theorem getT_idx {S : List Tm} {k : Int} {t : Tm} (h : getT S k = some t) : ∃ j, S.findIdx? (fun u => u.id == k) = some j ∧ j < S.length := by
  rw [← find_of_idx] at h
  cases hi : S.findIdx? (fun u => u.id == k) with
  | none => rw [hi] at h; cases h
  | some j =>
    obtain ⟨hlt, _⟩ := List.findIdx?_eq_some_iff_getElem.1 hi
    exact ⟨j, rfl, hlt⟩
theorem dropT_length {S : List Tm} {k : Int} {t : Tm} (h : getT S k = some t) : (dropT S k).length + 1 = S.length := by
  obtain ⟨j, hj, hlt⟩ := getT_idx h
  unfold dropT
  rw [hj]
  simp only [List.length_eraseIdx, if_pos hlt]
  omega

def tmAt (S : List Tm) (k : Int) : Tm := (getT S k).getD ⟨k, 0, 0, { data := #[] }⟩

/-- The wheel turned to a tick: what falls due, the wheel then. -/
def untilW (zt : Int) : Nat → Wh → List ByteArray → List ByteArray × Wh
  | 0, W, acc => (acc, W)
  | f + 1, W, acc => match firstL W.S W.L.length W.L with
    | [] => (acc, { W with L := [], now := zt })
    | x :: L' => if zt < (tmAt W.S x.i).a then (acc, { W with L := x :: L', now := zt })
      else untilW zt f { W with now := (tmAt W.S x.i).a, S := dropT W.S x.i, L := x :: L' } (acc ++ [(tmAt W.S x.i).v])

def txtCs (l : List ByteArray) : List Value := l.map .string

/-- What is behind a turn. -/
def TurnedW (T V : TypeId) (f : FuncId) (p : At) (v : Value) (R : List ByteArray × Wh) (g : Value → Value) (w : World) : Ending → World → Prop := fun e w' =>
  ∃ vl v', e = .returned (g vl) ∧ w'.ownsRow w.heap.size V 1 vl R.1.length (txtCs R.1) ∧ WheelW T f p v' R.2 w' ∧ Keeps (p.all v) w w' ∧ rowB v' = rowB v

theorem field0_string (x y : Int) (z : ByteArray) (w : World) : (Instr.field 112 (.agg #[.int .i64 x, .int .i64 y, .string z]) 0).run Try.prog w = .ok (.int .i64 x) w := by kernel_rfl
attribute [local go_sem] field0_string

theorem info_v_string : (Try.prog.info? 9).map (fun i => (i.zero, i.size, i.bytes)) = some (some (.string { data := #[] }), 1, 16) := by kernel_rfl

set_option maxRecDepth 100000 in
set_option maxHeartbeats 8000000 in
theorem until_string (p : At) (v : Value) (W : Wh) (zt : Int) (w : World) (hW : WheelW 101 47 p v W w) (hc : p.cv = .slice none 0 0) (hB : p.B ≤ w.heap.size) (hL : W.L.length ≤ 100000) (hS : W.S.length ≤ 100000) :
    Calls Try.prog 58 #[.pointer (some ⟨p.bW, 0, none⟩), .int .i64 zt] w (TurnedW 101 9 47 p v (untilW zt (W.S.length + 1) W []) (fun x => x) w) := by
  obtain ⟨ti0, hi, hz0, hz1, hz2⟩ := info_parts info_v_string
  obtain ⟨now, ids, ord, S, L, m⟩ := W
  obtain ⟨bM, bH, bW, B, cv, pM, pH, pW⟩ := p
  simp only at hc
  subst hc
  simp only at hB hL hS ⊢
  have HGL := Lib.hid (rowB_lt hW.2.2)
  have HW := Lib.hid hW
  clear hW
  go_enter Try.func58, Try.ntmps58
  go_wp2_with fail
  go_loopg [5] S.length (fun g vl wr => ∃ (f : Nat) (Wc : Wh) (vc : Value) (acc : List ByteArray), Wc.S.length ≤ g ∧ Wc.S.length + 1 ≤ f ∧ Wc.S.length + acc.length ≤ S.length ∧ Wc.L.length ≤ L.length ∧ Hid (untilW zt f Wc acc = untilW zt (S.length + 1) ⟨now, ids, ord, S, L, m⟩ []) ∧
      Hid (WheelW 101 47 ⟨bM, bH, bW, B, .slice none 0 0, pM, pH, pW⟩ vc Wc wr) ∧ Hid (wr.ownsRow w.heap.size 9 1 vl acc.length (txtCs acc)) ∧ Hid (Keeps (At.all ⟨bM, bH, bW, B, .slice none 0 0, pM, pH, pW⟩ v) w wr) ∧ Hid (rowB vc = rowB v))
  case atStart => exact ⟨S.length + 1, ⟨now, ids, ord, S, L, m⟩, v, [], Nat.le_refl _, Nat.le_refl _, by simp, Nat.le_refl _, Lib.hid rfl, HW, Lib.hid (World.ownsRow_nil _ _ _ _), Lib.hid (Keeps.refl _ _), Lib.hid rfl⟩
  case round =>
    obtain ⟨f, Wc, vc, acc, hg, hf, hla, hll, HU, HWc, HO, HK, HR⟩ := hrel
    obtain ⟨now1, ids1, ord1, S1, L1, m1⟩ := Wc
    simp only at hg hf hla hll
    have hsz : w.heap.size ≤ wr.heap.size := HK.out.size
    clear HW
    go_wp2_with fail
    refine (first_string ⟨bM, bH, bW, B, .slice none 0 0, pM, pH, pW⟩ vc ⟨now1, ids1, ord1, S1, L1, m1⟩ wr HWc.out (Nat.le_trans hB hsz) (by simp only; omega)).mono ?_
    rintro e w1 ⟨rfl, v1, hW1, hk1, hr1⟩
    simp only at hW1 ⊢
    obtain ⟨hb1, hM1, hH1⟩ := hW1
    simp only at hb1 hM1 hH1
    have hgl : ∀ q ∈ rowB vc, q < w.heap.size := fun q hq => HGL.out q (by rw [← HR.out]; exact hq)
    have hHc := HWc.out.2.2
    have hgB := rowB_ge hHc
    have HO1 := Lib.hid (own_same HO.out (w' := w1) (fun k hk hk2 => hk1.block k hk2 (fun h => by
      rcases List.mem_cons.1 h with h | h
      · have h : k = bH := h
        omega
      · have := hgl _ h; omega)))
    have HK1 := Lib.hid (HK.out.trans (hk1.mono (fun k hk => by
      rw [HR.out] at hk
      simp only [At.all, List.mem_cons] at hk ⊢
      rcases hk with h | h <;> simp [h])))
    have HR1 := Lib.hid (hr1.trans HR.out)
    have hsz1 : w.heap.size ≤ w1.heap.size := HK1.out.size
    have lb1 : bW < w1.heap.size := (Array.getElem?_eq_some_iff.1 hb1).1
    have hcb1 := fun j => cell_of_row w1 _ j _ _ _ hb1
    have hfb1 := fun j => frozen_of_row w1 _ j _ _ hb1
    have HB1 := Lib.hid hb1
    have HM1 := Lib.hid hM1
    clear hb1 hM1 hk1 hr1 hHc hgl hgB HO HK HR HWc
    rcases hfl : firstL S1 L1.length L1 with _ | ⟨x, L2⟩
    · rw [hfl] at hH1
      have HFL := Lib.hid hfl
      have HH1 := Lib.hid hH1
      clear hfl hH1
      simp only [firstV]
      go_wp2_with fail
      refine bodyPost_ret (results_tmp (t := 4) rfl _ _ _) ?_ ?_
      · rfl
      have hU : untilW zt (S.length + 1) ⟨now, ids, ord, S, L, m⟩ [] = (acc, ⟨zt, ids1, ord1, S1, [], m1⟩) := by
        rw [← HU.out]
        obtain ⟨f', rfl⟩ : ∃ f', f = f' + 1 := ⟨f - 1, by omega⟩
        unfold untilW
        simp only [HFL.out]
        skip
      rw [hU]
      refine ⟨_, v1, rfl, own_same HO1.out (fun k hk _ => cell_other (by show k ≠ bW; omega)), ⟨by simpa using setCell_row (o := 0) HB1.out (.int .i64 zt), HM1.out.same (cell_other (by show bM ≠ bW; omega)), HH1.out.same (cell_other (by show bH ≠ bW; omega)) (fun k hk _ => cell_other (by show k ≠ bW; omega))⟩, HK1.out.setCell (.inl (by simp [At.all])) _ _, HR1.out⟩
    · rw [hfl] at hH1
      have HFL := Lib.hid hfl
      have HH1 := Lib.hid hH1
      have hll2 : (x :: L2).length ≤ L1.length := by rw [← hfl]; exact firstL_le _ _
      obtain ⟨t, hgt, hto⟩ := firstL_head (Nat.le_refl _) hfl
      have htm : tmAt S1 x.i = t := by unfold tmAt; rw [hgt]; rfl
      have hlk : (Instr.lookup 98 (.map (some bM)) (.int .i64 x.i) false).run Try.prog w1 = .ok (.agg #[.int .i64 t.a, .int .i64 t.o, .string t.v]) w1 := by
        rw [run_lookup Try.underlying98 Try.underlying3 zero_string HM1.out x.i false]
        simp only [lookV, hgt]
        rfl
      have HGT := Lib.hid hgt
      have HTM := Lib.hid htm
      clear hfl hH1 hgt hto htm
      simp only [firstV]
      by_cases hlt : zt < t.a
      · have HLT := Lib.hid hlt
        go_wp2_with fail
        refine bodyPost_ret (results_tmp (t := 4) rfl _ _ _) ?_ ?_
        · rfl
        have hU : untilW zt (S.length + 1) ⟨now, ids, ord, S, L, m⟩ [] = (acc, ⟨zt, ids1, ord1, S1, x :: L2, m1⟩) := by
          rw [← HU.out]
          obtain ⟨f', rfl⟩ : ∃ f', f = f' + 1 := ⟨f - 1, by omega⟩
          unfold untilW
          simp only [HFL.out]
          rw [HTM.out, if_pos HLT.out]
        rw [hU]
        refine ⟨_, v1, rfl, own_same HO1.out (fun k hk _ => cell_other (by show k ≠ bW; omega)), ⟨by simpa using setCell_row (o := 0) HB1.out (.int .i64 zt), HM1.out.same (cell_other (by show bM ≠ bW; omega)), HH1.out.same (cell_other (by show bH ≠ bW; omega)) (fun k hk _ => cell_other (by show k ≠ bW; omega))⟩, HK1.out.setCell (.inl (by simp [At.all])) _ _, HR1.out⟩
      · have HLT := Lib.hid hlt
        have hle : t.a ≤ zt := by omega
        clear hlt
        go_wp2_with (refine wpList_store_row rfl 112 _ _ rfl w1.heap.size _ rfl rfl 112 _ (heap_new rfl) (info_tm_string _ _ _) rfl (by simp [Value.oneCell']) (unHd ?_))
        have eX : Ext w1 ((w1.alloc (.cells #[.int .i64 0, .int .i64 0, .string { data := #[] }] 112)).setRow w1.heap.size #[.int .i64 t.a, .int .i64 t.o, .string t.v]) := ((Ext.refl w1).alloc _).setRow (Nat.le_refl _) _
        have eT := setRow_heap _ _ _ #[.int .i64 t.a, .int .i64 t.o, .string t.v] _ _ (heap_new (w := w1) (o := .cells #[.int .i64 0, .int .i64 0, .string { data := #[] }] 112) rfl)
        generalize World.setRow _ _ _ = w2 at eX eT ⊢
        have hb2 := heap_ext HB1.out eX
        have lb2 : bW < w2.heap.size := (Array.getElem?_eq_some_iff.1 hb2).1
        have hcb2 := fun j => cell_of_row w2 _ j _ _ _ hb2
        have hfb2 := fun j => frozen_of_row w2 _ j _ _ hb2
        have hct2 := fun j => cell_of_row w2 _ j _ _ _ eT
        have lt2 : w1.heap.size < w2.heap.size := (Array.getElem?_eq_some_iff.1 eT).1
        have HT2 := Lib.hid eT
        have HB2 := Lib.hid hb2
        have HM2 := Lib.hid (HM1.out.ext eX)
        have HH2 := Lib.hid (HH1.out.ext eX)
        have HO2 := Lib.hid (own_ext HO1.out eX)
        have HK2 := Lib.hid (HK1.out.ext eX)
        have hne : bW ≠ w1.heap.size := by omega
        clear eX eT hb2 hlk hcb1 hfb1 lb1 HB1 HM1 HH1 HO1 HK1
        unfold Hd2
        go_upto_region 8 with fail
        have b3 : (w2.setCell ⟨bW, 0, none⟩ (.int .i64 t.a)).heap[bW]? = some (.cells #[.int .i64 t.a, .int .i64 ids1, .int .i64 ord1, .map (some bM), .pointer (some ⟨bH, 0, none⟩), .slice none 0 0] 101 (0, 0)) := by simpa using setCell_row (o := 0) HB2.out (.int .i64 t.a)
        have t3 : (w2.setCell ⟨bW, 0, none⟩ (.int .i64 t.a)).heap[w1.heap.size]? = _ := (cell_other (Ne.symm hne)).trans HT2.out
        have m3 : MapW bM S1 (w2.setCell ⟨bW, 0, none⟩ (.int .i64 t.a)) := HM2.out.same (cell_other (by show bM ≠ bW; omega))
        have h3 : HeapW B bH 47 v1 (x :: L2) m1 (w2.setCell ⟨bW, 0, none⟩ (.int .i64 t.a)) := HH2.out.same (cell_other (by show bH ≠ bW; omega)) (fun k hk _ => cell_other (by show k ≠ bW; omega))
        have o3 := own_same HO2.out (w' := w2.setCell ⟨bW, 0, none⟩ (.int .i64 t.a)) (fun k hk _ => cell_other (by show k ≠ bW; omega))
        have k3 := HK2.out.setCell (g := bW) (.inl (by simp [At.all])) 0 (.int .i64 t.a)
        generalize w2.setCell ⟨bW, 0, none⟩ (.int .i64 t.a) = w3 at b3 t3 m3 h3 o3 k3 ⊢
        have lb3 : bW < w3.heap.size := (Array.getElem?_eq_some_iff.1 b3).1
        have hcb3 := fun j => cell_of_row w3 _ j _ _ _ b3
        have HT3 := Lib.hid t3
        have HB3 := Lib.hid b3
        have HM3 := Lib.hid m3
        have HH3 := Lib.hid h3
        have HO3 := Lib.hid o3
        have HK3 := Lib.hid k3
        clear b3 t3 m3 h3 o3 k3 hcb2 hfb2 hct2 lb2 lt2 HT2 HB2 HM2 HH2 HO2 HK2
        go_wp2_with (refine wpList_delete rfl 98 3 112 3 .i64 _ _ rfl Try.underlying98 Try.underlying3 bM S1 x.i rfl rfl HM3.out (fun ob hM4 => unHd ?_))
        have b4 : (setB w3 bM ob).heap[bW]? = _ := (setB_other (show bW ≠ bM by omega)).trans HB3.out
        have hbt : bM ≠ w1.heap.size := by omega
        have t4 : (setB w3 bM ob).heap[w1.heap.size]? = _ := (setB_other (Ne.symm hbt)).trans HT3.out
        have h4 : HeapW B bH 47 v1 (x :: L2) m1 (setB w3 bM ob) := HH3.out.same (setB_other (by omega)) (fun k hk _ => setB_other (by omega))
        have o4 := own_same HO3.out (w' := setB w3 bM ob) (fun k hk _ => setB_other (by omega))
        have k4 := HK3.out.setB (g := bM) (.inl (by simp [At.all])) ob
        generalize setB w3 bM ob = w4 at b4 t4 h4 o4 k4 hM4 ⊢
        have lb4 : bW < w4.heap.size := (Array.getElem?_eq_some_iff.1 b4).1
        have hcb4 := fun j => cell_of_row w4 _ j _ _ _ b4
        have hct4 := fun j => cell_of_row w4 _ j _ _ _ t4
        have lt4 : w1.heap.size < w4.heap.size := (Array.getElem?_eq_some_iff.1 t4).1
        have HB4 := Lib.hid b4
        have HM4 := Lib.hid hM4
        have HH4 := Lib.hid h4
        have HO4 := Lib.hid o4
        have HK4 := Lib.hid k4
        clear b4 t4 h4 o4 k4 hM4 hcb3 lb3 HT3 HB3 HM3 HH3 HO3 HK3
        unfold Hd2
        go_wp2_with (at_builtin; refine unHd ?_)
        unfold Hd2
        refine wpList_app w.heap.size 67 9 ti0 _ 1 16 Try.underlying67 hi hz0 hz1 hz2 rfl (by decide) rfl _ _ rfl _ acc.length _ rfl (own_ext HO4.out ((Ext.refl w4).alloc _)) (by have := HK4.out.size; simp; omega) w4.heap.size 1 1 #[.string t.v] rfl (heap_new rfl) rfl (by simp [Value.oneCell']) (by unfold maxLen; omega) (by omega) ?_
        intro v5 w5 hown5 hb5 hg5
        have eA : Ext w4 (w4.alloc (.cells #[.string t.v] 9)) := (Ext.refl w4).alloc _
        have b5 : w5.heap[bW]? = _ := (hb5.block bW (by omega)).trans (heap_ext HB4.out eA)
        have m5 : MapW bM _ w5 := (HM4.out.ext eA).same (hb5.block bM (by omega))
        have h5 : HeapW B bH 47 v1 (x :: L2) m1 w5 := (HH4.out.ext eA).same2 (hb5.block bH (by omega)) (fun k hk => hb5.block k (HGL.out k (by rw [← HR1.out]; exact hk)))
        have k5 := Keeps.below (HK4.out.ext eA) hb5
        have lb5 : bW < w5.heap.size := (Array.getElem?_eq_some_iff.1 b5).1
        have hcb5 := fun j => cell_of_row w5 _ j _ _ _ b5
        have HB5 := Lib.hid b5
        have HM5 := Lib.hid m5
        have HH5 := Lib.hid h5
        have HK5 := Lib.hid k5
        have HO5 := Lib.hid hown5
        clear b5 m5 h5 k5 eA hown5 hb5 hg5 hcb4 hct4 lb4 lt4 HB4 HM4 HH4 HO4 HK4
        go_wp2_with fail
        refine wp_loop_once ?_
        go_wp2_with fail
        have hd := dropT_length HGT.out
        have hU : untilW zt f ⟨now1, ids1, ord1, S1, L1, m1⟩ acc = untilW zt (f - 1) ⟨t.a, ids1, ord1, dropT S1 x.i, x :: L2, m1⟩ (acc ++ [t.v]) := by
          obtain ⟨f', rfl⟩ : ∃ f', f = f' + 1 := ⟨f - 1, by omega⟩
          conv => lhs; unfold untilW
          simp only [HFL.out]
          rw [HTM.out, if_neg (show ¬ zt < t.a by have := HLT.out; omega)]
          rfl
        have HUU := Lib.hid (hU.symm.trans HU.out)
        have HO6 := Lib.hid (show w5.ownsRow w.heap.size 9 1 v5 (acc ++ [t.v]).length (txtCs (acc ++ [t.v])) by simpa [txtCs] using HO5.out)
        clear hU
        go_roundg (gk - 1)
        case rel => exact ⟨f - 1, ⟨t.a, ids1, ord1, dropT S1 x.i, x :: L2, m1⟩, v1, acc ++ [t.v], by simp only; omega, by simp only; omega, by simp; omega, by simp only; omega, HUU, Lib.hid ⟨HB5.out, HM5.out, HH5.out⟩, HO6, HK5, HR1⟩
        case measure => omega
end Go.Proofs.Ytibdplfdmncgiaa

/-
  Plain laws of the wheel: what is set, what falls due first, what falls due up to a tick. No condition.
-/
namespace Go.Proofs.Ytibdplfdmncgiaa

structure WInv (W : Wh) : Prop where
  heap : HeapOk W.L
  ent : ∀ t ∈ W.S, ∃ x ∈ W.L, x.i = t.id ∧ x.o = t.o ∧ x.a = t.a
  nodup : (W.S.map (·.id)).Nodup
  ords : ∀ x ∈ W.L, x.o < W.ord
  onod : (W.L.map (·.o)).Nodup
  ids : ∀ t ∈ W.S, 0 ≤ t.id ∧ t.id < W.ids
  pos : 0 ≤ W.ids

def wh00 : Wh := ⟨0, 0, 0, [], [], 0⟩
theorem inv0 : WInv wh00 where
  heap := fun i x y _ h _ => by simp [wh00] at h
  ent := fun t h => by simp [wh00] at h
  nodup := by simp [wh00]
  ords := fun x h => by simp [wh00] at h
  onod := by simp [wh00]
  ids := fun t h => by simp [wh00] at h
  pos := by simp [wh00]

theorem put_fresh {S : List Tm} {t : Tm} (h : ∀ u ∈ S, u.id ≠ t.id) : putT S t = S ++ [t] := by
  unfold putT
  have : S.findIdx? (fun u => u.id == t.id) = none := by
    rw [List.findIdx?_eq_none_iff]
    intro u hu
    simpa using h u hu
  rw [this]

theorem laid_inv {W : Wh} (h : WInv W) (at_ : Int) (v : ByteArray) : WInv (laidW { W with ids := W.ids + 1 } W.ids at_ v) ∧ (laidW { W with ids := W.ids + 1 } W.ids at_ v).S = W.S ++ [⟨W.ids, at_, W.ord, v⟩] ∧ (laidW { W with ids := W.ids + 1 } W.ids at_ v).L.length = W.L.length + 1 := by
  have hS : putT W.S ⟨W.ids, at_, W.ord, v⟩ = W.S ++ [⟨W.ids, at_, W.ord, v⟩] := put_fresh fun u hu => by have := (h.ids u hu).2; simp only; omega
  obtain ⟨hh, hp⟩ := push_ok h.heap ⟨at_, W.ord, W.ids, W.m⟩
  refine ⟨⟨hh, ?_, ?_, ?_, ?_, ?_, ?_⟩, hS, by simp [laidW, hp.length_eq]⟩
  · intro t ht
    simp only [laidW, hS, List.mem_append, List.mem_singleton] at ht ⊢
    rcases ht with ht | rfl
    · obtain ⟨x, hx, he⟩ := h.ent t ht
      exact ⟨x, hp.mem_iff.2 (by simp [hx]), he⟩
    · exact ⟨⟨at_, W.ord, W.ids, W.m⟩, hp.mem_iff.2 (by simp), rfl, rfl, rfl⟩
  · simp only [laidW, hS, List.map_append, List.map_cons, List.map_nil]
    rw [List.nodup_append]
    refine ⟨h.nodup, by simp, ?_⟩
    intro a ha b hb hab
    simp only [List.mem_singleton] at hb
    obtain ⟨t, ht, rfl⟩ := List.mem_map.1 ha
    have := (h.ids t ht).2
    omega
  · intro x hx
    have hx := hp.mem_iff.1 hx
    simp only [laidW, List.mem_append, List.mem_singleton] at hx ⊢
    rcases hx with hx | rfl
    · have := h.ords x hx; omega
    · simp only; omega
  · refine ((hp.map (·.o)).nodup_iff).2 ?_
    rw [List.map_append, List.nodup_append]
    refine ⟨h.onod, by simp, ?_⟩
    intro a ha b hb hab
    simp only [List.map_cons, List.map_nil, List.mem_singleton] at hb
    obtain ⟨x, hx, rfl⟩ := List.mem_map.1 ha
    have := h.ords x hx
    omega
  · intro t ht
    simp only [laidW, hS, List.mem_append, List.mem_singleton] at ht ⊢
    rcases ht with ht | rfl
    · have := h.ids t ht; omega
    · have := h.pos
      simp only
      omega
  · have := h.pos
    simp only [laidW]
    omega

theorem get_split {S : List Tm} {k : Int} {t : Tm} (h : getT S k = some t) : ∃ l1 l2, S = l1 ++ t :: l2 ∧ dropT S k = l1 ++ l2 ∧ t.id = k := by
  rw [← find_of_idx] at h
  cases hi : S.findIdx? (fun u => u.id == k) with
  | none => rw [hi] at h; cases h
  | some j =>
    rw [hi] at h
    simp only [Option.bind_some] at h
    obtain ⟨u, hu, hid⟩ := idx_spec hi
    rw [h] at hu
    cases hu
    obtain ⟨hlt, hget⟩ := List.getElem?_eq_some_iff.1 h
    refine ⟨S.take j, S.drop (j + 1), ?_, ?_, hid⟩
    · rw [← hget, List.getElem_cons_drop, List.take_append_drop]
    · unfold dropT
      rw [hi]
      simp only
      rw [List.eraseIdx_eq_take_drop_succ]

theorem get_mem {S : List Tm} {k : Int} {t : Tm} (h : getT S k = some t) : t ∈ S ∧ t.id = k := by
  obtain ⟨l1, l2, h1, _, h3⟩ := get_split h
  exact ⟨by rw [h1]; simp, h3⟩
theorem get_of_mem {S : List Tm} (hn : (S.map (·.id)).Nodup) {t : Tm} (ht : t ∈ S) : getT S t.id = some t := by
  induction S with
  | nil => cases ht
  | cons u S ih =>
    rw [List.map_cons, List.nodup_cons] at hn
    unfold getT
    rw [List.find?_cons]
    rcases List.mem_cons.1 ht with rfl | ht
    · simp
    · have hne : (u.id == t.id) = false := by
        simp only [beq_eq_false_iff_ne]
        intro e
        exact hn.1 (List.mem_map.2 ⟨t, ht, e.symm⟩)
      rw [hne]
      exact ih hn.2 ht

/-- Passing over what is not so any more: the wheel stays good. -/
theorem first_inv {W : Wh} (h : WInv W) : ∀ (f : Nat) (L : List Hd), WInv { W with L := L } → WInv { W with L := firstL W.S f L }
  | 0, L, hL => hL
  | f + 1, [], hL => hL
  | f + 1, x :: L, hL => by
    have hp := pop_ok hL.heap
    have stale : (∀ t, getT W.S x.i = some t → t.o ≠ x.o) → WInv { W with L := popH (x :: L) } := fun hst => by
      refine ⟨hp.1, fun t ht => ?_, h.nodup, fun y hy => hL.ords y (by simp [hp.2.mem_iff.1 hy]), ?_, h.ids, h.pos⟩
      · obtain ⟨y, hy, he1, he2, he3⟩ := hL.ent t ht
        rcases List.mem_cons.1 hy with rfl | hy
        · have := get_of_mem h.nodup ht
          rw [← he1] at this
          exact absurd he2.symm (hst t this)
        · exact ⟨y, hp.2.mem_iff.2 hy, he1, he2, he3⟩
      · refine ((hp.2.map (·.o)).nodup_iff).2 ?_
        have := hL.onod
        simp only [List.map_cons, List.nodup_cons] at this
        exact this.2
    simp only [firstL]
    split
    · rename_i t ht
      split
      · exact hL
      · rename_i ho
        exact first_inv h f _ (stale fun t' ht' => by rw [ht] at ht'; cases ht'; exact ho)
    · rename_i ht
      exact first_inv h f _ (stale fun t' ht' => by rw [ht] at ht'; cases ht')

theorem first_least {W : Wh} (h : WInv W) {x : Hd} {L : List Hd} (hf : firstL W.S W.L.length W.L = x :: L) : ∃ t, getT W.S x.i = some t ∧ x.a = t.a ∧ ∀ u ∈ W.S, t.a ≤ u.a := by
  have hi := first_inv h W.L.length W.L h
  rw [hf] at hi
  obtain ⟨t, hgt, hto⟩ := firstL_head (Nat.le_refl _) hf
  obtain ⟨htS, hid⟩ := get_mem hgt
  have hroot := heap_root hi.heap (r := x) rfl
  obtain ⟨y, hy, h1, h2, h3⟩ := hi.ent t htS
  have hxy : y = x := by
    rcases List.mem_cons.1 hy with e | hy
    · exact e
    · have := hi.onod
      simp only [List.map_cons, List.nodup_cons] at this
      exact absurd (List.mem_map.2 ⟨y, hy, h2.trans hto⟩) this.1
  subst hxy
  refine ⟨t, hgt, h3, fun u hu => ?_⟩
  obtain ⟨z, hz, g1, g2, g3⟩ := hi.ent u hu
  obtain ⟨i, hlt, hzi⟩ := List.getElem_of_mem hz
  have := hroot i z (by rw [List.getElem?_eq_getElem hlt, hzi])
  rw [ahead_false] at this
  omega

theorem first_none {W : Wh} (h : WInv W) (hf : firstL W.S W.L.length W.L = []) : W.S = [] := by
  have hi := first_inv h W.L.length W.L h
  rw [hf] at hi
  cases hS : W.S with
  | nil => rfl
  | cons t S =>
    obtain ⟨x, hx, _⟩ := hi.ent t (by simp [hS])
    cases hx

theorem drop_inv {W : Wh} (h : WInv W) {k : Int} (n : Int) : WInv { W with now := n, S := dropT W.S k } := by
  cases hg : getT W.S k with
  | none =>
    have : dropT W.S k = W.S := by
      unfold dropT
      rw [← find_of_idx] at hg
      cases hi : W.S.findIdx? (fun u => u.id == k) with
      | none => rfl
      | some j =>
        rw [hi] at hg
        simp only [Option.bind_some] at hg
        obtain ⟨u, hu, _⟩ := idx_spec hi
        rw [hu] at hg; cases hg
    rw [this]
    exact ⟨h.heap, h.ent, h.nodup, h.ords, h.onod, h.ids, h.pos⟩
  | some t =>
    obtain ⟨l1, l2, h1, h2, _⟩ := get_split hg
    have hsub : ∀ u ∈ dropT W.S k, u ∈ W.S := fun u hu => by
      rw [h2] at hu; rw [h1]
      simp only [List.mem_append, List.mem_cons] at hu ⊢
      rcases hu with hu | hu
      · exact .inl hu
      · exact .inr (.inr hu)
    refine ⟨h.heap, fun u hu => h.ent u (hsub u hu), ?_, h.ords, h.onod, fun u hu => h.ids u (hsub u hu), h.pos⟩
    have := h.nodup
    simp only at this ⊢
    rw [h1] at this
    rw [h2]
    simp only [List.map_append, List.map_cons] at this ⊢
    exact List.Nodup.sublist (List.Sublist.append_left (List.sublist_cons_self _ _) _) this

/-- What falls due up to a tick. -/
structure Turned (z : Int) (W : Wh) (R : List ByteArray × Wh) (acc : List ByteArray) : Prop where
  ex : ∃ D : List Tm, R.1 = acc ++ D.map (·.v) ∧ D.Perm (W.S.filter fun t => decide (t.a ≤ z)) ∧ D.Pairwise (fun t u => t.a ≤ u.a)
  now : R.2.now = z
  S : R.2.S = W.S.filter fun t => decide (z < t.a)
  inv : WInv R.2
  same : R.2.ids = W.ids ∧ R.2.ord = W.ord ∧ R.2.m = W.m ∧ R.2.L.length ≤ W.L.length

theorem filter_all {α : Type} {p : α → Bool} : ∀ {l : List α}, (∀ x ∈ l, p x = true) → l.filter p = l
  | [], _ => rfl
  | x :: l, h => by rw [List.filter_cons_of_pos (h x (by simp)), filter_all fun y hy => h y (by simp [hy])]
theorem filter_none {α : Type} {p : α → Bool} : ∀ {l : List α}, (∀ x ∈ l, p x = false) → l.filter p = []
  | [], _ => rfl
  | x :: l, h => by rw [List.filter_cons_of_neg (by simp [h x (by simp)]), filter_none fun y hy => h y (by simp [hy])]

theorem until_ok (z : Int) : ∀ (f : Nat) (W : Wh) (acc : List ByteArray), W.S.length < f → WInv W → Turned z W (untilW z f W acc) acc
  | 0, W, acc, hf, _ => by omega
  | f + 1, W, acc, hf, h => by
    unfold untilW
    have hi := first_inv h W.L.length W.L h
    have hle := firstL_le (S := W.S) W.L.length W.L
    cases hfl : firstL W.S W.L.length W.L with
    | nil =>
      rw [hfl] at hi
      have hS := first_none h hfl
      refine ⟨⟨[], by simp, by rw [hS]; exact List.Perm.refl _, List.Pairwise.nil⟩, rfl, by simp [hS], ?_, rfl, rfl, rfl, by simp⟩
      exact ⟨hi.heap, hi.ent, hi.nodup, hi.ords, hi.onod, hi.ids, hi.pos⟩
    | cons x L' =>
      rw [hfl] at hi hle
      obtain ⟨t, hgt, hxa, hmin⟩ := first_least h hfl
      have htm : tmAt W.S x.i = t := by unfold tmAt; rw [hgt]; rfl
      simp only [htm]
      by_cases hlt : z < t.a
      · rw [if_pos hlt]
        have hall : ∀ u ∈ W.S, z < u.a := fun u hu => by have := hmin u hu; omega
        refine ⟨⟨[], by simp, ?_, List.Pairwise.nil⟩, rfl, ?_, ⟨hi.heap, hi.ent, hi.nodup, hi.ords, hi.onod, hi.ids, hi.pos⟩, rfl, rfl, rfl, hle⟩
        · rw [filter_none fun u hu => decide_eq_false (by have := hall u hu; omega)]
        · exact (filter_all fun u hu => decide_eq_true (hall u hu)).symm
      · rw [if_neg hlt]
        obtain ⟨l1, l2, hS, hD, _⟩ := get_split hgt
        have hlen := dropT_length hgt
        have hinv : WInv { W with now := t.a, S := dropT W.S x.i, L := x :: L' } := drop_inv (W := { W with L := x :: L' }) hi t.a
        have ih := until_ok z f { W with now := t.a, S := dropT W.S x.i, L := x :: L' } (acc ++ [t.v]) (by simp only; omega) hinv
        obtain ⟨D, hR, hP, hW⟩ := ih.ex
        refine ⟨⟨t :: D, by rw [hR]; simp, ?_, ?_⟩, ih.now, ?_, ih.inv, ih.same.1, ih.same.2.1, ih.same.2.2.1, Nat.le_trans ih.same.2.2.2 hle⟩
        · simp only at hP
          rw [hD, List.filter_append] at hP
          rw [hS, List.filter_append, List.filter_cons_of_pos (by simpa using hlt)]
          exact (List.Perm.cons t hP).trans (List.perm_middle.symm)
        · refine List.Pairwise.cons (fun u hu => ?_) hW
          have := hP.mem_iff.1 hu
          simp only [hD] at this
          have hm := (List.mem_filter.1 this).1
          refine hmin u ?_
          rw [hS]
          simp only [List.mem_append, List.mem_cons] at hm ⊢
          rcases hm with hm | hm
          · exact .inl hm
          · exact .inr (.inr hm)
        · rw [ih.S]
          simp only [hD]
          rw [hS, List.filter_append, List.filter_append, List.filter_cons_of_neg (by simpa using hlt)]
end Go.Proofs.Ytibdplfdmncgiaa

/-
  Plain laws: the wheel and the document's list say the same. No condition.
-/
namespace Go.Proofs.Ytibdplfdmncgiaa

/-- A timer of the document's list. -/
structure Tr where
  id : Int
  a : Int
  v : ByteArray
  deriving DecidableEq
def Tm.tr (t : Tm) : Tr := ⟨t.id, t.a, t.v⟩

/-- The document's wheel. -/
structure Rw where
  now : Int
  next : Int
  L : List Tr

/-- Behind all that fall due no later. -/
def insR (t : Tr) : List Tr → List Tr
  | [] => [t]
  | y :: r => if y.a ≤ t.a then y :: insR t r else t :: y :: r
def insT (t : Tm) : List Tm → List Tm
  | [] => [t]
  | y :: r => if y.a ≤ t.a then y :: insT t r else t :: y :: r

/-- What the document's put does: the element at place k goes ahead of those that fall due later. -/
def upR : Nat → List Tr → List Tr
  | 0, L => L
  | k + 1, L => match L[k]?, L[k + 1]? with
    | some y, some x => if x.a < y.a then upR k ((L.set k x).set (k + 1) y) else L
    | _, _ => L

theorem insR_all {t : Tr} : ∀ {L : List Tr}, (∀ y ∈ L, y.a ≤ t.a) → insR t L = L ++ [t]
  | [], _ => rfl
  | y :: L, h => by
    unfold insR
    rw [if_pos (h y (by simp)), insR_all fun u hu => h u (by simp [hu])]
    rfl
theorem insR_snoc {t y : Tr} (h : t.a < y.a) : ∀ (L : List Tr), insR t (L ++ [y]) = insR t L ++ [y]
  | [] => by simp [insR]; omega
  | u :: L => by
    simp only [List.cons_append, insR]
    split
    · rw [insR_snoc h L]; rfl
    · rfl

theorem upR_ok : ∀ (k : Nat) (pre : List Tr) (t : Tr) (post : List Tr), pre.length = k → pre.Pairwise (fun x y => x.a ≤ y.a) → upR k (pre ++ t :: post) = insR t pre ++ post
  | 0, pre, t, post, hl, _ => by
    obtain rfl : pre = [] := List.length_eq_zero_iff.1 hl
    rfl
  | k + 1, pre, t, post, hl, hp => by
    obtain ⟨p, y, rfl⟩ : ∃ p y, pre = p ++ [y] := by
      have hne : pre ≠ [] := fun e => by rw [e] at hl; simp at hl
      exact ⟨_, _, (List.dropLast_concat_getLast hne).symm⟩
    have hlp : p.length = k := by simpa using hl
    obtain ⟨hp1, _, hp2⟩ := List.pairwise_append.1 hp
    have e1 : ((p ++ [y]) ++ t :: post)[k]? = some y := by
      rw [List.append_assoc, List.getElem?_append_right (by omega)]
      simp [hlp]
    have e2 : ((p ++ [y]) ++ t :: post)[k + 1]? = some t := by
      rw [List.append_assoc, List.getElem?_append_right (by omega)]
      simp [hlp]
    unfold upR
    simp only [e1, e2]
    by_cases h : t.a < y.a
    · rw [if_pos h]
      have e3 : (((p ++ [y]) ++ t :: post).set k t).set (k + 1) y = p ++ t :: (y :: post) := by
        subst hlp
        simp
      rw [e3, upR_ok k p t (y :: post) hlp hp1, insR_snoc h]
      simp
    · rw [if_neg h, insR_all]
      · simp
      · intro u hu
        rcases List.mem_append.1 hu with hu | hu
        · have := hp2 u hu y (by simp)
          omega
        · rw [List.mem_singleton.1 hu]; omega

/-- Does one fall due ahead of the other? -/
def lessT (t u : Tm) : Prop := t.a < u.a ∨ (t.a = u.a ∧ t.o < u.o)

theorem insT_map (t : Tm) : ∀ D : List Tm, (insT t D).map Tm.tr = insR t.tr (D.map Tm.tr)
  | [] => rfl
  | y :: D => by
    simp only [insT, List.map_cons, insR]
    by_cases h : y.a ≤ t.a
    · rw [if_pos h, if_pos (by exact h), List.map_cons, insT_map t D]
    · rw [if_neg h, if_neg (by exact h)]; rfl
theorem insT_perm (t : Tm) : ∀ D : List Tm, (insT t D).Perm (t :: D)
  | [] => List.Perm.refl _
  | y :: D => by
    simp only [insT]
    split
    · exact (List.Perm.cons y (insT_perm t D)).trans (List.Perm.swap _ _ _)
    · exact List.Perm.refl _
theorem insT_sorted {t : Tm} : ∀ {D : List Tm}, D.Pairwise lessT → (∀ u ∈ D, u.o < t.o) → (insT t D).Pairwise lessT
  | [], _, _ => by simp [insT]
  | y :: D, h, ho => by
    obtain ⟨h1, h2⟩ := List.pairwise_cons.1 h
    simp only [insT]
    split
    · rename_i hy
      refine List.pairwise_cons.2 ⟨fun u hu => ?_, insT_sorted h2 fun u hu => ho u (by simp [hu])⟩
      rcases List.mem_cons.1 ((insT_perm t D).mem_iff.1 hu) with rfl | hu
      · have := ho y (by simp)
        unfold lessT; omega
      · exact h1 u hu
    · rename_i hy
      refine List.pairwise_cons.2 ⟨fun u hu => ?_, h⟩
      rcases List.mem_cons.1 hu with rfl | hu
      · left; omega
      · have := h1 u hu
        unfold lessT at this; left; omega

theorem sorted_unique : ∀ {D E : List Tm}, D.Perm E → D.Pairwise lessT → E.Pairwise lessT → D = E
  | [], E, hp, _, _ => (List.Perm.nil_eq hp)
  | x :: D, [], hp, _, _ => absurd hp.length_eq (by simp)
  | x :: D, y :: E, hp, hD, hE => by
    obtain ⟨d1, d2⟩ := List.pairwise_cons.1 hD
    obtain ⟨e1, e2⟩ := List.pairwise_cons.1 hE
    have hxy : x = y := by
      rcases List.mem_cons.1 (hp.mem_iff.1 (List.mem_cons_self ..)) with h | h
      · exact h
      · rcases List.mem_cons.1 (hp.mem_iff.2 (List.mem_cons_self ..)) with g | g
        · exact g.symm
        · have a := e1 x h
          have b := d1 y g
          unfold lessT at a b
          omega
    subst hxy
    rw [sorted_unique (List.Perm.cons_inv hp) d2 e2]

/-- The wheel and the document's say the same. -/
structure Agree (W : Wh) (R : Rw) : Prop where
  inv : WInv W
  now : R.now = W.now
  next : R.next = W.ids
  ex : ∃ D : List Tm, D.Perm W.S ∧ D.Pairwise lessT ∧ R.L = D.map Tm.tr

def rw0 : Rw := ⟨0, 0, []⟩
theorem agree0 : Agree wh00 rw0 := ⟨inv0, rfl, rfl, [], List.Perm.refl _, List.Pairwise.nil, rfl⟩

theorem WInv.sord {W : Wh} (h : WInv W) {t : Tm} (ht : t ∈ W.S) : t.o < W.ord := by
  obtain ⟨x, hx, _, h2, _⟩ := h.ent t ht
  have := h.ords x hx
  omega
theorem Agree.len {W : Wh} {R : Rw} (h : Agree W R) : R.L.length = W.S.length := by
  obtain ⟨D, h1, _, h3⟩ := h.ex
  rw [h3, List.length_map, h1.length_eq]
theorem Agree.sorted {W : Wh} {R : Rw} (h : Agree W R) : R.L.Pairwise (fun x y => x.a ≤ y.a) := by
  obtain ⟨D, _, h2, h3⟩ := h.ex
  rw [h3, List.pairwise_map]
  exact h2.imp fun {t u} k => by
    unfold lessT at k
    show t.a ≤ u.a
    omega

/-- What the document's Set does. -/
def setR (R : Rw) (at_ : Int) (v : ByteArray) : (Int × Int) × Rw :=
  if at_ ≤ R.now then ((0, 140), R)
  else if 4096 ≤ (R.L.length : Int) then ((0, 6), R)
  else ((R.next, 0), ⟨R.now, R.next + 1, insR ⟨R.next, at_, v⟩ R.L⟩)
theorem set_agree {W : Wh} {R : Rw} (h : Agree W R) (at_ : Int) (v : ByteArray) : (setW W at_ v).1 = (setR R at_ v).1 ∧ Agree (setW W at_ v).2 (setR R at_ v).2 := by
  unfold setW setR
  rw [h.now, h.len]
  by_cases h1 : at_ ≤ W.now
  · rw [if_pos h1, if_pos h1]; exact ⟨rfl, h⟩
  · rw [if_neg h1, if_neg h1]
    by_cases h2 : 4096 ≤ (W.S.length : Int)
    · rw [if_pos h2, if_pos h2]; exact ⟨rfl, h⟩
    · rw [if_neg h2, if_neg h2]
      obtain ⟨hi, hS, _⟩ := laid_inv h.inv at_ v
      obtain ⟨D, d1, d2, d3⟩ := h.ex
      refine ⟨by rw [h.next], hi, rfl, by simp only [laidW]; rw [h.next], insT ⟨W.ids, at_, W.ord, v⟩ D, ?_, insT_sorted d2 fun u hu => h.inv.sord (d1.mem_iff.1 hu), ?_⟩
      · refine (insT_perm _ D).trans ?_
        rw [hS]
        exact (List.Perm.cons _ d1).trans (List.perm_append_singleton _ _).symm
      · rw [insT_map, d3, h.next]; rfl

/-- What After does. -/
def afterW (W : Wh) (n : Int) (v : ByteArray) : (Int × Int) × Wh :=
  if n < 1 ∨ 9223372036854775807 - W.now < n then ((0, 2), W) else setW W (W.now + n) v
def afterR (R : Rw) (n : Int) (v : ByteArray) : (Int × Int) × Rw :=
  if n < 1 ∨ 9223372036854775807 - R.now < n then ((0, 2), R) else setR R (R.now + n) v
theorem after_agree {W : Wh} {R : Rw} (h : Agree W R) (n : Int) (v : ByteArray) : (afterW W n v).1 = (afterR R n v).1 ∧ Agree (afterW W n v).2 (afterR R n v).2 := by
  unfold afterW afterR
  rw [h.now]
  split
  · exact ⟨rfl, h⟩
  · exact set_agree h _ v

/-- Where a timer stands in the document's list. -/
def findR (L : List Tr) (k : Int) : Option Nat := L.findIdx? fun t => t.id == k
def findI (L : List Tr) (k : Int) : Int := match findR L k with
  | some i => i
  | none => -1

theorem find_tr (k : Int) : ∀ D : List Tm, findR (D.map Tm.tr) k = D.findIdx? fun t => t.id == k := fun D => by
  unfold findR
  rw [List.findIdx?_map]
  rfl

theorem Agree.none {W : Wh} {R : Rw} (h : Agree W R) {k : Int} (hg : getT W.S k = none) : findR R.L k = none := by
  obtain ⟨D, d1, _, d3⟩ := h.ex
  rw [d3, find_tr, List.findIdx?_eq_none_iff]
  intro u hu
  unfold getT at hg
  have := List.find?_eq_none.1 hg u (d1.mem_iff.1 hu)
  simpa using this
theorem Agree.some {W : Wh} {R : Rw} (h : Agree W R) {k : Int} {t : Tm} (hg : getT W.S k = some t) : ∃ i, findR R.L k = some i ∧ R.L[i]? = some t.tr ∧ ∃ D : List Tm, D.Perm (dropT W.S k) ∧ D.Pairwise lessT ∧ R.L.eraseIdx i = D.map Tm.tr := by
  obtain ⟨D, d1, d2, d3⟩ := h.ex
  obtain ⟨l1, l2, hS, hdr, hid⟩ := get_split hg
  obtain ⟨htS, _⟩ := get_mem hg
  cases hf : D.findIdx? (fun t => t.id == k) with
  | none =>
    rw [List.findIdx?_eq_none_iff] at hf
    have := hf t (d1.mem_iff.2 htS)
    simp [hid] at this
  | some i =>
    obtain ⟨u, hu, huid⟩ := idx_spec hf
    obtain ⟨hlt, hget⟩ := List.getElem?_eq_some_iff.1 hu
    have hut : u = t := by
      have huS : u ∈ W.S := d1.mem_iff.1 (List.mem_of_getElem? hu)
      have := get_of_mem h.inv.nodup huS
      rw [huid, hg] at this
      exact (Option.some.inj this).symm
    subst hut
    refine ⟨i, by rw [d3, find_tr, hf], by rw [d3, List.getElem?_map, hu]; rfl, D.eraseIdx i, ?_, List.Pairwise.sublist (List.eraseIdx_sublist _ _) d2, by rw [d3, map_erase]⟩
    have hD : D = D.take i ++ u :: D.drop (i + 1) := by rw [← hget, List.getElem_cons_drop, List.take_append_drop]
    have e1 : (u :: D.eraseIdx i).Perm (u :: (l1 ++ l2)) := by
      refine List.Perm.trans ?_ ((d1.trans (by rw [hS])).trans List.perm_middle)
      rw [List.eraseIdx_eq_take_drop_succ]
      exact List.perm_middle.symm.trans (by rw [← hD])
    rw [hdr]
    exact List.Perm.cons_inv e1

theorem cancel_agree {W : Wh} {R : Rw} (h : Agree W R) {k : Int} {t : Tm} {i : Nat} (hg : getT W.S k = some t) (hf : findR R.L k = some i) : Agree { W with S := dropT W.S k } { R with L := R.L.eraseIdx i } := by
  obtain ⟨j, hj, _, D, d1, d2, d3⟩ := h.some hg
  rw [hf] at hj
  cases hj
  exact ⟨drop_inv h.inv W.now, h.now, h.next, D, d1, d2, d3⟩
theorem dropT_none {S : List Tm} {k : Int} (hg : getT S k = none) : dropT S k = S := by
  unfold dropT
  rw [← find_of_idx] at hg
  cases hi : S.findIdx? (fun u => u.id == k) with
  | none => rfl
  | some j =>
    rw [hi] at hg
    simp only [Option.bind_some] at hg
    obtain ⟨u, hu, _⟩ := idx_spec hi
    rw [hu] at hg; cases hg

/-- What Move does. -/
def moveW (W : Wh) (k at_ : Int) : Int × Wh := match getT W.S k with
  | none => (7, W)
  | some t => if at_ ≤ W.now then (140, W) else (0, laidW W k at_ t.v)
def moveR (R : Rw) (k at_ : Int) : Int × Rw := match findR R.L k with
  | none => (7, R)
  | some i => if at_ ≤ R.now then (140, R) else match R.L[i]? with
    | none => (0, R)
    | some t => (0, { R with L := insR ⟨t.id, at_, t.v⟩ (R.L.eraseIdx i) })

theorem put_there {S : List Tm} {t u : Tm} (hg : getT S u.id = some t) : (putT S u).Perm (u :: dropT S u.id) ∧ (putT S u).map (·.id) = S.map (·.id) ∧ ∀ x ∈ putT S u, x = u ∨ x ∈ S := by
  have hg' := hg
  rw [← find_of_idx] at hg
  cases hi : S.findIdx? (fun x => x.id == u.id) with
  | none => rw [hi] at hg; cases hg
  | some j =>
    rw [hi] at hg
    simp only [Option.bind_some] at hg
    obtain ⟨hlt, hget⟩ := List.getElem?_eq_some_iff.1 hg
    have hid := (get_mem hg').2
    have hp : putT S u = S.take j ++ u :: S.drop (j + 1) := by
      unfold putT
      rw [hi]
      simp only
      rw [List.set_eq_take_append_cons_drop, if_pos hlt]
    have hd : dropT S u.id = S.take j ++ S.drop (j + 1) := by
      unfold dropT
      rw [hi]
      simp only
      rw [List.eraseIdx_eq_take_drop_succ]
    have hS : S = S.take j ++ t :: S.drop (j + 1) := by rw [← hget, List.getElem_cons_drop, List.take_append_drop]
    refine ⟨by rw [hp, hd]; exact List.perm_middle, ?_, ?_⟩
    · rw [hp]
      conv => rhs; rw [hS]
      simp only [List.map_append, List.map_cons, hid]
    · intro x hx
      rw [hp] at hx
      rcases List.mem_append.1 hx with hx | hx
      · exact .inr (List.mem_of_mem_take hx)
      · rcases List.mem_cons.1 hx with rfl | hx
        · exact .inl rfl
        · exact .inr (List.mem_of_mem_drop hx)

theorem relaid_inv {W : Wh} (h : WInv W) {k : Int} {t : Tm} (hg : getT W.S k = some t) (at_ : Int) (v : ByteArray) : WInv (laidW W k at_ v) ∧ (laidW W k at_ v).S.Perm (⟨k, at_, W.ord, v⟩ :: dropT W.S k) := by
  obtain ⟨q1, q2, q3⟩ := put_there (u := ⟨k, at_, W.ord, v⟩) hg
  obtain ⟨hh, hp⟩ := push_ok h.heap ⟨at_, W.ord, k, W.m⟩
  obtain ⟨htS, hid⟩ := get_mem hg
  refine ⟨⟨hh, ?_, ?_, ?_, ?_, ?_, h.pos⟩, q1⟩
  · intro u hu
    rcases q3 u hu with rfl | hu
    · exact ⟨⟨at_, W.ord, k, W.m⟩, hp.mem_iff.2 (by simp), rfl, rfl, rfl⟩
    · obtain ⟨x, hx, he⟩ := h.ent u hu
      exact ⟨x, hp.mem_iff.2 (by simp [hx]), he⟩
  · show ((putT W.S ⟨k, at_, W.ord, v⟩).map (·.id)).Nodup
    rw [q2]; exact h.nodup
  · intro x hx
    have hx := hp.mem_iff.1 hx
    simp only [laidW, List.mem_append, List.mem_singleton] at hx ⊢
    rcases hx with hx | rfl
    · have := h.ords x hx; omega
    · simp only; omega
  · refine ((hp.map (·.o)).nodup_iff).2 ?_
    rw [List.map_append, List.nodup_append]
    refine ⟨h.onod, by simp, ?_⟩
    intro a ha b hb hab
    simp only [List.map_cons, List.map_nil, List.mem_singleton] at hb
    obtain ⟨x, hx, rfl⟩ := List.mem_map.1 ha
    have := h.ords x hx
    omega
  · intro u hu
    rcases q3 u hu with rfl | hu
    · have := h.ids t htS
      rw [hid] at this
      exact this
    · exact h.ids u hu

theorem move_agree {W : Wh} {R : Rw} (h : Agree W R) (k at_ : Int) : (moveW W k at_).1 = (moveR R k at_).1 ∧ Agree (moveW W k at_).2 (moveR R k at_).2 := by
  unfold moveW moveR
  cases hg : getT W.S k with
  | none => rw [h.none hg]; exact ⟨rfl, h⟩
  | some t =>
    obtain ⟨i, hf, hi, D, d1, d2, d3⟩ := h.some hg
    rw [hf]
    simp only [hi, h.now]
    by_cases h1 : at_ ≤ W.now
    · rw [if_pos h1, if_pos h1]; exact ⟨rfl, h⟩
    · rw [if_neg h1, if_neg h1]
      obtain ⟨hinv, hp⟩ := relaid_inv h.inv hg at_ t.v
      have hid := (get_mem hg).2
      refine ⟨rfl, hinv, by first | exact h.now | rfl, h.next, insT ⟨k, at_, W.ord, t.v⟩ D, ?_, insT_sorted d2 fun u hu => ?_, ?_⟩
      · exact ((insT_perm _ D).trans (List.Perm.cons _ d1)).trans hp.symm
      · obtain ⟨l1, l2, hS, hdr, _⟩ := get_split hg
        have := d1.mem_iff.1 hu
        rw [hdr] at this
        refine h.inv.sord ?_
        rw [hS]
        simp only [List.mem_append, List.mem_cons] at this ⊢
        rcases this with h | h
        · exact .inl h
        · exact .inr (.inr h)
      · rw [insT_map, d3, ← hid]; rfl

/-- What falls due first. -/
theorem first_min {W : Wh} (h : WInv W) {x : Hd} {L : List Hd} (hf : firstL W.S W.L.length W.L = x :: L) : ∃ t, getT W.S x.i = some t ∧ x.a = t.a ∧ ∀ u ∈ W.S, u = t ∨ lessT t u := by
  have hi := first_inv h W.L.length W.L h
  rw [hf] at hi
  obtain ⟨t, hgt, hto⟩ := firstL_head (Nat.le_refl _) hf
  obtain ⟨htS, hid⟩ := get_mem hgt
  have hroot := heap_root hi.heap (r := x) rfl
  obtain ⟨y, hy, h1, h2, h3⟩ := hi.ent t htS
  have hone : ∀ z ∈ x :: L, z.o = x.o → z = x := fun z hz hzo => by
    rcases List.mem_cons.1 hz with e | hz
    · exact e
    · have := hi.onod
      simp only [List.map_cons, List.nodup_cons] at this
      exact absurd (List.mem_map.2 ⟨z, hz, hzo⟩) this.1
  have hyx := hone y hy (h2.trans hto)
  subst hyx
  refine ⟨t, hgt, h3, fun u hu => ?_⟩
  obtain ⟨z, hz, g1, g2, g3⟩ := hi.ent u hu
  obtain ⟨i, hlt, hzi⟩ := List.getElem_of_mem hz
  have hr := hroot i z (by rw [List.getElem?_eq_getElem hlt, hzi])
  rw [ahead_false] at hr
  by_cases ho : z.o = y.o
  · left
    have e := hone z hz ho
    subst e
    have a := get_of_mem h.nodup hu
    rw [← g1, hgt] at a
    exact (Option.some.inj a).symm
  · right
    unfold lessT
    omega

theorem until_sorted (z : Int) : ∀ (f : Nat) (W : Wh) (acc : List ByteArray), W.S.length < f → WInv W → ∃ D : List Tm, (untilW z f W acc).1 = acc ++ D.map (·.v) ∧ D.Perm (W.S.filter fun t => decide (t.a ≤ z)) ∧ D.Pairwise lessT
  | 0, W, acc, hf, _ => by omega
  | f + 1, W, acc, hf, h => by
    unfold untilW
    have hi := first_inv h W.L.length W.L h
    cases hfl : firstL W.S W.L.length W.L with
    | nil =>
      have hS := first_none h hfl
      exact ⟨[], by simp, by rw [hS]; exact List.Perm.refl _, List.Pairwise.nil⟩
    | cons x L' =>
      rw [hfl] at hi
      obtain ⟨t, hgt, hxa, hmin⟩ := first_min h hfl
      have htm : tmAt W.S x.i = t := by unfold tmAt; rw [hgt]; rfl
      simp only [htm]
      have hle : ∀ u ∈ W.S, t.a ≤ u.a := fun u hu => by
        rcases hmin u hu with rfl | h
        · exact Int.le_refl _
        · unfold lessT at h; omega
      by_cases hlt : z < t.a
      · rw [if_pos hlt]
        refine ⟨[], by simp, ?_, List.Pairwise.nil⟩
        rw [filter_none fun u hu => decide_eq_false (by have := hle u hu; omega)]
      · rw [if_neg hlt]
        obtain ⟨l1, l2, hS, hD, _⟩ := get_split hgt
        have hlen := dropT_length hgt
        have hinv : WInv { W with now := t.a, S := dropT W.S x.i, L := x :: L' } := drop_inv (W := { W with L := x :: L' }) hi t.a
        obtain ⟨D, hR, hP, hW⟩ := until_sorted z f { W with now := t.a, S := dropT W.S x.i, L := x :: L' } (acc ++ [t.v]) (by simp only; omega) hinv
        refine ⟨t :: D, by rw [hR]; simp, ?_, ?_⟩
        · simp only at hP
          rw [hD, List.filter_append] at hP
          rw [hS, List.filter_append, List.filter_cons_of_pos (by simpa using hlt)]
          exact (List.Perm.cons t hP).trans (List.perm_middle.symm)
        · refine List.Pairwise.cons (fun u hu => ?_) hW
          have hm := hP.mem_iff.1 hu
          simp only [hD] at hm
          have hm := (List.mem_filter.1 hm).1
          have huS : u ∈ W.S := by
            rw [hS]
            simp only [List.mem_append, List.mem_cons] at hm ⊢
            rcases hm with hm | hm
            · exact .inl hm
            · exact .inr (.inr hm)
          rcases hmin u huS with e | hl
          · subst e
            exfalso
            have hn := h.nodup
            rw [hS, List.map_append, List.map_cons, List.nodup_append] at hn
            obtain ⟨_, n2, n3⟩ := hn
            rcases List.mem_append.1 hm with hm | hm
            · exact n3 _ (List.mem_map.2 ⟨u, hm, rfl⟩) _ (List.mem_cons_self ..) rfl
            · exact (List.nodup_cons.1 n2).1 (List.mem_map.2 ⟨u, hm, rfl⟩)
          · exact hl

/-- The timers of the document's list that fall due up to a tick; those that stay. -/
def dueR (L : List Tr) (z : Int) : List Tr := L.takeWhile fun t => decide (t.a ≤ z)
def restR (L : List Tr) (z : Int) : List Tr := L.dropWhile fun t => decide (t.a ≤ z)
theorem due_filter (z : Int) : ∀ {D : List Tm}, D.Pairwise lessT → dueR (D.map Tm.tr) z = (D.filter fun t => decide (t.a ≤ z)).map Tm.tr ∧ restR (D.map Tm.tr) z = (D.filter fun t => decide (z < t.a)).map Tm.tr
  | [], _ => ⟨rfl, rfl⟩
  | t :: D, h => by
    obtain ⟨h1, h2⟩ := List.pairwise_cons.1 h
    obtain ⟨i1, i2⟩ := due_filter z h2
    simp only [dueR, restR] at i1 i2 ⊢
    by_cases hz : t.a ≤ z
    · rw [List.map_cons, List.takeWhile_cons_of_pos (by show decide (t.a ≤ z) = true; simpa using hz), List.dropWhile_cons_of_pos (by show decide (t.a ≤ z) = true; simpa using hz), List.filter_cons_of_pos (by simpa using hz), List.filter_cons_of_neg (by simpa using hz), i1, i2]
      exact ⟨rfl, rfl⟩
    · have hall : ∀ u ∈ t :: D, z < u.a := fun u hu => by
        rcases List.mem_cons.1 hu with rfl | hu
        · omega
        · have := h1 u hu
          unfold lessT at this; omega
      rw [filter_none fun u hu => decide_eq_false (by have := hall u hu; omega), filter_all fun u hu => decide_eq_true (hall u hu), List.map_cons, List.takeWhile_cons_of_neg (by show ¬ decide (t.a ≤ z) = true; simpa using hz), List.dropWhile_cons_of_neg (by show ¬ decide (t.a ≤ z) = true; simpa using hz)]
      exact ⟨rfl, rfl⟩

theorem until_agree {W : Wh} {R : Rw} (h : Agree W R) (z : Int) : (untilW z (W.S.length + 1) W []).1 = (dueR R.L z).map (·.v) ∧ Agree (untilW z (W.S.length + 1) W []).2 ⟨z, R.next, restR R.L z⟩ := by
  obtain ⟨D, d1, d2, d3⟩ := h.ex
  obtain ⟨E, e1, e2, e3⟩ := until_sorted z (W.S.length + 1) W [] (by omega) h.inv
  have T := until_ok z (W.S.length + 1) W [] (by omega) h.inv
  obtain ⟨f1, f2⟩ := due_filter z d2
  have hE : E = D.filter fun t => decide (t.a ≤ z) := sorted_unique (e2.trans (d1.symm.filter _)) e3 (d2.filter _)
  refine ⟨by rw [e1, d3, f1, hE, List.nil_append, List.map_map]; rfl, T.inv, T.now.symm, by rw [T.same.1]; exact h.next, D.filter fun t => decide (z < t.a), ?_, d2.filter _, by rw [d3, f2]⟩
  rw [T.S]
  exact d1.filter _

/-- What Next says. -/
theorem next_agree {W : Wh} {R : Rw} (h : Agree W R) : Agree { W with L := firstL W.S W.L.length W.L } R ∧ ((firstL W.S W.L.length W.L = [] ∧ R.L = []) ∨ ∃ x L' t L2, firstL W.S W.L.length W.L = x :: L' ∧ R.L = t :: L2 ∧ (tmAt W.S x.i).a = t.a) := by
  refine ⟨⟨first_inv h.inv W.L.length W.L h.inv, h.now, h.next, h.ex⟩, ?_⟩
  obtain ⟨D, d1, d2, d3⟩ := h.ex
  cases hfl : firstL W.S W.L.length W.L with
  | nil =>
    have hS := first_none h.inv hfl
    rw [hS] at d1
    refine .inl ⟨rfl, ?_⟩
    rw [d3, List.Perm.eq_nil d1]
    rfl
  | cons x L' =>
    obtain ⟨t, hgt, _, hmin⟩ := first_min h.inv hfl
    obtain ⟨htS, _⟩ := get_mem hgt
    have htm : tmAt W.S x.i = t := by unfold tmAt; rw [hgt]; rfl
    cases D with
    | nil => exact absurd (d1.mem_iff.2 htS) (by simp)
    | cons u D =>
      refine .inr ⟨x, L', u.tr, D.map Tm.tr, rfl, d3, ?_⟩
      rw [htm]
      rcases hmin u (d1.mem_iff.1 (by simp)) with e | hl
      · rw [e]; rfl
      · rcases List.mem_cons.1 (d1.mem_iff.2 htS) with e | ht
        · rw [e]; rfl
        · have := (List.pairwise_cons.1 d2).1 t ht
          unfold lessT at this hl
          omega
end Go.Proofs.Ytibdplfdmncgiaa

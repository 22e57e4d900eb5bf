/-
  Walk: the timer that falls due first. No condition.
-/
import Derived.Test.YtibdplfdmncgiaaT6
import Derived.Deep.LoopGhost
set_option linter.all false
namespace Go.Proofs.Ytibdplfdmncgiaa
open Go.RowKit
attribute [local go_sem] ExtOf.cell ExtOf.frozen ExtOf.lt ExtOf.le
attribute [local go_sem high] ExtOf.cell2 ExtOf.frozen2 ExtOf.lt2 ExtOf.cell3 ExtOf.frozen3 ExtOf.lt3 ExtOf.cellX ExtOf.frozenX ExtOf.cellX' ExtOf.frozenX'

theorem WheelW.ext {T : TypeId} {f : FuncId} {p : At} {v : Value} {W : Wh} {w w' : World} (h : WheelW T f p v W w) (e : Ext w w') : WheelW T f p v W w' := ⟨heap_ext h.1 e, h.2.1.ext e, h.2.2.ext e⟩

theorem downH_length : ∀ (f : Nat) (L : List Hd) (i : Nat), (downH f L i).length = L.length
  | 0, _, _ => rfl
  | f + 1, L, i => by
    unfold downH
    split
    · split
      · split
        · split
          · split
            · rw [downH_length, swapH_length]
            · rfl
          · split
            · rw [downH_length, swapH_length]
            · rfl
        · split
          · rw [downH_length, swapH_length]
          · rfl
      · rfl
    · rfl

/-- The heap's list without its first thing. -/
def popH (L : List Hd) : List Hd := match L[L.length - 1]? with
  | some l => downH (L.length - 1) ((L.set 0 l).take (L.length - 1)) 0
  | none => []
theorem popH_length {x : Hd} {L : List Hd} : (popH (x :: L)).length = L.length := by
  unfold popH
  rw [List.getElem?_eq_getElem (by simp)]
  simp only
  rw [downH_length]
  simp

/-- The heap's list behind passing over what is not so any more. -/
def firstL (S : List Tm) : Nat → List Hd → List Hd
  | 0, L => L
  | f + 1, L => match L with
    | [] => []
    | x :: L' => match getT S x.i with
      | some t => if t.o = x.o then x :: L' else firstL S f (popH (x :: L'))
      | none => firstL S f (popH (x :: L'))
def firstV : List Hd → Int × Bool
  | [] => (0, false)
  | x :: _ => (x.i, true)

/-- What is behind the search. -/
def FoundW (T : TypeId) (f : FuncId) (p : At) (v : Value) (W : Wh) (w : World) : Ending → World → Prop := fun e w' =>
  e = .returned (.tuple #[.int .i64 (firstV (firstL W.S W.L.length W.L)).1, .bool (firstV (firstL W.S W.L.length W.L)).2]) ∧
    ∃ v', WheelW T f p v' { W with L := firstL W.S W.L.length W.L } w' ∧ Keeps (p.bH :: rowB v) w w' ∧ rowB v' = rowB v

theorem zero_int (w : World) : (zeroValue 95).run Try.prog w = .ok (.agg #[.int .i64 0, .int .i64 0, .int .i64 0]) w := by kernel_rfl
theorem info_tm_int (a b c : Value) : (Try.prog.info? 95).map (·.size) = some (#[a, b, c] : Array Value).size := by
  rw [show (#[a, b, c] : Array Value).size = 3 from rfl]
  kernel_rfl

set_option maxRecDepth 100000 in
set_option maxHeartbeats 8000000 in
theorem first_int (p : At) (v : Value) (W : Wh) (w : World) (hW : WheelW 91 43 p v W w) (hB : p.B ≤ w.heap.size) (hL : W.L.length ≤ 100000) :
    Calls Try.prog 46 #[.pointer (some ⟨p.bW, 0, none⟩)] w (FoundW 91 43 p v W w) := by
  obtain ⟨now, ids, ord, S, L, m⟩ := W
  obtain ⟨bM, bH, bW, B, pM, pH, pW⟩ := p
  simp only at hB hL ⊢
  have HW := Lib.hid hW
  clear hW
  go_enter Try.func46, Try.ntmps46
  go_wp2_with fail
  go_loopg [5] L.length (fun g _ wr => ∃ (f : Nat) (Lc : List Hd) (vc : Value), Lc.length ≤ g ∧ Lc.length ≤ f ∧ Lc.length ≤ L.length ∧ Hid (firstL S f Lc = firstL S L.length L) ∧ Hid (WheelW 91 43 ⟨bM, bH, bW, B, pM, pH, pW⟩ vc ⟨now, ids, ord, S, Lc, m⟩ wr) ∧ Hid (Keeps (bH :: rowB v) w wr) ∧ Hid (rowB vc = rowB v))
  case atStart => exact ⟨L.length, L, v, Nat.le_refl _, Nat.le_refl _, Nat.le_refl _, Lib.hid rfl, HW, Lib.hid (Keeps.refl _ _), Lib.hid rfl⟩
  case round =>
    obtain ⟨f, Lc, vc, hg, hf, hl, HF, HWc, HK, HR⟩ := hrel
    clear HW
    obtain ⟨hb, hM, hH⟩ := HWc.out
    simp only at hb hM hH
    have lb : bW < wr.heap.size := (Array.getElem?_eq_some_iff.1 hb).1
    have hcb := fun j => cell_of_row wr _ j _ _ _ hb
    have HB := Lib.hid hb
    have HM := Lib.hid hM
    have HH := Lib.hid hH
    clear hb hM hH
    cases Lc with
    | nil =>
      go_wp2_with fail
      refine (peek_any B bH 43 vc [] m wr HH.out (by simp)).mono ?_
      rintro e w1 ⟨rfl, hx1⟩
      simp only [peekV]
      go_wp2_with (refine wpList_store_row rfl 78 _ _ rfl w1.heap.size _ rfl rfl 78 _ (heap_new rfl) (info_slot _ _ _) rfl (by simp [Value.oneCell']) ?_)
      go_ret2
      have hF0 : firstL S L.length L = [] := by rw [← HF.out]; cases f <;> rfl
      have eX : Ext wr ((w1.alloc (.cells #[.int .i64 0, .int .i64 0, .int .i64 0] 78)).setRow w1.heap.size #[.int .i64 0, .int .i64 0, .int .i64 0]) := (hx1.alloc _).setRow hx1.size _
      refine ⟨by simp only [hF0]; rfl, vc, ?_, HK.out.ext eX, HR.out⟩
      simp only [hF0]
      exact HWc.out.ext eX
    | cons x Lt =>
      go_wp2_with fail
      refine (peek_any B bH 43 vc (x :: Lt) m wr HH.out (by omega)).mono ?_
      rintro e w1 ⟨rfl, hx1⟩
      simp only [peekV]
      go_wp2_with (refine wpList_store_row rfl 78 _ _ rfl w1.heap.size _ rfl rfl 78 _ (heap_new rfl) (info_slot _ _ _) rfl (by simp [Value.oneCell']) (unHd ?_))
      have eX : Ext wr ((w1.alloc (.cells #[.int .i64 0, .int .i64 0, .int .i64 0] 78)).setRow w1.heap.size #[.int .i64 x.a, .int .i64 x.o, .int .i64 x.i]) := (hx1.alloc _).setRow hx1.size _
      have eT := setRow_heap _ _ _ #[.int .i64 x.a, .int .i64 x.o, .int .i64 x.i] _ _ (heap_new (w := w1) (o := .cells #[.int .i64 0, .int .i64 0, .int .i64 0] 78) rfl)
      generalize World.setRow _ _ _ = w2 at eX eT ⊢
      have hcs2 := fun j => cell_of_row w2 _ j _ _ _ eT
      have ls2 : w1.heap.size < w2.heap.size := (Array.getElem?_eq_some_iff.1 eT).1
      have hb2 := heap_ext HB.out eX
      have hcb2 := fun j => cell_of_row w2 _ j _ _ _ hb2
      have lb2 : bW < w2.heap.size := (Array.getElem?_eq_some_iff.1 hb2).1
      have HTS := Lib.hid eT
      have HB2 := Lib.hid hb2
      have HM2 := Lib.hid (HM.out.ext eX)
      have HH2 := Lib.hid (HH.out.ext eX)
      have HK2 := Lib.hid (HK.out.ext eX)
      clear eX eT hb2 hx1 hcb lb HB HM HH HK HWc
      unfold Hd2
      rcases hgt : getT S x.i with _ | t
      · have HGT := Lib.hid hgt
        clear hgt
        go_wp2_with fail
        have hlk : lookV S x.i true = .tuple #[.agg #[.int .i64 0, .int .i64 0, .int .i64 0], .bool false] := by simp only [lookV, HGT.out]
        have HLK := Lib.hid hlk
        clear hlk
        refine wp_region_mixF (af := ?af1) #[.int .i64 0, .int .i64 0, .int .i64 0] 95 [true, true, true, true, true, true, true, true, true, true, false, false, false] [false, false, false, false, false, false, false, false, false, false, false, false, true] 43 0 (C := Ext w2) (by kernel_rfl) rfl (by kernel_rfl) (fun _ _ h e => Ext.trans h e) (Ext.refl w2).drew ?q ?r
        case q =>
          intro w' hw'
          obtain ⟨y, rfl⟩ := ext_of hw'
          have hlk2 : ∀ y2 : ExtOf y.val, (Instr.lookup 88 (.map (some bM)) (.int .i64 x.i) true).run Try.prog y2.val = .ok (.tuple #[.agg #[.int .i64 0, .int .i64 0, .int .i64 0], .bool false]) y2.val := fun y2 => by
            rw [← HLK.out]
            exact run_lookup Try.underlying88 Try.underlying3 zero_int (HM2.out.ext (y.ext.trans y2.ext)) x.i true
          simp only [pickT, if_true, if_false, Bool.false_eq_true]
          repeat (go_big_quiet_step (fail))
          exact rfl
        case r =>
          simp only [restL, if_true, if_false, Bool.false_eq_true]
          refine ⟨fun a w => by simp [go_sem], ?_⟩
          intro x1 gT hgT hzT
          intro x3
          have e3 : Ext w2 x3.val := ((Ext.refl w2).drew.val x1).val x3
          go_wp2_with (refine wpList_store_row rfl 95 _ _ rfl gT _ rfl rfl 95 _ (heap_ext hzT x3.ext) (info_tm_int _ _ _) rfl (by simp [Value.oneCell']) ?_)
          refine ⟨e3.setRow hgT _, ?_⟩
          refine ⟨_, .inl ⟨rfl, fun w _ => ⟨rfl, rfl⟩⟩, ?_⟩
          intro x4
          have eT := heap_ext (setRow_heap _ _ _ #[.int .i64 0, .int .i64 0, .int .i64 0] _ _ (heap_ext hzT x3.ext)) x4.ext
          have e4 : Ext w2 x4.val := (e3.setRow hgT _).val x4
          generalize x4.val = w3 at eT e4 ⊢
          clear x4 x3 x1 hzT e3
          have hct3 := fun j => cell_of_row w3 _ j _ _ _ eT
          have lt3 : gT < w3.heap.size := (Array.getElem?_eq_some_iff.1 eT).1
          have hts3 := heap_ext HTS.out e4
          have hcs3 := fun j => cell_of_row w3 _ j _ _ _ hts3
          have ls3 : w1.heap.size < w3.heap.size := (Array.getElem?_eq_some_iff.1 hts3).1
          have hb3 := heap_ext HB2.out e4
          have hcb3 := fun j => cell_of_row w3 _ j _ _ _ hb3
          have lb3 : bW < w3.heap.size := (Array.getElem?_eq_some_iff.1 hb3).1
          have HB3 := Lib.hid hb3
          have HM3 := Lib.hid (HM2.out.ext e4)
          have HH3 := Lib.hid (HH2.out.ext e4)
          have HK3 := Lib.hid (HK2.out.ext e4)
          clear eT hts3 hb3 e4 hcb2 hcs2 HLK
          go_wp2_with fail
          obtain ⟨l, hll⟩ : ∃ l, (x :: Lt)[Lt.length]? = some l := ⟨_, List.getElem?_eq_getElem (by simp)⟩
          refine (pop_int B bH vc (x :: Lt) Lt.length x l m w3 HH3.out (by omega) (by have := HK3.out.size; omega) rfl (by simp at hl; omega) rfl hll).mono ?_
          rintro e w5 ⟨rfl, v5, hH5, hk5, hr5⟩
          have hpop : downH Lt.length (((x :: Lt).set 0 l).take Lt.length) 0 = popH (x :: Lt) := by
            unfold popH
            simp only [List.length_cons, Nat.add_sub_cancel]
            rw [hll]
          rw [hpop] at hH5
          have hgB := rowB_ge HH3.out
          have nW : bW ∉ bH :: rowB vc := fun h => by
            rcases List.mem_cons.1 h with h | h
            · omega
            · have := hgB _ h; omega
          have nM : bM ∉ bH :: rowB vc := fun h => by
            rcases List.mem_cons.1 h with h | h
            · omega
            · have := hgB _ h; omega
          have HW5 := Lib.hid (show WheelW 91 43 ⟨bM, bH, bW, B, pM, pH, pW⟩ v5 ⟨now, ids, ord, S, popH (x :: Lt), m⟩ w5 from ⟨(hk5.block bW lb3 nW).trans HB3.out, HM3.out.same (hk5.block bM HM3.out.lt nM), hH5⟩)
          have HK5 := Lib.hid (HK3.out.trans (hk5.mono (fun k hk => by rw [HR.out] at hk; exact hk)))
          have HR5 := Lib.hid (hr5.trans HR.out)
          have hl' : (popH (x :: Lt)).length = Lt.length := popH_length
          have hff : firstL S f (x :: Lt) = firstL S (f - 1) (popH (x :: Lt)) := by
            obtain ⟨f', rfl⟩ : ∃ f', f = f' + 1 := ⟨f - 1, by simp at hf; omega⟩
            show (match getT S x.i with | some t => if t.o = x.o then x :: Lt else firstL S f' (popH (x :: Lt)) | none => firstL S f' (popH (x :: Lt))) = _
            rw [HGT.out]; rfl
          have HFF := Lib.hid (hff.symm.trans HF.out)
          clear hH5 hk5 hr5 hpop hll hff hcb3 hct3 hcs3 lb3 ls3 lt3
          go_wp2_with fail
          go_roundg (gk - 1)
          case rel => exact ⟨f - 1, popH (x :: Lt), v5, by simp at hg; omega, by simp at hf; omega, by simp at hl; omega, HFF, HW5, HK5, HR5⟩
          case measure => simp at hg; omega
      · have HGT := Lib.hid hgt
        clear hgt
        by_cases hto : t.o = x.o
        · have HTO := Lib.hid hto
          clear hto
          go_wp2_with fail
          have hlk : lookV S x.i true = .tuple #[.agg #[.int .i64 t.a, .int .i64 t.o, .int .i64 t.v], .bool true] := by simp only [lookV, HGT.out]; rfl
          have HLK := Lib.hid hlk
          clear hlk
          refine wp_region_mixF (af := ?af2) #[.int .i64 0, .int .i64 0, .int .i64 0] 95 [true, true, true, true, true, true, true, true, true, true, false, false, false] [false, false, false, false, false, false, false, false, false, false, false, false, true] 43 0 (C := Ext w2) (by kernel_rfl) rfl (by kernel_rfl) (fun _ _ h e => Ext.trans h e) (Ext.refl w2).drew ?q ?r
          case q =>
            intro w' hw'
            obtain ⟨y, rfl⟩ := ext_of hw'
            have hlk2 : ∀ y2 : ExtOf y.val, (Instr.lookup 88 (.map (some bM)) (.int .i64 x.i) true).run Try.prog y2.val = .ok (.tuple #[.agg #[.int .i64 t.a, .int .i64 t.o, .int .i64 t.v], .bool true]) y2.val := fun y2 => by
              rw [← HLK.out]
              exact run_lookup Try.underlying88 Try.underlying3 zero_int (HM2.out.ext (y.ext.trans y2.ext)) x.i true
            simp only [pickT, if_true, if_false, Bool.false_eq_true]
            repeat (go_big_quiet_step (fail))
            exact rfl
          case r =>
            simp only [restL, if_true, if_false, Bool.false_eq_true]
            refine ⟨fun a w => by simp [go_sem], ?_⟩
            intro x1 gT hgT hzT
            intro x3
            have e3 : Ext w2 x3.val := ((Ext.refl w2).drew.val x1).val x3
            go_wp2_with (refine wpList_store_row rfl 95 _ _ rfl gT _ rfl rfl 95 _ (heap_ext hzT x3.ext) (info_tm_int _ _ _) rfl (by simp [Value.oneCell']) ?_)
            refine ⟨e3.setRow hgT _, ?_⟩
            refine ⟨_, .inl ⟨rfl, fun w _ => ⟨rfl, rfl⟩⟩, ?_⟩
            intro x4
            have eT := heap_ext (setRow_heap _ _ _ #[.int .i64 t.a, .int .i64 t.o, .int .i64 t.v] _ _ (heap_ext hzT x3.ext)) x4.ext
            have e4 : Ext w2 x4.val := (e3.setRow hgT _).val x4
            generalize x4.val = w3 at eT e4 ⊢
            clear x4 x3 x1 hzT e3
            have hct3 := fun j => cell_of_row w3 _ j _ _ _ eT
            have lt3 : gT < w3.heap.size := (Array.getElem?_eq_some_iff.1 eT).1
            have hts3 := heap_ext HTS.out e4
            have hcs3 := fun j => cell_of_row w3 _ j _ _ _ hts3
            have ls3 : w1.heap.size < w3.heap.size := (Array.getElem?_eq_some_iff.1 hts3).1
            have hb3 := heap_ext HB2.out e4
            have hcb3 := fun j => cell_of_row w3 _ j _ _ _ hb3
            have lb3 : bW < w3.heap.size := (Array.getElem?_eq_some_iff.1 hb3).1
            have HB3 := Lib.hid hb3
            have HM3 := Lib.hid (HM2.out.ext e4)
            have HH3 := Lib.hid (HH2.out.ext e4)
            have HK3 := Lib.hid (HK2.out.ext e4)
            clear eT hts3 hb3 e4 hcb2 hcs2 HLK
            have hto : (t.o == x.o) = true := by simp [HTO.out]
            go_wp2_with fail
            go_ret2
            have hF0 : firstL S L.length L = x :: Lt := by
              rw [← HF.out]
              obtain ⟨f', rfl⟩ : ∃ f', f = f' + 1 := ⟨f - 1, by simp at hf; omega⟩
              show (match getT S x.i with | some t => if t.o = x.o then x :: Lt else firstL S f' (popH (x :: Lt)) | none => firstL S f' (popH (x :: Lt))) = _
              rw [HGT.out]
              exact if_pos HTO.out
            refine ⟨by simp only [hF0]; rfl, vc, ?_, HK3.out, HR.out⟩
            simp only [hF0]
            exact ⟨HB3.out, HM3.out, HH3.out⟩
        · have HTO := Lib.hid hto
          clear hto
          go_wp2_with fail
          have hlk : lookV S x.i true = .tuple #[.agg #[.int .i64 t.a, .int .i64 t.o, .int .i64 t.v], .bool true] := by simp only [lookV, HGT.out]; rfl
          have HLK := Lib.hid hlk
          clear hlk
          refine wp_region_mixF (af := ?af3) #[.int .i64 0, .int .i64 0, .int .i64 0] 95 [true, true, true, true, true, true, true, true, true, true, false, false, false] [false, false, false, false, false, false, false, false, false, false, false, false, true] 43 0 (C := Ext w2) (by kernel_rfl) rfl (by kernel_rfl) (fun _ _ h e => Ext.trans h e) (Ext.refl w2).drew ?q ?r
          case q =>
            intro w' hw'
            obtain ⟨y, rfl⟩ := ext_of hw'
            have hlk2 : ∀ y2 : ExtOf y.val, (Instr.lookup 88 (.map (some bM)) (.int .i64 x.i) true).run Try.prog y2.val = .ok (.tuple #[.agg #[.int .i64 t.a, .int .i64 t.o, .int .i64 t.v], .bool true]) y2.val := fun y2 => by
              rw [← HLK.out]
              exact run_lookup Try.underlying88 Try.underlying3 zero_int (HM2.out.ext (y.ext.trans y2.ext)) x.i true
            simp only [pickT, if_true, if_false, Bool.false_eq_true]
            repeat (go_big_quiet_step (fail))
            exact rfl
          case r =>
            simp only [restL, if_true, if_false, Bool.false_eq_true]
            refine ⟨fun a w => by simp [go_sem], ?_⟩
            intro x1 gT hgT hzT
            intro x3
            have e3 : Ext w2 x3.val := ((Ext.refl w2).drew.val x1).val x3
            go_wp2_with (refine wpList_store_row rfl 95 _ _ rfl gT _ rfl rfl 95 _ (heap_ext hzT x3.ext) (info_tm_int _ _ _) rfl (by simp [Value.oneCell']) ?_)
            refine ⟨e3.setRow hgT _, ?_⟩
            refine ⟨_, .inl ⟨rfl, fun w _ => ⟨rfl, rfl⟩⟩, ?_⟩
            intro x4
            have eT := heap_ext (setRow_heap _ _ _ #[.int .i64 t.a, .int .i64 t.o, .int .i64 t.v] _ _ (heap_ext hzT x3.ext)) x4.ext
            have e4 : Ext w2 x4.val := (e3.setRow hgT _).val x4
            generalize x4.val = w3 at eT e4 ⊢
            clear x4 x3 x1 hzT e3
            have hct3 := fun j => cell_of_row w3 _ j _ _ _ eT
            have lt3 : gT < w3.heap.size := (Array.getElem?_eq_some_iff.1 eT).1
            have hts3 := heap_ext HTS.out e4
            have hcs3 := fun j => cell_of_row w3 _ j _ _ _ hts3
            have ls3 : w1.heap.size < w3.heap.size := (Array.getElem?_eq_some_iff.1 hts3).1
            have hb3 := heap_ext HB2.out e4
            have hcb3 := fun j => cell_of_row w3 _ j _ _ _ hb3
            have lb3 : bW < w3.heap.size := (Array.getElem?_eq_some_iff.1 hb3).1
            have HB3 := Lib.hid hb3
            have HM3 := Lib.hid (HM2.out.ext e4)
            have HH3 := Lib.hid (HH2.out.ext e4)
            have HK3 := Lib.hid (HK2.out.ext e4)
            clear eT hts3 hb3 e4 hcb2 hcs2 HLK
            have hto : (t.o == x.o) = false := by simp [HTO.out]
            go_wp2_with fail
            obtain ⟨l, hll⟩ : ∃ l, (x :: Lt)[Lt.length]? = some l := ⟨_, List.getElem?_eq_getElem (by simp)⟩
            refine (pop_int B bH vc (x :: Lt) Lt.length x l m w3 HH3.out (by omega) (by have := HK3.out.size; omega) rfl (by simp at hl; omega) rfl hll).mono ?_
            rintro e w5 ⟨rfl, v5, hH5, hk5, hr5⟩
            have hpop : downH Lt.length (((x :: Lt).set 0 l).take Lt.length) 0 = popH (x :: Lt) := by
              unfold popH
              simp only [List.length_cons, Nat.add_sub_cancel]
              rw [hll]
            rw [hpop] at hH5
            have hgB := rowB_ge HH3.out
            have nW : bW ∉ bH :: rowB vc := fun h => by
              rcases List.mem_cons.1 h with h | h
              · omega
              · have := hgB _ h; omega
            have nM : bM ∉ bH :: rowB vc := fun h => by
              rcases List.mem_cons.1 h with h | h
              · omega
              · have := hgB _ h; omega
            have HW5 := Lib.hid (show WheelW 91 43 ⟨bM, bH, bW, B, pM, pH, pW⟩ v5 ⟨now, ids, ord, S, popH (x :: Lt), m⟩ w5 from ⟨(hk5.block bW lb3 nW).trans HB3.out, HM3.out.same (hk5.block bM HM3.out.lt nM), hH5⟩)
            have HK5 := Lib.hid (HK3.out.trans (hk5.mono (fun k hk => by rw [HR.out] at hk; exact hk)))
            have HR5 := Lib.hid (hr5.trans HR.out)
            have hl' : (popH (x :: Lt)).length = Lt.length := popH_length
            have hff : firstL S f (x :: Lt) = firstL S (f - 1) (popH (x :: Lt)) := by
              obtain ⟨f', rfl⟩ : ∃ f', f = f' + 1 := ⟨f - 1, by simp at hf; omega⟩
              show (match getT S x.i with | some t => if t.o = x.o then x :: Lt else firstL S f' (popH (x :: Lt)) | none => firstL S f' (popH (x :: Lt))) = _
              rw [HGT.out]; exact if_neg HTO.out
            have HFF := Lib.hid (hff.symm.trans HF.out)
            clear hH5 hk5 hr5 hpop hll hff hcb3 hct3 hcs3 lb3 ls3 lt3
            go_wp2_with fail
            go_roundg (gk - 1)
            case rel => exact ⟨f - 1, popH (x :: Lt), v5, by simp at hg; omega, by simp at hf; omega, by simp at hl; omega, HFF, HW5, HK5, HR5⟩
            case measure => simp at hg; omega

theorem zero_int64 (w : World) : (zeroValue 117).run Try.prog w = .ok (.agg #[.int .i64 0, .int .i64 0, .int .i64 0]) w := by kernel_rfl
theorem info_tm_int64 (a b c : Value) : (Try.prog.info? 117).map (·.size) = some (#[a, b, c] : Array Value).size := by
  rw [show (#[a, b, c] : Array Value).size = 3 from rfl]
  kernel_rfl

set_option maxRecDepth 100000 in
set_option maxHeartbeats 8000000 in
theorem first_int64 (p : At) (v : Value) (W : Wh) (w : World) (hW : WheelW 85 39 p v W w) (hB : p.B ≤ w.heap.size) (hL : W.L.length ≤ 100000) :
    Calls Try.prog 62 #[.pointer (some ⟨p.bW, 0, none⟩)] w (FoundW 85 39 p v W w) := by
  obtain ⟨now, ids, ord, S, L, m⟩ := W
  obtain ⟨bM, bH, bW, B, pM, pH, pW⟩ := p
  simp only at hB hL ⊢
  have HW := Lib.hid hW
  clear hW
  go_enter Try.func62, Try.ntmps62
  go_wp2_with fail
  go_loopg [5] L.length (fun g _ wr => ∃ (f : Nat) (Lc : List Hd) (vc : Value), Lc.length ≤ g ∧ Lc.length ≤ f ∧ Lc.length ≤ L.length ∧ Hid (firstL S f Lc = firstL S L.length L) ∧ Hid (WheelW 85 39 ⟨bM, bH, bW, B, pM, pH, pW⟩ vc ⟨now, ids, ord, S, Lc, m⟩ wr) ∧ Hid (Keeps (bH :: rowB v) w wr) ∧ Hid (rowB vc = rowB v))
  case atStart => exact ⟨L.length, L, v, Nat.le_refl _, Nat.le_refl _, Nat.le_refl _, Lib.hid rfl, HW, Lib.hid (Keeps.refl _ _), Lib.hid rfl⟩
  case round =>
    obtain ⟨f, Lc, vc, hg, hf, hl, HF, HWc, HK, HR⟩ := hrel
    clear HW
    obtain ⟨hb, hM, hH⟩ := HWc.out
    simp only at hb hM hH
    have lb : bW < wr.heap.size := (Array.getElem?_eq_some_iff.1 hb).1
    have hcb := fun j => cell_of_row wr _ j _ _ _ hb
    have HB := Lib.hid hb
    have HM := Lib.hid hM
    have HH := Lib.hid hH
    clear hb hM hH
    cases Lc with
    | nil =>
      go_wp2_with fail
      refine (peek_any B bH 39 vc [] m wr HH.out (by simp)).mono ?_
      rintro e w1 ⟨rfl, hx1⟩
      simp only [peekV]
      go_wp2_with (refine wpList_store_row rfl 78 _ _ rfl w1.heap.size _ rfl rfl 78 _ (heap_new rfl) (info_slot _ _ _) rfl (by simp [Value.oneCell']) ?_)
      go_ret2
      have hF0 : firstL S L.length L = [] := by rw [← HF.out]; cases f <;> rfl
      have eX : Ext wr ((w1.alloc (.cells #[.int .i64 0, .int .i64 0, .int .i64 0] 78)).setRow w1.heap.size #[.int .i64 0, .int .i64 0, .int .i64 0]) := (hx1.alloc _).setRow hx1.size _
      refine ⟨by simp only [hF0]; rfl, vc, ?_, HK.out.ext eX, HR.out⟩
      simp only [hF0]
      exact HWc.out.ext eX
    | cons x Lt =>
      go_wp2_with fail
      refine (peek_any B bH 39 vc (x :: Lt) m wr HH.out (by omega)).mono ?_
      rintro e w1 ⟨rfl, hx1⟩
      simp only [peekV]
      go_wp2_with (refine wpList_store_row rfl 78 _ _ rfl w1.heap.size _ rfl rfl 78 _ (heap_new rfl) (info_slot _ _ _) rfl (by simp [Value.oneCell']) (unHd ?_))
      have eX : Ext wr ((w1.alloc (.cells #[.int .i64 0, .int .i64 0, .int .i64 0] 78)).setRow w1.heap.size #[.int .i64 x.a, .int .i64 x.o, .int .i64 x.i]) := (hx1.alloc _).setRow hx1.size _
      have eT := setRow_heap _ _ _ #[.int .i64 x.a, .int .i64 x.o, .int .i64 x.i] _ _ (heap_new (w := w1) (o := .cells #[.int .i64 0, .int .i64 0, .int .i64 0] 78) rfl)
      generalize World.setRow _ _ _ = w2 at eX eT ⊢
      have hcs2 := fun j => cell_of_row w2 _ j _ _ _ eT
      have ls2 : w1.heap.size < w2.heap.size := (Array.getElem?_eq_some_iff.1 eT).1
      have hb2 := heap_ext HB.out eX
      have hcb2 := fun j => cell_of_row w2 _ j _ _ _ hb2
      have lb2 : bW < w2.heap.size := (Array.getElem?_eq_some_iff.1 hb2).1
      have HTS := Lib.hid eT
      have HB2 := Lib.hid hb2
      have HM2 := Lib.hid (HM.out.ext eX)
      have HH2 := Lib.hid (HH.out.ext eX)
      have HK2 := Lib.hid (HK.out.ext eX)
      clear eX eT hb2 hx1 hcb lb HB HM HH HK HWc
      unfold Hd2
      rcases hgt : getT S x.i with _ | t
      · have HGT := Lib.hid hgt
        clear hgt
        go_wp2_with fail
        have hlk : lookV S x.i true = .tuple #[.agg #[.int .i64 0, .int .i64 0, .int .i64 0], .bool false] := by simp only [lookV, HGT.out]
        have HLK := Lib.hid hlk
        clear hlk
        refine wp_region_mixF (af := ?af1) #[.int .i64 0, .int .i64 0, .int .i64 0] 117 [true, true, true, true, true, true, true, true, true, true, false, false, false] [false, false, false, false, false, false, false, false, false, false, false, false, true] 43 0 (C := Ext w2) (by kernel_rfl) rfl (by kernel_rfl) (fun _ _ h e => Ext.trans h e) (Ext.refl w2).drew ?q ?r
        case q =>
          intro w' hw'
          obtain ⟨y, rfl⟩ := ext_of hw'
          have hlk2 : ∀ y2 : ExtOf y.val, (Instr.lookup 80 (.map (some bM)) (.int .i64 x.i) true).run Try.prog y2.val = .ok (.tuple #[.agg #[.int .i64 0, .int .i64 0, .int .i64 0], .bool false]) y2.val := fun y2 => by
            rw [← HLK.out]
            exact run_lookup Try.underlying80 Try.underlying3 zero_int64 (HM2.out.ext (y.ext.trans y2.ext)) x.i true
          simp only [pickT, if_true, if_false, Bool.false_eq_true]
          repeat (go_big_quiet_step (fail))
          exact rfl
        case r =>
          simp only [restL, if_true, if_false, Bool.false_eq_true]
          refine ⟨fun a w => by simp [go_sem], ?_⟩
          intro x1 gT hgT hzT
          intro x3
          have e3 : Ext w2 x3.val := ((Ext.refl w2).drew.val x1).val x3
          go_wp2_with (refine wpList_store_row rfl 117 _ _ rfl gT _ rfl rfl 117 _ (heap_ext hzT x3.ext) (info_tm_int64 _ _ _) rfl (by simp [Value.oneCell']) ?_)
          refine ⟨e3.setRow hgT _, ?_⟩
          refine ⟨_, .inl ⟨rfl, fun w _ => ⟨rfl, rfl⟩⟩, ?_⟩
          intro x4
          have eT := heap_ext (setRow_heap _ _ _ #[.int .i64 0, .int .i64 0, .int .i64 0] _ _ (heap_ext hzT x3.ext)) x4.ext
          have e4 : Ext w2 x4.val := (e3.setRow hgT _).val x4
          generalize x4.val = w3 at eT e4 ⊢
          clear x4 x3 x1 hzT e3
          have hct3 := fun j => cell_of_row w3 _ j _ _ _ eT
          have lt3 : gT < w3.heap.size := (Array.getElem?_eq_some_iff.1 eT).1
          have hts3 := heap_ext HTS.out e4
          have hcs3 := fun j => cell_of_row w3 _ j _ _ _ hts3
          have ls3 : w1.heap.size < w3.heap.size := (Array.getElem?_eq_some_iff.1 hts3).1
          have hb3 := heap_ext HB2.out e4
          have hcb3 := fun j => cell_of_row w3 _ j _ _ _ hb3
          have lb3 : bW < w3.heap.size := (Array.getElem?_eq_some_iff.1 hb3).1
          have HB3 := Lib.hid hb3
          have HM3 := Lib.hid (HM2.out.ext e4)
          have HH3 := Lib.hid (HH2.out.ext e4)
          have HK3 := Lib.hid (HK2.out.ext e4)
          clear eT hts3 hb3 e4 hcb2 hcs2 HLK
          go_wp2_with fail
          obtain ⟨l, hll⟩ : ∃ l, (x :: Lt)[Lt.length]? = some l := ⟨_, List.getElem?_eq_getElem (by simp)⟩
          refine (pop_int64 B bH vc (x :: Lt) Lt.length x l m w3 HH3.out (by omega) (by have := HK3.out.size; omega) rfl (by simp at hl; omega) rfl hll).mono ?_
          rintro e w5 ⟨rfl, v5, hH5, hk5, hr5⟩
          have hpop : downH Lt.length (((x :: Lt).set 0 l).take Lt.length) 0 = popH (x :: Lt) := by
            unfold popH
            simp only [List.length_cons, Nat.add_sub_cancel]
            rw [hll]
          rw [hpop] at hH5
          have hgB := rowB_ge HH3.out
          have nW : bW ∉ bH :: rowB vc := fun h => by
            rcases List.mem_cons.1 h with h | h
            · omega
            · have := hgB _ h; omega
          have nM : bM ∉ bH :: rowB vc := fun h => by
            rcases List.mem_cons.1 h with h | h
            · omega
            · have := hgB _ h; omega
          have HW5 := Lib.hid (show WheelW 85 39 ⟨bM, bH, bW, B, pM, pH, pW⟩ v5 ⟨now, ids, ord, S, popH (x :: Lt), m⟩ w5 from ⟨(hk5.block bW lb3 nW).trans HB3.out, HM3.out.same (hk5.block bM HM3.out.lt nM), hH5⟩)
          have HK5 := Lib.hid (HK3.out.trans (hk5.mono (fun k hk => by rw [HR.out] at hk; exact hk)))
          have HR5 := Lib.hid (hr5.trans HR.out)
          have hl' : (popH (x :: Lt)).length = Lt.length := popH_length
          have hff : firstL S f (x :: Lt) = firstL S (f - 1) (popH (x :: Lt)) := by
            obtain ⟨f', rfl⟩ : ∃ f', f = f' + 1 := ⟨f - 1, by simp at hf; omega⟩
            show (match getT S x.i with | some t => if t.o = x.o then x :: Lt else firstL S f' (popH (x :: Lt)) | none => firstL S f' (popH (x :: Lt))) = _
            rw [HGT.out]; rfl
          have HFF := Lib.hid (hff.symm.trans HF.out)
          clear hH5 hk5 hr5 hpop hll hff hcb3 hct3 hcs3 lb3 ls3 lt3
          go_wp2_with fail
          go_roundg (gk - 1)
          case rel => exact ⟨f - 1, popH (x :: Lt), v5, by simp at hg; omega, by simp at hf; omega, by simp at hl; omega, HFF, HW5, HK5, HR5⟩
          case measure => simp at hg; omega
      · have HGT := Lib.hid hgt
        clear hgt
        by_cases hto : t.o = x.o
        · have HTO := Lib.hid hto
          clear hto
          go_wp2_with fail
          have hlk : lookV S x.i true = .tuple #[.agg #[.int .i64 t.a, .int .i64 t.o, .int .i64 t.v], .bool true] := by simp only [lookV, HGT.out]; rfl
          have HLK := Lib.hid hlk
          clear hlk
          refine wp_region_mixF (af := ?af2) #[.int .i64 0, .int .i64 0, .int .i64 0] 117 [true, true, true, true, true, true, true, true, true, true, false, false, false] [false, false, false, false, false, false, false, false, false, false, false, false, true] 43 0 (C := Ext w2) (by kernel_rfl) rfl (by kernel_rfl) (fun _ _ h e => Ext.trans h e) (Ext.refl w2).drew ?q ?r
          case q =>
            intro w' hw'
            obtain ⟨y, rfl⟩ := ext_of hw'
            have hlk2 : ∀ y2 : ExtOf y.val, (Instr.lookup 80 (.map (some bM)) (.int .i64 x.i) true).run Try.prog y2.val = .ok (.tuple #[.agg #[.int .i64 t.a, .int .i64 t.o, .int .i64 t.v], .bool true]) y2.val := fun y2 => by
              rw [← HLK.out]
              exact run_lookup Try.underlying80 Try.underlying3 zero_int64 (HM2.out.ext (y.ext.trans y2.ext)) x.i true
            simp only [pickT, if_true, if_false, Bool.false_eq_true]
            repeat (go_big_quiet_step (fail))
            exact rfl
          case r =>
            simp only [restL, if_true, if_false, Bool.false_eq_true]
            refine ⟨fun a w => by simp [go_sem], ?_⟩
            intro x1 gT hgT hzT
            intro x3
            have e3 : Ext w2 x3.val := ((Ext.refl w2).drew.val x1).val x3
            go_wp2_with (refine wpList_store_row rfl 117 _ _ rfl gT _ rfl rfl 117 _ (heap_ext hzT x3.ext) (info_tm_int64 _ _ _) rfl (by simp [Value.oneCell']) ?_)
            refine ⟨e3.setRow hgT _, ?_⟩
            refine ⟨_, .inl ⟨rfl, fun w _ => ⟨rfl, rfl⟩⟩, ?_⟩
            intro x4
            have eT := heap_ext (setRow_heap _ _ _ #[.int .i64 t.a, .int .i64 t.o, .int .i64 t.v] _ _ (heap_ext hzT x3.ext)) x4.ext
            have e4 : Ext w2 x4.val := (e3.setRow hgT _).val x4
            generalize x4.val = w3 at eT e4 ⊢
            clear x4 x3 x1 hzT e3
            have hct3 := fun j => cell_of_row w3 _ j _ _ _ eT
            have lt3 : gT < w3.heap.size := (Array.getElem?_eq_some_iff.1 eT).1
            have hts3 := heap_ext HTS.out e4
            have hcs3 := fun j => cell_of_row w3 _ j _ _ _ hts3
            have ls3 : w1.heap.size < w3.heap.size := (Array.getElem?_eq_some_iff.1 hts3).1
            have hb3 := heap_ext HB2.out e4
            have hcb3 := fun j => cell_of_row w3 _ j _ _ _ hb3
            have lb3 : bW < w3.heap.size := (Array.getElem?_eq_some_iff.1 hb3).1
            have HB3 := Lib.hid hb3
            have HM3 := Lib.hid (HM2.out.ext e4)
            have HH3 := Lib.hid (HH2.out.ext e4)
            have HK3 := Lib.hid (HK2.out.ext e4)
            clear eT hts3 hb3 e4 hcb2 hcs2 HLK
            have hto : (t.o == x.o) = true := by simp [HTO.out]
            go_wp2_with fail
            go_ret2
            have hF0 : firstL S L.length L = x :: Lt := by
              rw [← HF.out]
              obtain ⟨f', rfl⟩ : ∃ f', f = f' + 1 := ⟨f - 1, by simp at hf; omega⟩
              show (match getT S x.i with | some t => if t.o = x.o then x :: Lt else firstL S f' (popH (x :: Lt)) | none => firstL S f' (popH (x :: Lt))) = _
              rw [HGT.out]
              exact if_pos HTO.out
            refine ⟨by simp only [hF0]; rfl, vc, ?_, HK3.out, HR.out⟩
            simp only [hF0]
            exact ⟨HB3.out, HM3.out, HH3.out⟩
        · have HTO := Lib.hid hto
          clear hto
          go_wp2_with fail
          have hlk : lookV S x.i true = .tuple #[.agg #[.int .i64 t.a, .int .i64 t.o, .int .i64 t.v], .bool true] := by simp only [lookV, HGT.out]; rfl
          have HLK := Lib.hid hlk
          clear hlk
          refine wp_region_mixF (af := ?af3) #[.int .i64 0, .int .i64 0, .int .i64 0] 117 [true, true, true, true, true, true, true, true, true, true, false, false, false] [false, false, false, false, false, false, false, false, false, false, false, false, true] 43 0 (C := Ext w2) (by kernel_rfl) rfl (by kernel_rfl) (fun _ _ h e => Ext.trans h e) (Ext.refl w2).drew ?q ?r
          case q =>
            intro w' hw'
            obtain ⟨y, rfl⟩ := ext_of hw'
            have hlk2 : ∀ y2 : ExtOf y.val, (Instr.lookup 80 (.map (some bM)) (.int .i64 x.i) true).run Try.prog y2.val = .ok (.tuple #[.agg #[.int .i64 t.a, .int .i64 t.o, .int .i64 t.v], .bool true]) y2.val := fun y2 => by
              rw [← HLK.out]
              exact run_lookup Try.underlying80 Try.underlying3 zero_int64 (HM2.out.ext (y.ext.trans y2.ext)) x.i true
            simp only [pickT, if_true, if_false, Bool.false_eq_true]
            repeat (go_big_quiet_step (fail))
            exact rfl
          case r =>
            simp only [restL, if_true, if_false, Bool.false_eq_true]
            refine ⟨fun a w => by simp [go_sem], ?_⟩
            intro x1 gT hgT hzT
            intro x3
            have e3 : Ext w2 x3.val := ((Ext.refl w2).drew.val x1).val x3
            go_wp2_with (refine wpList_store_row rfl 117 _ _ rfl gT _ rfl rfl 117 _ (heap_ext hzT x3.ext) (info_tm_int64 _ _ _) rfl (by simp [Value.oneCell']) ?_)
            refine ⟨e3.setRow hgT _, ?_⟩
            refine ⟨_, .inl ⟨rfl, fun w _ => ⟨rfl, rfl⟩⟩, ?_⟩
            intro x4
            have eT := heap_ext (setRow_heap _ _ _ #[.int .i64 t.a, .int .i64 t.o, .int .i64 t.v] _ _ (heap_ext hzT x3.ext)) x4.ext
            have e4 : Ext w2 x4.val := (e3.setRow hgT _).val x4
            generalize x4.val = w3 at eT e4 ⊢
            clear x4 x3 x1 hzT e3
            have hct3 := fun j => cell_of_row w3 _ j _ _ _ eT
            have lt3 : gT < w3.heap.size := (Array.getElem?_eq_some_iff.1 eT).1
            have hts3 := heap_ext HTS.out e4
            have hcs3 := fun j => cell_of_row w3 _ j _ _ _ hts3
            have ls3 : w1.heap.size < w3.heap.size := (Array.getElem?_eq_some_iff.1 hts3).1
            have hb3 := heap_ext HB2.out e4
            have hcb3 := fun j => cell_of_row w3 _ j _ _ _ hb3
            have lb3 : bW < w3.heap.size := (Array.getElem?_eq_some_iff.1 hb3).1
            have HB3 := Lib.hid hb3
            have HM3 := Lib.hid (HM2.out.ext e4)
            have HH3 := Lib.hid (HH2.out.ext e4)
            have HK3 := Lib.hid (HK2.out.ext e4)
            clear eT hts3 hb3 e4 hcb2 hcs2 HLK
            have hto : (t.o == x.o) = false := by simp [HTO.out]
            go_wp2_with fail
            obtain ⟨l, hll⟩ : ∃ l, (x :: Lt)[Lt.length]? = some l := ⟨_, List.getElem?_eq_getElem (by simp)⟩
            refine (pop_int64 B bH vc (x :: Lt) Lt.length x l m w3 HH3.out (by omega) (by have := HK3.out.size; omega) rfl (by simp at hl; omega) rfl hll).mono ?_
            rintro e w5 ⟨rfl, v5, hH5, hk5, hr5⟩
            have hpop : downH Lt.length (((x :: Lt).set 0 l).take Lt.length) 0 = popH (x :: Lt) := by
              unfold popH
              simp only [List.length_cons, Nat.add_sub_cancel]
              rw [hll]
            rw [hpop] at hH5
            have hgB := rowB_ge HH3.out
            have nW : bW ∉ bH :: rowB vc := fun h => by
              rcases List.mem_cons.1 h with h | h
              · omega
              · have := hgB _ h; omega
            have nM : bM ∉ bH :: rowB vc := fun h => by
              rcases List.mem_cons.1 h with h | h
              · omega
              · have := hgB _ h; omega
            have HW5 := Lib.hid (show WheelW 85 39 ⟨bM, bH, bW, B, pM, pH, pW⟩ v5 ⟨now, ids, ord, S, popH (x :: Lt), m⟩ w5 from ⟨(hk5.block bW lb3 nW).trans HB3.out, HM3.out.same (hk5.block bM HM3.out.lt nM), hH5⟩)
            have HK5 := Lib.hid (HK3.out.trans (hk5.mono (fun k hk => by rw [HR.out] at hk; exact hk)))
            have HR5 := Lib.hid (hr5.trans HR.out)
            have hl' : (popH (x :: Lt)).length = Lt.length := popH_length
            have hff : firstL S f (x :: Lt) = firstL S (f - 1) (popH (x :: Lt)) := by
              obtain ⟨f', rfl⟩ : ∃ f', f = f' + 1 := ⟨f - 1, by simp at hf; omega⟩
              show (match getT S x.i with | some t => if t.o = x.o then x :: Lt else firstL S f' (popH (x :: Lt)) | none => firstL S f' (popH (x :: Lt))) = _
              rw [HGT.out]; exact if_neg HTO.out
            have HFF := Lib.hid (hff.symm.trans HF.out)
            clear hH5 hk5 hr5 hpop hll hff hcb3 hct3 hcs3 lb3 ls3 lt3
            go_wp2_with fail
            go_roundg (gk - 1)
            case rel => exact ⟨f - 1, popH (x :: Lt), v5, by simp at hg; omega, by simp at hf; omega, by simp at hl; omega, HFF, HW5, HK5, HR5⟩
            case measure => simp at hg; omega
end Go.Proofs.Ytibdplfdmncgiaa

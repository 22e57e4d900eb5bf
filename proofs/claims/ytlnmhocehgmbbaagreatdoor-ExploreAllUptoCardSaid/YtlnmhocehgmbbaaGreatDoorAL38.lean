/- No condition. -/
import Derived.Test.YtlnmhocehgmbbaaGreatDoorAL37
import Derived.ProofKit
import Derived.Deep.Slices
import Derived.Lib.SmallJoins
import Derived.JoinedCond
import Derived.OpenShut
import Derived.Deep.DeepHandedRow
import Derived.Lib.LaidTab
import Derived.Stop.LaidErr
import Derived.MakeChecks
set_option linter.all false
set_option maxRecDepth 100000
set_option maxHeartbeats 12800000
namespace Go.Proofs.YtlnmhocehgmbbaaGreatDoor
open Go.RowKit
attribute [local go_sem ↓] eql_lEq eql_sEq eql_eEq eql_oEq neq_lEq neq_sEq neq_eEq neq_oEq eql_vEq neq_vEq eql_nil cen_eql
attribute [local go_sem] ExtOf.cell ExtOf.frozen ExtOf.lt ExtOf.le
attribute [local go_sem high] ExtOf.cell2 ExtOf.frozen2 ExtOf.lt2 ExtOf.cell3 ExtOf.frozen3 ExtOf.lt3
theorem xrow_c {w:World} {B:Nat} {L:List (Ex×Value)} {v:Value} {i:Nat} {p:Ex×Value} (h:XRow w B L v) (hp:L[i]?=some p) :
 ∃ g cap cur,v = .slice (some ⟨g,0,none⟩) L.length cap∧w.heap[g]?=some (.cells cur 33 (0,0))∧cur[i*26+25]?=some p.2:=by
 have hi:=zM hp
 obtain ⟨_,⟨_,h0⟩|⟨g,cap,cur,hv,hb,hg,hn,hm,hs,hx⟩⟩:=h
 ·omega
 refine ⟨g,cap,cur,hv,hg,?_⟩
 have h2:=flat_get exC 26 exC_len L i p hp 25 (by omega)
 rw [show (exC p)[25]?=some p.2 from rfl,←hx,List.getElem?_take_of_lt (by omega)] at h2
 simpa using h2
theorem lw_all (x:Ex) (v:Value) (r:Rg) (tv:Value) (w:World) (hR:Hrd w x v) (hv:v = .slice none 0 0∨∃ a n c,v = .slice (some a) n c) (hT:Row w 1 tv r.t.length (r.t.map Value.string)) (htv:tv = .slice none 0 0∨∃ a n c,tv = .slice (some a) n c) (hx:RngX x) (htab:TabW w) :
 Calls Tryz.prog 3 #[.agg (x.arr v),.agg (r.arr tv)] w fun e w'=>e = .returned (.bool true)∧Ext w w':=by
 have HR:=zd hR
 have HVV:=zd hv
 have HT:=zd hT
 have HTV:=zd htv
 have HX:=zd hx
 have HTAB:=zd htab
 clear hR hv hT htv hx htab
 go_enter Tryz.func3,Tryz.ntmps3
 go_upto_region 1 with fail
 refine wp_forget (fun w'=>∃ gx gr,Hid (gx=w.heap.size∧gr=w.heap.size+1)∧Hid (ExAt w' gx x v)∧Hid (RgAt w' gr r tv)∧Hid (Ext w w')) ⟨_,_,zd ⟨rfl,rfl⟩,zd (two_new zR).1,zd (two_new zR).2.1,zd (two_new zR).2.2⟩ ?_
 rintro W1 ⟨gx,gr,hgx,HXA,HRA,HE1⟩
 rw [←hgx.out.2,←hgx.out.1]
 clear hgx
 have HLG:=zd (lw_largeX x v r tv W1 (HR.out.ext HE1.out) (HT.out.ext HE1.out))
 go_wp2_with (first|((with_reducible refine wpList_load_rowG ?_ 33 (.tmp 2) ?_ gx ?_ 33 (x.arr v) (0,0) _ ?_ zu33 ?_ ?_ ?_);(·rfl);(·rfl);(·rfl);(·exact HXA.out);(·rfl);(·exact info_ex))|((with_reducible refine wpList_load_rowG ?_ 36 (.tmp 3) ?_ gr ?_ 36 (r.arr tv) (0,0) _ ?_ zu36 ?_ ?_ ?_);(·rfl);(·rfl);(·rfl);(·exact HRA.out);(·rfl);(·exact info_range)))
 refine HLG.out.mono ?_
 rintro e w4 ⟨b,rfl,hb,hx4⟩
 have HE4:Hid (Ext w w4):=zd (HE1.out.trans hx4)
 have HX4:=zd hx4
 clear hx4 HLG
 rcases b
 case true=>
  clear hb
  go_wp2_with fail
  refine (lw_live _ (HTAB.out.ext HE4.out)).mono ?_
  rintro e w9 ⟨rfl,hx9⟩
  go_wp2_with fail
  go_ret
  exact ⟨rfl,HE4.out.trans hx9⟩
 obtain ⟨hxl,hrt,hrm⟩:=hb rfl
 clear hb
 have HOWN:=zd (lw_own x v r tv w4 (HR.out.ext HE4.out) HVV.out (by omega) (HT.out.ext HE4.out) HTV.out (by omega))
 go_upto_region 4 with (first|((with_reducible refine wpList_load_rowG ?_ 33 (.tmp 2) ?_ gx ?_ 33 (x.arr v) (0,0) _ ?_ zu33 ?_ ?_ ?_);(·rfl);(·rfl);(·rfl);(·exact (HXA.out.ext HX4.out));(·rfl);(·exact info_ex))|((with_reducible refine wpList_load_rowG ?_ 36 (.tmp 3) ?_ gr ?_ 36 (r.arr tv) (0,0) _ ?_ zu36 ?_ ?_ ?_);(·rfl);(·rfl);(·rfl);(·exact (HRA.out.ext HX4.out));(·rfl);(·exact info_range))|(go_at_call 10;refine HOWN.out.mono ?_;rintro e w5 ⟨v1,tv1,rfl,ho,ht,hx5⟩;have HO:=zd ho;have HT1:=zd ht;have HX5:=zd hx5;have hone:v1.oneCell'=true:=(by obtain ⟨sa,sn,hsv⟩:=own_sl ho;rw [hsv];rfl);have htone:tv1.oneCell'=true:=(by obtain ⟨sa,sn,hsv⟩:=own_sl ht;rw [hsv];rfl);clear ho ht hx5)|(refine wpList_store_row rfl 33 _ _ rfl w5.heap.size _ rfl rfl 33 _ (heap_ext (heap_new rfl) (zR.alloc _)) info_ex rfl (arr_one x hone) ?_)|(refine wpList_store_row rfl 36 _ _ rfl (w5.heap.size+1) _ rfl rfl 36 _ ((setRow_other _ _ _ _ (by omega)).trans (heap_new (by simp))) info_range rfl (rg_one r htone) ?_))
 have hsz5:w4.heap.size≤w5.heap.size:=HX5.out.size
 refine wp_forget (fun w'=>∃ g7 g8,Hid (g7=w5.heap.size)∧Hid (g8=w5.heap.size+1)∧Hid (ExAt w' g7 x v1)∧Hid (RgAt w' g8 r tv1)∧Hid (Ext w5 w')) ⟨_,_,zd rfl,zd rfl,zd ((setRow_other _ _ _ _ (by omega)).trans (setRow_heap _ _ _ (x.arr v1) _ _ (heap_ext (heap_new rfl) (zR.alloc _)))),zd (setRow_heap _ _ _ (r.arr tv1) _ _ ((setRow_other _ _ _ _ (by omega)).trans (heap_new (by simp)))),zd (((((Ext.refl w5).alloc _).alloc _).setRow (by omega) _).setRow (by omega) _)⟩ ?_
 rintro W6 ⟨g7,g8,e7,e8,HX7,HR8,HE6⟩
 rw [←e8.out,←e7.out]
 clear e7 e8 hsz5 hone htone
 have HEW6:Hid (Ext w W6):=zd (HE4.out.trans (HX5.out.trans HE6.out))
 have HXA6:Hid (ExAt W6 gx x v):=zd (HXA.out.ext (HX4.out.trans (HX5.out.trans HE6.out)))
 have HRA6:Hid (RgAt W6 gr r tv):=zd (HRA.out.ext (HX4.out.trans (HX5.out.trans HE6.out)))
 have HO6:=zd (HO.out.ext HE6.out)
 have HT6:Hid (Row W6 1 tv1 r.t.length (r.t.map Value.string)):=zd (Row.of_own (own_ext HT1.out HE6.out))
 have hG:=goD_eq (mostR r) (movesR evsS · r) x (show 1≤mostR r by unfold mostR;omega) (fun _ _ h=>moves_ok h)
 have hgn:=go_never (mostR r) (movesR evsS · r) x
 have hlen1:=all_le1 (mv:=(movesR evsS · r)) (x:=x) (show 1≤mostR r by unfold mostR;omega)
 have hmr:mostR r≤60:=by unfold mostR;omega
 have HAL:=zd (ex_all x v1 _ r tv1 W6 HO6.out (by omega) HT6.out (by omega) (by omega) HX.out (HTAB.out.ext HEW6.out))
 have HDA:=zd (fun w' (hw:Ext W6 w')=>rr_all x v r tv w' (HR.out.ext (HEW6.out.trans hw)) HVV.out (by omega) (HT.out.ext (HEW6.out.trans hw)) (by omega) (by omega))
 rw [hG.1] at hgn
 generalize goD (mostR r) (movesR evsS · r) x=G at hgn HDA
 obtain ⟨GL,GB⟩:=G
 generalize hA:allX (mostR r) (movesR evsS · r) x=A at HAL hgn hlen1
 obtain ⟨AL,AB⟩:=A
 simp only [Prod.mk.injEq,true_and] at hgn hlen1
 obtain ⟨hg1,hg2⟩:=hgn
 subst hg1
 subst hg2
 clear hG HXA HRA HO HT1 HX4 HE4 HOWN HX5 HE6 HE1
 go_upto_region 5 with (first|((with_reducible refine wpList_load_rowG ?_ 33 (.tmp 5) ?_ g7 ?_ 33 (x.arr v1) (0,0) _ ?_ zu33 ?_ ?_ ?_);(·rfl);(·rfl);(·rfl);(·exact HX7.out);(·rfl);(·exact info_ex))|((with_reducible refine wpList_load_rowG ?_ 36 (.tmp 6) ?_ g8 ?_ 36 (r.arr tv1) (0,0) _ ?_ zu36 ?_ ?_ ?_);(·rfl);(·rfl);(·rfl);(·exact HR8.out);(·rfl);(·exact info_range))|(go_at_call 11;refine HAL.out.mono ?_;rintro e wB ⟨L,lv,hL,rfl,hr6,hok,hx6⟩;obtain ⟨la,lc,rfl⟩:=own_sl hr6;have HRL:=zd hr6;have HOK:=zd hok;have HX6:=zd hx6;clear hr6 hok hx6))
 rw [hA] at hL
 simp only at hL
 have HlL:Hid (L.length=GL.length):=zd (by rw [←List.length_map (f:=(·.1)),hL,List.length_map])
 have HLm:=zd hL
 clear hL
 go_upto_region 6 with (first|((with_reducible refine wpList_load_rowG ?_ 33 (.tmp 2) ?_ gx ?_ 33 (x.arr v) (0,0) _ ?_ zu33 ?_ ?_ ?_);(·rfl);(·rfl);(·rfl);(·exact (HXA6.out.ext HX6.out));(·rfl);(·exact info_ex))|((with_reducible refine wpList_load_rowG ?_ 36 (.tmp 3) ?_ gr ?_ 36 (r.arr tv) (0,0) _ ?_ zu36 ?_ ?_ ?_);(·rfl);(·rfl);(·rfl);(·exact (HRA6.out.ext HX6.out));(·rfl);(·exact info_range))|(go_at_call 12;refine (HDA.out _ HX6.out).mono ?_;rintro e wC ⟨D,dv,hD,rfl,hrd,hdk,hx7⟩;obtain ⟨da,dc,rfl⟩:=own_sl hrd;have HRD:=zd hrd;have HDK:=zd hdk;have HX7':=zd hx7;clear hrd hdk hx7))
 have hD2:D.map (·.1)=GL:=hD
 have hDL:D.length=L.length:=by rw [HlL.out,←hD2,List.length_map]
 rw [hDL]
 have HDm:=zd hD2
 have HAm:=zd hA
 have hL60:L.length≤60:=by
  rw [HlL.out,←List.length_map (f:=(·.x))]
  exact zT hlen1 hmr
 have HDL:=zd hDL
 have htt:(GB != GB)=false:=by simp
 have hne:((L.length:Int) != (L.length:Int))=false:=by simp
 have HEC:Hid (Ext W6 wC):=zd (HX6.out.trans HX7'.out)
 have HM1:=zd (fun w' (hw:Ext W6 w')=>ex_moves x v1 r tv1 w' _ (HO6.out.ext hw) (by omega) (HT6.out.ext hw) (by omega))
 have HM2:=zd (fun w' (hw:Ext W6 w')=>rr_moves x v r tv w' (HR.out.ext (HEW6.out.trans hw)) HVV.out (by omega) (HT.out.ext (HEW6.out.trans hw)) (by omega))
 have hml:(movesR evsS x r).length≤10000:=by
  rw [movesR_eq]
  exact zT (List.length_filter_le _ _) (movesS_len _ _ (by omega))
 generalize movesR evsS x r=ms at HM1 HM2 hml
 clear hD hD2 hA hlen1 hmr HlL hDL HDA HAL
 refine wp_region_mixE (af:=?af) [true,true,true,true,true,true,true,true,true,true,true,true,true,false,true,true,false,false,false,false] 113 (by kernel_rfl) rfl (by kernel_rfl) ?qa ?ra
 case qa=>
  intro y
  simp only [pickT,if_true,if_false,Bool.false_eq_true]
  repeat (go_big_quiet_step (fail))
  (go_big_quiet_want;refine quiet_load_rowX 33 _ rfl _ rfl _ (x.arr v1) (0,0) _ (HX7.out.ext (HEC.out.trans y.ext)) zu33 rfl info_ex ?_;go_big_quiet_on;simp only [Act.put,List.setIfInBounds_toArray,List.set_cons_succ,List.set_cons_zero])
  (go_big_quiet_want;refine quiet_load_rowX 36 _ rfl _ rfl _ (r.arr tv1) (0,0) _ (HR8.out.ext (HEC.out.trans y.ext)) zu36 rfl info_range ?_;go_big_quiet_on;simp only [Act.put,List.setIfInBounds_toArray,List.set_cons_succ,List.set_cons_zero])
  (go_big_quiet_want;refine quiet_load_rowX 33 _ rfl _ rfl _ (x.arr v) (0,0) _ (HXA6.out.ext (HEC.out.trans y.ext)) zu33 rfl info_ex ?_;go_big_quiet_on;simp only [Act.put,List.setIfInBounds_toArray,List.set_cons_succ,List.set_cons_zero])
  (go_big_quiet_want;refine quiet_load_rowX 36 _ rfl _ rfl _ (r.arr tv) (0,0) _ (HRA6.out.ext (HEC.out.trans y.ext)) zu36 rfl info_range ?_;go_big_quiet_on;simp only [Act.put,List.setIfInBounds_toArray,List.set_cons_succ,List.set_cons_zero])
  repeat (go_big_quiet_step (fail))
  exact rfl
 case ra=>
  simp only [pickF,if_true,if_false,Bool.false_eq_true]
  intro x1
  go_wp2_with fail
  refine (HM1.out _ (HEC.out.trans ((Ext.refl wC).drew.val x1))).mono ?_
  rintro e w7 ⟨mv1,rfl,ho1,hm1⟩
  have e7:Ext wC w7:=((Ext.refl wC).drew.val x1).trans hm1
  go_wp2_with fail
  refine ⟨e7,?_⟩
  intro x2
  go_wp2_with fail
  refine (HM2.out _ (HEC.out.trans (e7.val x2))).mono ?_
  rintro e w8 ⟨mv2,rfl,ho2,hm2⟩
  have e8:Ext wC w8:=(e7.val x2).trans hm2
  go_wp2_with fail
  refine ⟨e8,?_⟩
  intro x3
  go_wp2_with fail
  refine (lw_moves ms _ _ _ (Row.of_own (own_ext ho1 ((x2.ext.trans hm2).trans x3.ext))) (Row.of_own (own_ext ho2 x3.ext))).mono ?_
  rintro e w9 ⟨rfl,hx9⟩
  have e9:Ext wC w9:=(e8.val x3).trans hx9
  go_wp2_with fail
  refine ⟨e9,?_⟩
  intro x4
  go_wp2_with fail
  refine ⟨e9.val x4,?_⟩
  intro x5
  go_wp2_with fail
  refine ⟨(e9.val x4).val x5,?_⟩
  intro x6
  have HE9:Hid (Ext wC x6.val):=zd (((e9.val x4).val x5).val x6)
  generalize x6.val=W9 at HE9 ⊢
  clear x6 x5 x4 e9 hx9 w9 x3 e8 hm2 ho2 w8 x2 e7 hm1 ho1 w7 x1 HM1 HM2
  have HB9:Hid (Ext wB W9):=zd (HX7'.out.trans HE9.out)
  go_wp2_with fail
  go_loopg [11] L.length (fun g ii wr=>∃ (i:Nat) (z:ExtOf W9),ii = .int .i64 (i:Int)∧i+g=L.length∧wr=z.val)
  case atStart=>exact ⟨0,⟨W9,zR⟩,rfl,by omega,rfl⟩
  case round=>
   obtain ⟨i,z,rfl,hg,rfl⟩:=hrel
   by_cases hlt:i<L.length
   case neg=>
    have i1 : ¬(i:Int)<(L.length:Int):=by omega
    have HE10:Hid (Ext wC z.val):=zd (HE9.out.trans z.ext)
    generalize z.val=W10 at HE10 ⊢
    have HB10:Hid (Ext wB W10):=zd (HX7'.out.trans HE10.out)
    go_wp2_with fail
    go_loopg [12] L.length (fun g ii wr=>∃ i:Nat,ii = .int .i64 (i:Int)∧i+g=L.length∧Hid (Scr W6.heap.size wB.heap.size W10 wr))
    case atStart=>exact ⟨0,rfl,by omega,zd (Scr.refl _ _ _)⟩
    case round=>
     clear hg i1 hlt
     obtain ⟨i,rfl,hg,HS⟩:=hrel
     rename World=>Wr
     by_cases hlt:i<L.length
     case neg=>
      have i1 : ¬(i:Int)<(L.length:Int):=by omega
      have HEz:Hid (Ext W6 Wr):=zd (HS.out.to (HEC.out.trans HE10.out) zN)
      have HEw:Hid (Ext w Wr):=zd (HEW6.out.trans HEz.out)
      have hsm:=fun u:ExtOf Wr=>doc_same x x v1 v u.val (Row.of_own (HO6.out.ext (HEz.out.trans u.ext))) (HR.out.ext (HEw.out.trans u.ext))
      rw [sameD_refl x] at hsm
      have HSM:=zd hsm
      have hce : ∀ u:ExtOf Wr,Calls Tryz.prog 17 #[.agg (x.arr v1),.agg (r.arr tv1)] u.val fun e w'=>e = .returned (.agg (cenV GB r (GL.map (·.x))))∧Ext u.val w':=fun u=>by
       refine (ex_census x v1 _ r tv1 u.val (HO6.out.ext (HEz.out.trans u.ext)) (by omega) (HT6.out.ext (HEz.out.trans u.ext)) (by omega) (by omega) HX.out (HTAB.out.ext (HEw.out.trans u.ext))).mono ?_
       rintro e w' ⟨a,b00,b01,b10,b11,k,hc,rfl,hx⟩
       rw [HAm.out] at hc ⊢
       exact ⟨by rw [←hc.val GB],hx⟩
      have HCE:=zd hce
      have hdr:DRow Wr wB.heap.size D (.slice da D.length dc):=HS.out.own (own_ext HRD.out HE10.out) (fun g hg=>.inr (own_rowB9 HRD.out g hg).1)
      have hdk : ∀ p∈D,Hrd Wr p.1.x p.2∧(p.2 = .slice none 0 0∨∃ a n c,p.2 = .slice (some a) n c)∧p.1.x.h.length≤300:=fun p hp=>by
       obtain ⟨_,h2,h3,h4⟩:=HDK.out p hp
       refine ⟨?_,h2,h3⟩
       rcases h4 with ⟨B,ho⟩|⟨h5,h6⟩
       ·exact Row.of_own (HS.out.own (own_ext ho HE10.out) (fun g hg=>.inr (zT B.2 (own_rowB ho g hg).1)))
       ·unfold Hrd
        rw [h5,h6]
        exact HR.out.ext HEw.out
      have hdc : ∀ u:ExtOf Wr,Calls Tryz.prog 18 #[.slice da D.length dc,.bool GB,.agg (r.arr tv)] u.val fun e w'=>e = .returned (.agg (cenV GB r (GL.map (·.x))))∧Ext u.val w':=fun u=>by
       refine (rr_census D _ _ GB r tv u.val (hdr.ext u.ext) (fun p hp=>⟨(hdk p hp).1.ext u.ext,(hdk p hp).2⟩) (by have:=HDL.out;omega) (HT.out.ext (HEw.out.trans u.ext)) (by omega)).mono ?_
       rintro e w' ⟨a,b00,b01,b10,b11,k,hc,rfl,hx⟩
       have hm:D.map (·.1.x)=GL.map (·.x):=by rw [←HDm.out,List.map_map];rfl
       rw [hm] at hc
       have hl:D.length=(GL.map (·.x)).length:=by rw [←hm,List.length_map]
       exact ⟨by rw [←hc.val GB,hl],hx⟩
      rw [HDL.out] at hdc
      have HDC:=zd hdc
      have HLV:=zd (fun u:ExtOf Wr=>lw_live u.val (HTAB.out.ext (HEw.out.trans u.ext)))
      clear hsm hce hdr hdk hdc htt hne
      go_upto_region 20 with fail
      refine wp_region_ext (by kernel_rfl) (by kernel_rfl) ?_
      (first|(go_big_quiet_want;refine quiet_load_rowX 33 _ rfl _ rfl _ (x.arr v1) (0,0) _ (HX7.out.ext HEz.out) zu33 rfl info_ex ?_;go_big_quiet_on;simp only [Act.put,List.setIfInBounds_toArray,List.set_cons_succ,List.set_cons_zero])|(go_big_quiet_want;refine quiet_load_rowX 33 _ rfl _ rfl _ (x.arr v1) (0,0) _ (HX7.out.ext (HEz.out.trans (ExtOf.ext _))) zu33 rfl info_ex ?_;go_big_quiet_on;simp only [Act.put,List.setIfInBounds_toArray,List.set_cons_succ,List.set_cons_zero]))
      (first|(go_big_quiet_want;refine quiet_load_rowX 33 _ rfl _ rfl _ (x.arr v) (0,0) _ (HXA6.out.ext HEz.out) zu33 rfl info_ex ?_;go_big_quiet_on;simp only [Act.put,List.setIfInBounds_toArray,List.set_cons_succ,List.set_cons_zero])|(go_big_quiet_want;refine quiet_load_rowX 33 _ rfl _ rfl _ (x.arr v) (0,0) _ (HXA6.out.ext (HEz.out.trans (ExtOf.ext _))) zu33 rfl info_ex ?_;go_big_quiet_on;simp only [Act.put,List.setIfInBounds_toArray,List.set_cons_succ,List.set_cons_zero]))
      repeat (go_big_quiet_step ((go_at_call 16;exact calls_ext (HSM.out _))))
      (first|(go_big_quiet_want;refine quiet_load_rowX 33 _ rfl _ rfl _ (x.arr v1) (0,0) _ (HX7.out.ext HEz.out) zu33 rfl info_ex ?_;go_big_quiet_on;simp only [Act.put,List.setIfInBounds_toArray,List.set_cons_succ,List.set_cons_zero])|(go_big_quiet_want;refine quiet_load_rowX 33 _ rfl _ rfl _ (x.arr v1) (0,0) _ (HX7.out.ext (HEz.out.trans (ExtOf.ext _))) zu33 rfl info_ex ?_;go_big_quiet_on;simp only [Act.put,List.setIfInBounds_toArray,List.set_cons_succ,List.set_cons_zero]))
      (first|(go_big_quiet_want;refine quiet_load_rowX 36 _ rfl _ rfl _ (r.arr tv1) (0,0) _ (HR8.out.ext HEz.out) zu36 rfl info_range ?_;go_big_quiet_on;simp only [Act.put,List.setIfInBounds_toArray,List.set_cons_succ,List.set_cons_zero])|(go_big_quiet_want;refine quiet_load_rowX 36 _ rfl _ rfl _ (r.arr tv1) (0,0) _ (HR8.out.ext (HEz.out.trans (ExtOf.ext _))) zu36 rfl info_range ?_;go_big_quiet_on;simp only [Act.put,List.setIfInBounds_toArray,List.set_cons_succ,List.set_cons_zero]))
      repeat (go_big_quiet_step ((go_at_call 17;exact calls_ext (HCE.out _))))
      (first|(go_big_quiet_want;refine quiet_load_rowX 36 _ rfl _ rfl _ (r.arr tv) (0,0) _ (HRA6.out.ext HEz.out) zu36 rfl info_range ?_;go_big_quiet_on;simp only [Act.put,List.setIfInBounds_toArray,List.set_cons_succ,List.set_cons_zero])|(go_big_quiet_want;refine quiet_load_rowX 36 _ rfl _ rfl _ (r.arr tv) (0,0) _ (HRA6.out.ext (HEz.out.trans (ExtOf.ext _))) zu36 rfl info_range ?_;go_big_quiet_on;simp only [Act.put,List.setIfInBounds_toArray,List.set_cons_succ,List.set_cons_zero]))
      repeat (go_big_quiet_step ((first|(go_at_call 18;exact calls_ext (HDC.out _))|(go_at_call 9;exact calls_ext (HLV.out _)))))
      refine wpQuiet_nil ?_
      rintro _ ⟨u,rfl⟩
      go_wp2_with fail
      go_ret
      exact ⟨rfl,HEw.out.trans u.ext⟩
     have i1:(i:Int)<(L.length:Int):=by omega
     obtain ⟨p,hp⟩ : ∃ p,L[i]?=some p:=⟨_,zG hlt⟩
     obtain ⟨g0,c0,cur0,hlv,hg0,hc25⟩:=xrow_c (HRL.out.ext HB10.out) hp
     cases hlv
     obtain ⟨⟨Bp,hop⟩,_,hp300⟩:=HOK.out p (zE hp)
     have hho : ∃ a n c,p.2 = .slice a n c∧n≤300∧(0<n→∃ g cap cur,a=some ⟨g,0,none⟩∧W6.heap.size≤g∧g<wB.heap.size∧W10.heap[g]?=some (.cells cur 24 (0,0))∧cur.size=cap*5∧n≤cap):=by
      rcases hop.2 with ⟨h1,h2⟩|⟨g,cap,cur,h1,h2,h3,h4,h5,h6,h7⟩
      ·exact ⟨_,_,_,h1,by omega,fun h=>by omega⟩
      ·exact ⟨_,_,_,h1,by omega,fun _=>⟨g,cap,cur,rfl,zT Bp.2 h2,(zL h3),heap_ext h3 HB10.out,h6,h4⟩⟩
     obtain ⟨pa,pn,pc,hp2,hpn,hpr⟩:=hho
     rw [hp2] at hc25
     have HG0:=zd hg0
     have HC25:=zd hc25
     have HPR:=zd hpr
     have q25:Wr.cell? ⟨g0,i*26+25,none⟩=some (.slice pa pn pc):=(zQ (HS.out.cell HG0.out (by decide)) _).trans HC25.out
     have l0:g0<Wr.heap.size:=zL (HS.out.cell HG0.out (by decide))
     clear hp hop hp2 hpr hg0 hc25
     go_wp2_with fail
     go_loopg [13] pn (fun g kk wr=>∃ k:Nat,kk = .int .i64 (k:Int)∧k+g=pn∧Hid (Scr W6.heap.size wB.heap.size W10 wr))
     case atStart=>exact ⟨0,rfl,by omega,HS⟩
     case round=>
      clear q25 l0 HS
      obtain ⟨k,rfl,hg2,HS⟩:=hrel
      rename World=>Wq
      have q25:Wq.cell? ⟨g0,i*26+25,none⟩=some (.slice pa pn pc):=(zQ (HS.out.cell HG0.out (by decide)) _).trans HC25.out
      have l0:g0<Wq.heap.size:=zL (HS.out.cell HG0.out (by decide))
      by_cases hk:k<pn
      case neg=>
       have k1 : ¬(k:Int)<(pn:Int):=by omega
       go_wp2_with fail
       go_roundg (L.length - i - 1)
       case rel=>exact ⟨i+1,rfl,by omega,HS⟩
       case measure=>omega
      have k1:(k:Int)<(pn:Int):=by omega
      obtain ⟨g,cap,cur,rfl,hg1,hg2',hgc,hcs,hnc⟩:=HPR.out (by omega)
      have HTH:=zd (HS.out.there hgc hcs (show k<cap by omega))
      have HGC:=zd hgc
      have lq:g<Wq.heap.size:=by have:=HS.out.size;have:=HB10.out.size;omega
      clear hgc hcs
      go_wp2_with (refine wpList_store_mid rfl 24 (.tmp 96) (.tmp 95) rfl g (k*5) #[.int .i64 (-1),.int .i64 0,.int .u64 0,.string { data:=#[] },.bool false] ?_ ?_ ?_ ?_ ?_ ?_;(·rfl);(·rfl);(·exact HTH.out);(·exact info_lt5);(·simp [Value.oneCell']))
      go_roundg (gk - 1)
      case rel=>exact ⟨k+1,rfl,by omega,zd (Scr.setCs HGC.out hg1 hg2' _ _ _ HS.out)⟩
      case measure=>omega
   have i1:(i:Int)<(L.length:Int):=by omega
   obtain ⟨p,hp⟩ : ∃ p,L[i]?=some p:=⟨_,zG hlt⟩
   obtain ⟨d,hd⟩ : ∃ d,D[i]?=some d:=⟨_,zG (by have:=HDL.out;omega)⟩
   have hpd:p.1=d.1.x:=by
    have h1:(L.map (·.1))[i]?=some p.1:=by rw [List.getElem?_map,hp];rfl
    rw [HLm.out,←HDm.out,List.map_map,List.getElem?_map,hd] at h1
    simp only [Option.map_some,Option.some.injEq,Function.comp] at h1
    exact h1.symm
   obtain ⟨g0,c0,hlv,hgl,hmx,hrg⟩:=xrow_f (HRL.out.ext (HB9.out.trans z.ext)) hp
   cases hlv
   obtain ⟨gd,cd,hdv,hgd,hmx2,hrd⟩:=drow_f (HRD.out.ext (HE9.out.trans z.ext)) hd
   cases hdv
   have HRG:=zd hrg
   have HRG2:=zd (drow_x hrd)
   obtain ⟨⟨Bp,hop⟩,_⟩:=HOK.out p (zE hp)
   obtain ⟨hdh,_⟩:=HDK.out d (zE hd)
   have hs:=fun x1:ExtOf z.val=>doc_same p.1 d.1.x p.2 d.2 x1.val (Row.of_own (own_ext hop ((HB9.out.trans z.ext).trans x1.ext))) (hdh.ext ((HE9.out.trans z.ext).trans x1.ext))
   rw [show sameD p.1 d.1.x=true by rw [hpd,sameD_refl]] at hs
   have HSS:=zd hs
   unfold maxLen at hmx
   clear hs hp hd hpd hrg hrd hop hdh hmx2
   go_upto_region 11 with fail
   refine wp_region_ext (by kernel_rfl) (by kernel_rfl) ?_
   repeat (go_big_quiet_step (fail))
   (go_big_quiet_want;refine quiet_load_midA 33 _ rfl g0 (i*26) rfl (p.1.arr p.2) (.struct _) (fun j v hj=>HRG.out j v hj) zu33 rfl info_ex ?_;go_big_quiet_on;simp only [Act.put,List.setIfInBounds_toArray,List.set_cons_succ,List.set_cons_zero])
   repeat (go_big_quiet_step (fail))
   (go_big_quiet_want;refine quiet_load_midA 33 _ rfl gd (i*36) rfl (d.1.x.arr d.2) (.struct _) (fun j v hj=>HRG2.out j v hj) zu33 rfl info_ex ?_;go_big_quiet_on;simp only [Act.put,List.setIfInBounds_toArray,List.set_cons_succ,List.set_cons_zero])
   repeat (go_big_quiet_step ((go_at_call 16;exact calls_ext (HSS.out _))))
   refine wpQuiet_nil ?_
   rintro _ ⟨u,rfl⟩
   go_wp2_with fail
   go_roundg (gk - 1)
   case rel=>exact ⟨i+1,⟨_,z.ext.val u⟩,rfl,by omega,rfl⟩
   case measure=>omega
end Go.Proofs.YtlnmhocehgmbbaaGreatDoor
namespace Go.Proofs.YtlnmhocehgmbbaaGreatDoor
open Go.ChangeShapes Go.WideShapes Go.ChangeAt Go.RowKit Go.Deep
theorem prog_own:ownKnob Tryz.prog.godebug=none:=by kernel_rfl
theorem prog_laid:laidOutB Tryz.prog=true:=by kernel_rfl
section
variable {H:Type} {enc:TypeId×Value→H} {P:Program}
theorem post_ext {f:Func} {s:ChangeSpec} {apart fresh handsOn again:Bool} {W W':World} {args:Array Value} {v:Value} {ds gs:List (DataW H)} {before pa pv:List MemPlace}
 (hW:DataW.Whole enc P f.params.toList s.vars apart W args.toList ds gs before)
 (hres : ∀ (b:Nat) (sp:Nat→Bool) (hd:Bool),DataW.TrodAll enc P W' b sp hd f.resultTypes.toList (v.resultList f.resultTypes.size) (s.fn H (ds++gs)).results [])
 (hargs : ∀ sp:Nat→Bool,(∀ p∈before,sp p.block=true)→DataW.TrodAll enc P W' 0 sp true f.params.toList args.toList (s.fn H (ds++gs)).args pa)
 (hvars : ∀ sp:Nat→Bool,(∀ p∈before,sp p.block=true)→DataW.TrodVars enc P W' sp s.vars (s.fn H (ds++gs)).vars pv)
 (hps:before=pa++pv) (hb:Ext W W')
 (hok : ∀ (j:Nat) (t:TypeId) (r:Value),f.resultTypes[j]?=some t→(v.resultList f.resultTypes.size)[j]?=some r→Value.okWide P W' .any 0 t r) :
 s.post enc P f apart fresh handsOn again W args v W':=by
 have hlt : ∀ p∈before,p.block<W.heap.size:=fun p hp=>hW.lt p hp
 have hold : ∀ p∈before,(fun b=>decide (b<W.heap.size)) p.block=true:=fun p hp=>by simpa using hlt p hp
 refine ⟨ds,gs,before,[],pa,pv,hW,hres _ _ _,hargs _ hold,hvars _ hold,World.keptBut_mono (fun p hp=>⟨hp,?_⟩) (Below.frame hb (·∈before)),fun _=>?_⟩
 ·rw [hps,List.mem_append] at hp
  exact Or.inr hp
 ·obtain ⟨_,_,_,_,_,hz,hn⟩:=hW
  refine ⟨hok,_,_,([]++pa)++pv,⟨[]++pa,pv,trodAll_append (hargs _ (fun _ _=>rfl)) (hres _ _ _),hvars _ (fun _ _=>rfl),rfl,?_,?_⟩,?_⟩
  ·intro b off hp
   have hin:MemPlace.cell b off∈before:=by rw [hps];simpa using hp
   rw [Below.frozen hb (hlt _ hin)]
   exact hz b off hin
  ·intro ha
   have:=hn ha
   rw [hps] at this
   simpa using this
  ·intro p hp _
   rw [hps]
   simpa using hp
theorem trod_ext {t:TypeId} (hl:laidOutB P=true) (hr:P.readableRec t=true) (hrow:t<P.types.size) {W W':World} {sp:Nat→Bool} {v:Value} {d:DataW H} {ps:List MemPlace}
 (h:DataW.Trod enc P W 0 (fun _=>true) true t v d ps) (hb:Ext W W') (hlt : ∀ x∈ps,x.block<W.heap.size) (hs : ∀ p∈ps,sp p.block=true):DataW.Trod enc P W' 0 sp true t v d ps:=
 WideElems.Trod_stays hl hr hrow h (fun x hx=>Below.same hb (hlt x hx)) hs
end
theorem cells_int:Tryz.prog.cellsOf 3=1:=by kernel_rfl
theorem cells_u64:Tryz.prog.cellsOf 22=1:=by kernel_rfl
theorem cells_str:Tryz.prog.cellsOf 9=1:=by kernel_rfl
theorem cells_bool:Tryz.prog.cellsOf 4=1:=by kernel_rfl
theorem cells_letter:Tryz.prog.cellsOf 24=5:=by kernel_rfl
theorem cells_state:Tryz.prog.cellsOf 26=9:=by kernel_rfl
theorem cells_states:Tryz.prog.cellsOf 27=18:=by kernel_rfl
theorem cells_verdict:Tryz.prog.cellsOf 29=3:=by kernel_rfl
theorem cells_bools:Tryz.prog.cellsOf 30=2:=by kernel_rfl
theorem cells_letters:Tryz.prog.cellsOf 31=1:=by kernel_rfl
theorem cells_ex:Tryz.prog.cellsOf 33=26:=by kernel_rfl
theorem cells_strs:Tryz.prog.cellsOf 34=1:=by kernel_rfl
theorem cells_range:Tryz.prog.cellsOf 36=4:=by kernel_rfl
section
variable {H:Type} {enc:TypeId×Value→H} {w:World} {base:Nat} {spare:Nat→Bool} {held:Bool}
theorem u64_wf {n:Int} (h:(Lit.int .u64 n).wf=true):U64 n:=by
 simp [Lit.wf] at h
 have h1:IntKind.u64.min=0:=rfl
 have h2:IntKind.u64.max=18446744073709551615:=rfl
 rw [h1,h2] at h
 exact ⟨h.1,by omega⟩
theorem open_letter {fuel:Nat} {cs:List Value} {x:DataW H×List MemPlace} (h:DataW.trod enc Tryz.prog w base spare held fuel 24 cs=some x) : ∃ l:Lt,cs=l.cs∧U64 l.c:=by
 obtain ⟨xs,n,_,hx,hl,hlen,hf⟩:=DataW.trod_struct zu24 h
 have hl5:cs.length=5:=hl.trans cells_letter
 match cs,hl5,xs,hlen with
 | [c0,c1,c2,c3,c4],_,[y0,y1,y2,y3,y4],_=>
  have g0:=hf 0 _ rfl
  have g1:=hf 1 _ rfl
  have g2:=hf 2 _ rfl
  have g3:=hf 3 _ rfl
  have g4:=hf 4 _ rfl
  simp [cells_int,cells_u64,cells_str,cells_bool] at g0 g1 g2 g3 g4
  obtain ⟨k,e0,rfl,_⟩:=DataW.trod_int zu3 g0
  obtain ⟨f,e1,rfl,_⟩:=DataW.trod_int zu3 g1
  obtain ⟨c,e2,rfl,hw⟩:=DataW.trod_int zu22 g2
  obtain ⟨t,e3,rfl,_⟩:=DataW.trod_string zu9 g3
  obtain ⟨b,e4,rfl⟩:=DataW.trod_bool zu4 g4
  simp only [List.cons.injEq,and_true] at e0 e1 e2 e3 e4
  subst e0 e1 e2 e3 e4
  exact ⟨⟨k,f,c,t,b⟩,rfl,u64_wf hw⟩
theorem open_state {fuel:Nat} {cs:List Value} {x:DataW H×List MemPlace} (h:DataW.trod enc Tryz.prog w base spare held fuel 26 cs=some x) : ∃ s:St,cs=s.cs∧U64 s.c:=by
 obtain ⟨xs,n,_,hx,hl,hlen,hf⟩:=DataW.trod_struct zu26 h
 have hl9:cs.length=9:=hl.trans cells_state
 match cs,hl9,xs,hlen with
 | [c0,c1,c2,c3,c4,c5,c6,c7,c8],_,[y0,y1,y2,y3,y4],_=>
  have g0:=hf 0 _ rfl
  have g1:=hf 1 _ rfl
  have g2:=hf 2 _ rfl
  have g3:=hf 3 _ rfl
  have g4:=hf 4 _ rfl
  simp [cells_int,cells_u64,cells_str,cells_bool,cells_letter] at g0 g1 g2 g3 g4
  obtain ⟨k,e0,rfl,_⟩:=DataW.trod_int zu3 g0
  obtain ⟨c,e1,rfl,hw⟩:=DataW.trod_int zu22 g1
  obtain ⟨t,e2,rfl,_⟩:=DataW.trod_string zu9 g2
  obtain ⟨f,e3,rfl,_⟩:=DataW.trod_int zu3 g3
  obtain ⟨l,e4,_⟩:=open_letter g4
  simp only [List.cons.injEq,and_true,Lt.cs] at e0 e1 e2 e3 e4
  obtain ⟨e5,e6,e7,e8,e9⟩:=e4
  subst e0 e1 e2 e3 e5 e6 e7 e8 e9
  exact ⟨⟨k,c,t,f,l⟩,rfl,u64_wf hw⟩
theorem open_verdict {fuel:Nat} {cs:List Value} {x:DataW H×List MemPlace} (h:DataW.trod enc Tryz.prog w base spare held fuel 29 cs=some x) : ∃ v:Vd,cs=[.int .u64 v.c,.int .i64 v.k,.string v.t]∧U64 v.c:=by
 obtain ⟨xs,n,_,hx,hl,hlen,hf⟩:=DataW.trod_struct zu29 h
 have hl3:cs.length=3:=hl.trans cells_verdict
 match cs,hl3,xs,hlen with
 | [c0,c1,c2],_,[y0,y1,y2],_=>
  have g0:=hf 0 _ rfl
  have g1:=hf 1 _ rfl
  have g2:=hf 2 _ rfl
  simp [cells_int,cells_u64,cells_str] at g0 g1 g2
  obtain ⟨c,e0,rfl,hw⟩:=DataW.trod_int zu22 g0
  obtain ⟨k,e1,rfl,_⟩:=DataW.trod_int zu3 g1
  obtain ⟨t,e2,rfl,_⟩:=DataW.trod_string zu9 g2
  simp only [List.cons.injEq,and_true] at e0 e1 e2
  subst e0 e1 e2
  exact ⟨⟨c,k,t⟩,rfl,u64_wf hw⟩
theorem trod_arr2 {P:Program} {t e:TypeId} {fuel k:Nat} {cs:List Value} {x:DataW H×List MemPlace} (ht:P.underlying t=some (.array 2 e)) (hk:P.cellsOf e=k)
 (h:DataW.trod enc P w base spare held fuel t cs=some x) : ∃ y0 y1 n,DataW.trod enc P w base spare held n e (cs.take k)=some y0∧DataW.trod enc P w base spare held n e ((cs.drop k).take k)=some y1:=by
 cases fuel with
 | zero=>simp [DataW.trod] at h
 | succ n=>
  unfold DataW.trod at h
  rw [ht] at h
  have r2:List.range 2=[0,1]:=rfl
  simp only [r2,hk] at h
  split at h
  ·cases h0:DataW.trod enc P w base spare held n e (cs.take k) with
   | none=>simp [h0] at h
   | some y0=>
    cases h1:DataW.trod enc P w base spare held n e ((cs.drop k).take k) with
    | none=>simp [h0,h1] at h
    | some y1=>exact ⟨y0,y1,n,h0,h1⟩
  ·cases h
theorem lts_len5 : ∀ L:List Lt,(L.flatMap Lt.cs).length=L.length*5
 | []=>rfl
 | y::L=>by rw [List.flatMap_cons,List.length_append,lts_len5 L,List.length_cons];simp only [Lt.cs,List.length_cons,List.length_nil];omega
theorem flat_at5 {L:List Lt} {j:Nat} {u:Value} (h:(L.flatMap Lt.cs)[j]?=some u) : ∃ x,L[j / 5]?=some x∧x.cs[j % 5]?=some u:=by
 have hlen:=lts_len5 L
 have hj:j<L.length*5:=by rw [←hlen];exact (zM h)
 have hk:j / 5<L.length:=by omega
 refine ⟨_,zG hk,?_⟩
 have:=flat_get Lt.cs 5 (fun _=>rfl) L (j / 5) _ (zG hk) (j % 5) (by omega)
 rw [show j / 5*5+j % 5=j by omega,h] at this
 exact this.symm
theorem open_letters {fuel:Nat} {cs:List Value} {x:DataW H×List MemPlace} (h:DataW.trod enc Tryz.prog w base spare held fuel 31 cs=some x) :
 ∃ (v:Value) (L:List Lt),cs=[v]∧Row w 5 v L.length (L.flatMap Lt.cs)∧(v = .slice none 0 0∨∃ a n c,v = .slice (some a) n c)∧∀ l∈L,U64 l.c:=by
 rcases open_slice zu31 h with ⟨h1,h2⟩|⟨a,len,cap,m,n,D,Pl,h1,_,h3,h4,hm,h5,h6⟩
 ·exact ⟨_,[],h1,⟨rfl,.inl ⟨rfl,none,0,rfl⟩⟩,.inl rfl,fun _ h=>by cases h⟩
 ·have hlm:len≤m:=by rw [hm];split<;>omega
  have key : ∀ i,i<len→∃ e:Lt,U64 e.c∧∀ j u,e.cs[j]?=some u→w.cell? ((a.add (i*5)).add j)=some u:=fun i hi=>by
   obtain ⟨cs',hc,ht⟩:=h6 i (by omega)
   rw [cells_letter] at hc
   obtain ⟨e,rfl,hu⟩:=open_letter ht
   obtain ⟨_,hlen,hcell⟩:=World.cells?_some hc
   refine ⟨e,hu,fun j u hj=>?_⟩
   have:j<5:=by have:=(zM hj);simpa [Lt.cs] using this
   rw [hcell j this];exact hj
  have hE : ∃ E:Nat→Lt,∀ i,i<len→U64 (E i).c∧∀ j u,(E i).cs[j]?=some u→w.cell? ((a.add (i*5)).add j)=some u:=
   ⟨fun i=>if hi:i<len then (key i hi).choose else l0,fun i hi=>by simp only [hi,dif_pos];exact (key i hi).choose_spec⟩
  obtain ⟨E,hE⟩:=hE
  refine ⟨_,(List.range len).map E,h1,?_,.inr ⟨_,_,_,rfl⟩,fun l hl=>by
   obtain ⟨i,hi,rfl⟩:=List.mem_map.1 hl
   exact (hE i (List.mem_range.1 hi)).1⟩
  have hln:((List.range len).map E).length=len:=by simp
  rw [hln]
  refine ⟨by rw [lts_len5,hln],?_⟩
  by_cases h0:len=0
  ·exact .inl ⟨h0,_,_,by rw [h0]⟩
  ·obtain ⟨b,off,spot⟩:=a
   have hs:spot=none:=by
    have:=(hE 0 (by omega)).2 0 _ rfl
    simpa [Addr.add] using World.cell?_spot this
   subst hs
   refine .inr ⟨b,off,cap,rfl,by omega,fun j u hj=>?_⟩
   obtain ⟨e,he,hu⟩:=flat_at5 hj
   have hk:j / 5<len:=by have:=(zM he);simpa using this
   rw [List.getElem?_map,List.getElem?_range hk] at he
   simp only [Option.map_some,Option.some.injEq] at he
   subst he
   have:=(hE (j / 5) hk).2 _ u hu
   rw [Go.WideShapes.add_plain,Go.WideShapes.add_plain,Nat.add_assoc,show j / 5*5+j % 5=j by omega] at this
   exact this
theorem open_ex {fuel:Nat} {cs:List Value} {x:DataW H×List MemPlace} (h:DataW.trod enc Tryz.prog w base spare held fuel 33 cs=some x) :
 ∃ (e:Ex) (v:Value),cs=(e.arr v).toList∧Hrd w e v∧(v = .slice none 0 0∨∃ a n c,v = .slice (some a) n c)∧RngX e:=by
 obtain ⟨xs,n,_,hx,hl,hlen,hf⟩:=DataW.trod_struct zu33 h
 have hl26:cs.length=26:=hl.trans cells_ex
 match cs,hl26,xs,hlen with
 | [c0,c1,c2,c3,c4,c5,c6,c7,c8,c9,c10,c11,c12,c13,c14,c15,c16,c17,c18,c19,c20,c21,c22,c23,c24,c25],_,[y0,y1,y2,y3,y4,y5],_=>
  have g0:=hf 0 _ rfl
  have g1:=hf 1 _ rfl
  have g2:=hf 2 _ rfl
  have g3:=hf 3 _ rfl
  have g4:=hf 4 _ rfl
  have g5:=hf 5 _ rfl
  simp [cells_u64,cells_bool,cells_states,cells_verdict,cells_bools,cells_letters] at g0 g1 g2 g3 g4 g5
  obtain ⟨c,e0,rfl,hw⟩:=DataW.trod_int zu22 g0
  obtain ⟨z0,z1,n1,s0,s1⟩:=trod_arr2 zu27 cells_state g1
  simp at s0 s1
  obtain ⟨a0,q0,w0⟩:=open_state s0
  obtain ⟨a1,q1,w1⟩:=open_state s1
  obtain ⟨vd,q2,wv⟩:=open_verdict g2
  obtain ⟨z2,z3,n2,t0,t1⟩:=trod_arr2 zu30 cells_bool g3
  simp at t0 t1
  obtain ⟨b0,q3,_⟩:=DataW.trod_bool zu4 t0
  obtain ⟨b1,q4,_⟩:=DataW.trod_bool zu4 t1
  obtain ⟨fu,q5,_⟩:=DataW.trod_bool zu4 g4
  obtain ⟨v,L,q6,hR,hv,wl⟩:=open_letters g5
  simp only [List.cons.injEq,and_true,St.cs] at e0 q0 q1 q2 q3 q4 q5 q6
  obtain ⟨u1,u2,u3,u4,u5,u6,u7,u8,u9⟩:=q0
  obtain ⟨r1,r2,r3,r4,r5,r6,r7,r8,r9⟩:=q1
  obtain ⟨p1,p2,p3⟩:=q2
  subst e0 u1 u2 u3 u4 u5 u6 u7 u8 u9 r1 r2 r3 r4 r5 r6 r7 r8 r9 p1 p2 p3 q3 q4 q5 q6
  exact ⟨⟨c,a0,a1,vd,b0,b1,fu,L⟩,c25,rfl,hR,hv,⟨u64_wf hw,w0,w1,wv,wl⟩⟩
theorem map_at {T:List ByteArray} {j:Nat} {u:Value} (h:(T.map Value.string)[j]?=some u) : ∃ t,T[j]?=some t∧u = .string t:=by
 rw [List.getElem?_map] at h
 cases ht:T[j]? with
 | none=>rw [ht] at h;cases h
 | some t=>rw [ht] at h;cases h;exact ⟨t,rfl,rfl⟩
theorem open_texts {fuel:Nat} {cs:List Value} {x:DataW H×List MemPlace} (h:DataW.trod enc Tryz.prog w base spare held fuel 34 cs=some x) :
 ∃ (v:Value) (T:List ByteArray),cs=[v]∧Row w 1 v T.length (T.map Value.string)∧(v = .slice none 0 0∨∃ a n c,v = .slice (some a) n c):=by
 rcases open_slice zu34 h with ⟨h1,h2⟩|⟨a,len,cap,m,n,D,Pl,h1,_,h3,h4,hm,h5,h6⟩
 ·exact ⟨_,[],h1,⟨rfl,.inl ⟨rfl,none,0,rfl⟩⟩,.inl rfl⟩
 ·have hlm:len≤m:=by rw [hm];split<;>omega
  have key : ∀ i,i<len→∃ t:ByteArray,w.cell? ((a.add (i*1)).add 0)=some (.string t):=fun i hi=>by
   obtain ⟨cs',hc,ht⟩:=h6 i (by omega)
   rw [cells_str] at hc
   obtain ⟨t,e2,_,_⟩:=DataW.trod_string zu9 ht
   subst e2
   obtain ⟨_,hlen,hcell⟩:=World.cells?_some hc
   exact ⟨t,hcell 0 (by decide)⟩
  have hE : ∃ E:Nat→ByteArray,∀ i,i<len→w.cell? ((a.add (i*1)).add 0)=some (.string (E i)):=
   ⟨fun i=>if hi:i<len then (key i hi).choose else { data:=#[] },fun i hi=>by simp only [hi,dif_pos];exact (key i hi).choose_spec⟩
  obtain ⟨E,hE⟩:=hE
  refine ⟨_,(List.range len).map E,h1,?_,.inr ⟨_,_,_,rfl⟩⟩
  have hln:((List.range len).map E).length=len:=by simp
  rw [hln]
  refine ⟨by rw [List.length_map,hln,Nat.mul_one],?_⟩
  by_cases h0:len=0
  ·exact .inl ⟨h0,_,_,by rw [h0]⟩
  ·obtain ⟨b,off,spot⟩:=a
   have hs:spot=none:=by
    have:=hE 0 (by omega)
    simpa [Addr.add] using World.cell?_spot this
   subst hs
   refine .inr ⟨b,off,cap,rfl,by omega,fun j u hj=>?_⟩
   obtain ⟨t,he,rfl⟩:=map_at hj
   have hk:j<len:=by have:=(zM he);simpa using this
   rw [List.getElem?_map,List.getElem?_range hk] at he
   simp only [Option.map_some,Option.some.injEq] at he
   subst he
   have:=hE j hk
   rw [Go.WideShapes.add_plain,Go.WideShapes.add_plain,Nat.mul_one,Nat.add_zero] at this
   exact this
theorem open_range {fuel:Nat} {cs:List Value} {x:DataW H×List MemPlace} (h:DataW.trod enc Tryz.prog w base spare held fuel 36 cs=some x) :
 ∃ (r:Rg) (tv:Value),cs=[tv,.bool r.b,.bool r.l,.int .i64 r.m]∧Row w 1 tv r.t.length (r.t.map Value.string)∧(tv = .slice none 0 0∨∃ a n c,tv = .slice (some a) n c):=by
 obtain ⟨xs,n,_,hx,hl,hlen,hf⟩:=DataW.trod_struct zu36 h
 have hl4:cs.length=4:=hl.trans cells_range
 match cs,hl4,xs,hlen with
 | [c0,c1,c2,c3],_,[y0,y1,y2,y3],_=>
  have g0:=hf 0 _ rfl
  have g1:=hf 1 _ rfl
  have g2:=hf 2 _ rfl
  have g3:=hf 3 _ rfl
  simp [cells_int,cells_bool,cells_strs] at g0 g1 g2 g3
  obtain ⟨tv,T,e0,hR,hc⟩:=open_texts g0
  obtain ⟨b,e1,_⟩:=DataW.trod_bool zu4 g1
  obtain ⟨l,e2,_⟩:=DataW.trod_bool zu4 g2
  obtain ⟨m,e3,_,_⟩:=DataW.trod_int zu3 g3
  simp only [List.cons.injEq,and_true] at e0 e1 e2 e3
  subst e0 e1 e2 e3
  exact ⟨⟨T,b,l,m⟩,c0,rfl,hR,hc⟩
end
end Go.Proofs.YtlnmhocehgmbbaaGreatDoor

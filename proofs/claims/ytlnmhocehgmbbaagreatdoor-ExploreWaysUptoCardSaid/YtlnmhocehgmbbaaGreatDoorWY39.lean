/- No condition. -/
import Derived.Test.YtlnmhocehgmbbaaGreatDoorWY38
import Derived.ProofKit
import Derived.Deep.Slices
import Derived.Lib.SmallJoins
import Derived.JoinedCond
import Derived.OpenShut
import Derived.Deep.DeepHandedRow
import Derived.Lib.LaidTab
import Derived.Stop.LaidErr
import Derived.MakeChecks
set_option linter.all false
set_option maxRecDepth 100000
set_option maxHeartbeats 6400000
namespace Go.Proofs.YtlnmhocehgmbbaaGreatDoor
open Go.RowKit
attribute [local go_sem ↓] eql_lEq eql_sEq eql_eEq eql_oEq neq_lEq neq_sEq neq_eEq neq_oEq eql_vEq neq_vEq eql_nil
attribute [local go_sem] ExtOf.cell ExtOf.frozen ExtOf.lt ExtOf.le
attribute [local go_sem high] ExtOf.cell2 ExtOf.frozen2 ExtOf.lt2 ExtOf.cell3 ExtOf.frozen3 ExtOf.lt3
theorem mvs_one (L:List Mv) : ∀ u∈L.flatMap Mv.cs,u.oneCell'=true:=fun u hu=>by
 obtain ⟨m,_,hm⟩:=List.mem_flatMap.1 hu
 simp [Mv.cs] at hm
 rcases hm with rfl|rfl|rfl|rfl|rfl|rfl|rfl|rfl|rfl<;>rfl
theorem lw_ways (x:Ex) (v:Value) (r:Rg) (tv:Value) (q:Wi) (l:List Mv) (mv:Value) (w:World) (hR:Hrd w x v) (hv:v = .slice none 0 0∨∃ a n c,v = .slice (some a) n c) (hT:Row w 1 tv r.t.length (r.t.map Value.string)) (htv:tv = .slice none 0 0∨∃ a n c,tv = .slice (some a) n c) (hM:Row w 9 mv l.length (l.flatMap Mv.cs)) (hmv:mv = .slice none 0 0∨∃ a n c,mv = .slice (some a) n c) (hx:RngX x) (htab:TabW w) :
 Calls Tryz.prog 4 #[.agg (seA x v r tv q mv)] w fun e w'=>e = .returned (.bool true)∧Ext w w':=by
 have HR:=zd hR
 have HVV:=zd hv
 have HT:=zd hT
 have HTV:=zd htv
 have HX:=zd hx
 have HTAB:=zd htab
 have hv1:v.oneCell'=true:=by rcases hv with h|⟨_,_,_,h⟩<;>(rw [h];rfl)
 have htv1:tv.oneCell'=true:=by rcases htv with h|⟨_,_,_,h⟩<;>(rw [h];rfl)
 have HV1:=zd hv1
 have HTV1:=zd htv1
 obtain ⟨ma,mc,rfl,hml,hmw⟩:=row_view hM
 have HMW:=zd hmw
 have HMR:=zd hM
 have HMV:=zd hmv
 unfold maxLen at hml
 clear hR hv hT htv hx htab hv1 htv1 hM hmw hmv
 go_enter Tryz.func4,Tryz.ntmps4
 go_upto_region 1 with fail
 refine wp_forget (fun w'=>∃ gs,Hid (gs=w.heap.size)∧Hid (w'.heap[gs]?=some (.cells (seA x v r tv q (.slice ma l.length mc)) 64 (0,0)))∧Hid (Ext w w')) ⟨_,zd rfl,zd (one_new zR).1,zd (one_new zR).2⟩ ?_
 rintro W1 ⟨gs,hgs,HS1,HE1⟩
 rw [←hgs.out]
 clear hgs
 refine wp_region_mixR (af:=?af) [true,true,true,true,true,true,true,true,false,false,false,false,false,false,false] 131 #[true,true,true,true,true,true,true,true,false,false,false,false,false,false,false] (fun w'=>Ext W1 w') (by kernel_rfl) rfl (by kernel_rfl) (fun _ _ h e=>Ext.trans h e) zR.drew ?q ?r
 case q=>
  intro w' hw'
  obtain ⟨k1,k2,k3,k4,k5⟩:=se_range (heap_ext HS1.out hw')
  have K1:=zd k1
  have K2:=zd k2
  have K3:=zd k3
  clear k1 k2 k3
  simp only [pickT,if_true,if_false,Bool.false_eq_true]
  go_big_quiet_step (fail)
  (go_big_quiet_want;refine quiet_load_midA 33 _ rfl gs (0) rfl (x.arr v) (.struct _) K1.out zu33 rfl info_ex ?_;go_big_quiet_on;simp only [Act.put,List.setIfInBounds_toArray,List.set_cons_succ,List.set_cons_zero])
  go_big_quiet_step (fail)
  (go_big_quiet_want;refine quiet_load_midA 36 _ rfl gs (26) rfl (r.arr tv) (.struct _) K2.out zu36 rfl (info_rgA r _) ?_;go_big_quiet_on;simp only [Act.put,List.setIfInBounds_toArray,List.set_cons_succ,List.set_cons_zero])
  go_big_quiet_step (fail)
  (go_big_quiet_want;refine quiet_load_midA 62 _ rfl gs (30) rfl q.arr (.struct _) K3.out zu62 rfl (info_wish q) ?_;go_big_quiet_on;simp only [Act.put,List.setIfInBounds_toArray,List.set_cons_succ,List.set_cons_zero])
  repeat (go_big_quiet_step (fail))
  refine wpQuiet_nil ?_
  exact rfl
 case r=>
  refine wpAnyT_allocs3 (i1:=8) (i2:=9) (i3:=10) (L3:=#[true,true,true,true,true,true,true,true,true,true,true,false,false,false,false]) 33 36 62 exZ rgZ wiZ 3 4 5 (by decide) (by decide) (by decide) (by kernel_rfl) (by kernel_rfl) (by kernel_rfl) (by kernel_rfl) (by kernel_rfl) (by kernel_rfl) (by kernel_rfl) (by kernel_rfl) (by kernel_rfl) (by kernel_rfl) rfl rfl rfl rfl rfl rfl rfl rfl rfl rfl rfl rfl rfl rfl rfl (fun a w=>by simp [go_sem,exZ]) (fun a w=>by simp [go_sem,rgZ]) (fun a w=>by simp [go_sem,wiZ]) (fun w' e=>(Ext.refl W1).drew.trans e) ?_
  intro gx gr gw w2 l1 l2 l3 n12 n13 n23 hx2 hr2 hw2 x2
  have x2':Ext W1 w2:=(Ext.refl W1).drew.trans x2
  have l1':W1.heap.size≤gx:=l1
  have l2':W1.heap.size≤gr:=l2
  have l3':W1.heap.size≤gw:=l3
  simp only [Act.put,List.setIfInBounds_toArray,List.set_cons_succ,List.set_cons_zero]
  refine wpAnyT_one (i:=11) (by kernel_rfl) rfl ?_
  intro x3
  go_wp2_with (refine wpList_store_row rfl 33 _ _ rfl gx _ rfl rfl 33 _ (heap_ext hx2 x3.ext) info_ex rfl (arr_one x HV1.out) ?_)
  have e3:=(x2'.trans x3.ext).setRow l1' (x.arr v)
  refine ⟨fun _=>e3,?_⟩
  refine wpAnyT_one (i:=12) (by kernel_rfl) rfl ?_
  intro x4
  go_wp2_with (refine wpList_store_row rfl 36 _ _ rfl gr _ rfl rfl 36 _ (heap_ext ((setRow_other _ _ _ _ (Ne.symm n12)).trans (heap_ext hr2 x3.ext)) x4.ext) info_range rfl (rg_one r HTV1.out) ?_)
  have e4:=(e3.trans x4.ext).setRow l2' (r.arr tv)
  refine ⟨fun _=>e4,?_⟩
  have k1:=(setRow_other x4.val gr gx (r.arr tv) n12).trans (heap_ext (setRow_heap _ _ _ (x.arr v) _ _ (heap_ext hx2 x3.ext)) x4.ext)
  have k2:=setRow_heap _ _ _ (r.arr tv) _ _ (heap_ext ((setRow_other _ _ _ (x.arr v) (Ne.symm n12)).trans (heap_ext hr2 x3.ext)) x4.ext)
  have k3:=(setRow_other x4.val gr gw (r.arr tv) (Ne.symm n23)).trans (heap_ext ((setRow_other x3.val gx gw (x.arr v) (Ne.symm n13)).trans (heap_ext hw2 x3.ext)) x4.ext)
  generalize x4.val.setRow gr (r.arr tv)=W4 at e4 k1 k2 k3 ⊢
  clear x4 e3 x3 hx2 hr2 hw2 x2 x2' l1 l2 l3 w2
  refine wpAnyT_one (i:=13) (by kernel_rfl) rfl ?_
  intro x5
  go_wp2_with (refine wpList_store_row rfl 62 _ _ rfl gw _ rfl rfl 62 _ (heap_ext k3 x5.ext) (info_wish q) rfl (wi_one q) ?_)
  have e5:=(e4.trans x5.ext).setRow l3' q.arr
  refine ⟨fun _=>e5,?_⟩
  replace k1:=(setRow_other x5.val gw gx q.arr n13).trans (heap_ext k1 x5.ext)
  replace k2:=(setRow_other x5.val gw gr q.arr n23).trans (heap_ext k2 x5.ext)
  replace k3:=setRow_heap _ _ _ q.arr _ _ (heap_ext k3 x5.ext)
  generalize x5.val.setRow gw q.arr=W5 at e5 k1 k2 k3 ⊢
  refine wpAnyT_one (i:=14) (by kernel_rfl) rfl ?_
  intro x6
  go_wp2_with fail
  refine ⟨fun h=>absurd h (by decide),?_⟩
  refine wpAnyT_end (by kernel_rfl) fun x7=>?_
  have HXA:Hid (ExAt x7.val gx x v):=zd (heap_ext (heap_ext k1 x6.ext) x7.ext)
  have HRA:Hid (RgAt x7.val gr r tv):=zd (heap_ext (heap_ext k2 x6.ext) x7.ext)
  have HWA:Hid (x7.val.heap[gw]?=some (.cells q.arr 62 (0,0))):=zd (heap_ext (heap_ext k3 x6.ext) x7.ext)
  have HE2:Hid (Ext w x7.val):=zd (HE1.out.trans ((e5.trans x6.ext).trans x7.ext))
  generalize x7.val=W2 at HXA HRA HWA HE2 ⊢
  clear x7 x6 e5 x5 k1 k2 k3 e4 W4 W5 l1' l2' l3' n12 n13 n23 HS1 HE1
  have HLG:=zd (lw_largeX x v r tv W2 (HR.out.ext HE2.out) (HT.out.ext HE2.out))
  go_wp2_with (first|((with_reducible refine wpList_load_rowG ?_ 33 (.tmp 3) ?_ gx ?_ 33 (x.arr v) (0,0) _ ?_ zu33 ?_ ?_ ?_);(·rfl);(·rfl);(·rfl);(·exact HXA.out);(·rfl);(·exact info_ex))|((with_reducible refine wpList_load_rowG ?_ 36 (.tmp 4) ?_ gr ?_ 36 (r.arr tv) (0,0) _ ?_ zu36 ?_ ?_ ?_);(·rfl);(·rfl);(·rfl);(·exact HRA.out);(·rfl);(·exact info_range)))
  refine HLG.out.mono ?_
  rintro e w4 ⟨b,rfl,hb,hx4⟩
  have HE4:Hid (Ext w w4):=zd (HE2.out.trans hx4)
  have HX4:=zd hx4
  clear hx4 HLG
  rcases b
  case true=>
   clear hb
   go_wp2_with fail
   refine (lw_live _ (HTAB.out.ext HE4.out)).mono ?_
   rintro e w9 ⟨rfl,hx9⟩
   go_wp2_with fail
   go_ret
   exact ⟨rfl,HE4.out.trans hx9⟩
  obtain ⟨hxl,hrt,hrm⟩:=hb rfl
  clear hb
  by_cases hl60:(60:Int)<(l.length:Int)
  case pos=>
   go_wp2_with fail
   refine (lw_live _ (HTAB.out.ext HE4.out)).mono ?_
   rintro e w9 ⟨rfl,hx9⟩
   go_wp2_with fail
   go_ret
   exact ⟨rfl,HE4.out.trans hx9⟩
  have HX40:=HX4
  go_wp2_with fail
  go_loopg [7] l.length (fun g ii wr=>∃ (i:Nat) (z:ExtOf w4),ii = .int .i64 (i:Int)∧i+g=l.length∧wr=z.val)
  case atStart=>exact ⟨0,⟨w4,zR⟩,rfl,by omega,rfl⟩
  case round=>
   obtain ⟨i,z,rfl,hg,rfl⟩:=hrel
   by_cases hlt:i<l.length
   case pos=>
    have i1:(i:Int)<(l.length:Int):=by omega
    obtain ⟨m,hm⟩ : ∃ m,l[i]?=some m:=⟨_,zG hlt⟩
    obtain ⟨gm,om,rfl,hgm,hmcell⟩:=HMW.out (by omega)
    have hgm:=hgm (by omega)
    obtain ⟨q0,q1,q2,q3,q4,q5,q6,q7,q8⟩:=mv_cells (fun j u hj=>cell_keep (hmcell j u hj) (HE4.out.trans z.ext)) hm
    have lgm:gm<z.val.heap.size:=zU hgm (HE4.out.trans z.ext).size
    clear hm hmcell hgm q0 q1 q3 q4 q5 q7 q8
    go_upto_region 7 with fail
    refine wp_region_ext (by kernel_rfl) (by kernel_rfl) ?_
    repeat (go_big_quiet_step (fail))
    refine wpQuiet_nil ?_
    rintro _ ⟨u,rfl⟩
    have HEu:Hid (Ext w u.val):=zd (HE4.out.trans (z.ext.val u))
    go_wp2_with fail
    ·skip
     refine (lw_live _ (HTAB.out.ext HEu.out)).mono ?_
     rintro e w9 ⟨rfl,hx9⟩
     go_wp2_with fail
     go_ret
     exact ⟨rfl,HEu.out.trans hx9⟩
    ·skip
     go_roundg (gk - 1)
     case rel=>exact ⟨i+1,⟨_,z.ext.val u⟩,rfl,by omega,rfl⟩
     case measure=>omega
   have i1 : ¬(i:Int)<(l.length:Int):=by omega
   have HE40:Hid (Ext w z.val):=zd (HE4.out.trans z.ext)
   have HX40:Hid (Ext W2 z.val):=zd (HX4.out.trans z.ext)
   generalize z.val=w4 at HE40 HX40 ⊢
   clear HE4 HX4 hg hlt z
   have HE4:=HE40
   have HX4:=HX40
   clear HE40 HX40
   have HOWN:=zd (lw_own x v r tv w4 (HR.out.ext HE4.out) HVV.out (by omega) (HT.out.ext HE4.out) HTV.out (by omega))
   go_upto_region 10 with (first|((with_reducible refine wpList_load_rowG ?_ 33 (.tmp 3) ?_ gx ?_ 33 (x.arr v) (0,0) _ ?_ zu33 ?_ ?_ ?_);(·rfl);(·rfl);(·rfl);(·exact (HXA.out.ext HX4.out));(·rfl);(·exact info_ex))|((with_reducible refine wpList_load_rowG ?_ 36 (.tmp 4) ?_ gr ?_ 36 (r.arr tv) (0,0) _ ?_ zu36 ?_ ?_ ?_);(·rfl);(·rfl);(·rfl);(·exact (HRA.out.ext HX4.out));(·rfl);(·exact info_range))|(go_at_call 10;refine HOWN.out.mono ?_;rintro e w5 ⟨v1,tv1,rfl,ho,ht,hx5⟩;have HO:=zd ho;have HT1:=zd ht;have HX5:=zd hx5;have hone:v1.oneCell'=true:=(by obtain ⟨sa,sn,hsv⟩:=own_sl ho;rw [hsv];rfl);have htone:tv1.oneCell'=true:=(by obtain ⟨sa,sn,hsv⟩:=own_sl ht;rw [hsv];rfl);clear ho ht hx5)|(refine wpList_store_row rfl 33 _ _ rfl w5.heap.size _ rfl rfl 33 _ (heap_ext (heap_new rfl) (zR.alloc _)) info_ex rfl (arr_one x hone) ?_)|(refine wpList_store_row rfl 36 _ _ rfl (w5.heap.size+1) _ rfl rfl 36 _ ((setRow_other _ _ _ _ (by omega)).trans (heap_new (by simp))) info_range rfl (rg_one r htone) ?_))
   have hsz5:w4.heap.size≤w5.heap.size:=HX5.out.size
   refine wp_forget (fun w'=>∃ g7 g8,Hid (g7=w5.heap.size)∧Hid (g8=w5.heap.size+1)∧Hid (ExAt w' g7 x v1)∧Hid (RgAt w' g8 r tv1)∧Hid (Ext w5 w')) ⟨_,_,zd rfl,zd rfl,zd ((setRow_other _ _ _ _ (by omega)).trans (setRow_heap _ _ _ (x.arr v1) _ _ (heap_ext (heap_new rfl) (zR.alloc _)))),zd (setRow_heap _ _ _ (r.arr tv1) _ _ ((setRow_other _ _ _ _ (by omega)).trans (heap_new (by simp)))),zd (((((Ext.refl w5).alloc _).alloc _).setRow (by omega) _).setRow (by omega) _)⟩ ?_
   rintro W6 ⟨g7,g8,e7,e8,HX7,HR8,HE6⟩
   rw [←e8.out,←e7.out]
   clear e7 e8 hsz5 hone htone
   have HEW6:Hid (Ext w W6):=zd (HE4.out.trans (HX5.out.trans HE6.out))
   have HG6:Hid (Ext W2 W6):=zd (HX4.out.trans (HX5.out.trans HE6.out))
   have HXA6:Hid (ExAt W6 gx x v):=zd (HXA.out.ext HG6.out)
   have HRA6:Hid (RgAt W6 gr r tv):=zd (HRA.out.ext HG6.out)
   have HWA6:Hid (W6.heap[gw]?=some (.cells q.arr 62 (0,0))):=zd (heap_ext HWA.out HG6.out)
   have HO6:=zd (HO.out.ext HE6.out)
   have HWY:=zd (ex_way (meetS q) q x v1 _ r tv1 W6 (fun gq w' hw hq=>ask_meet (meetS q) q w' (meet_meets w') gq hq) HO6.out (by omega) (Row.of_own (own_ext HT1.out HE6.out)) (by omega) (by omega) HX.out (HTAB.out.ext HEW6.out))
   have hG:=goD_eq (mostR r) (movesR evsS · r) x (show 1≤mostR r by unfold mostR;omega) (fun _ _ h=>moves_ok h)
   have hgp:=go_pre (mostR r) never (movesR evsS · r) x
   have hwd:=way_doc (mostR r) (meetS q) (movesR evsS · r) x
   have hwl:=way_len q r x (by omega)
   have HDA:=zd (fun w' (hw:Ext W6 w')=>rr_all x v r tv w' (HR.out.ext (HEW6.out.trans hw)) HVV.out (by omega) (HT.out.ext (HEW6.out.trans hw)) (by omega) (by omega))
   have hlen1:=(go_at (show 1≤mostR r by unfold mostR;omega) never (movesR evsS · r) x).1
   have hmr:mostR r≤60:=by unfold mostR;omega
   rw [hG.1] at hgp hwd hlen1
   generalize goD (mostR r) (movesR evsS · r) x=G at hgp hwd HDA hlen1
   obtain ⟨GL,GB⟩:=G
   simp only at hgp hwd hlen1
   rw [hwd] at hwl
   have HGP:=zd hgp
   have HWD:=zd hwd
   clear hG hgp hwd
   go_upto_region 11 with (first|((with_reducible refine wpList_load_rowG ?_ 33 (.tmp 8) ?_ g7 ?_ 33 (x.arr v1) (0,0) _ ?_ zu33 ?_ ?_ ?_);(·rfl);(·rfl);(·rfl);(·exact HX7.out);(·rfl);(·exact info_ex))|((with_reducible refine wpList_load_rowG ?_ 36 (.tmp 9) ?_ g8 ?_ 36 (r.arr tv1) (0,0) _ ?_ zu36 ?_ ?_ ?_);(·rfl);(·rfl);(·rfl);(·exact HR8.out);(·rfl);(·exact info_range))|((with_reducible refine wpList_load_rowG ?_ 62 (.tmp 5) ?_ gw ?_ 62 q.arr (0,0) _ ?_ zu62 ?_ ?_ ?_);(·rfl);(·rfl);(·rfl);(·exact HWA6.out);(·rfl);(·exact info_wish q))|(go_at_call 19;refine HWY.out.mono ?_;rintro e w7 ⟨gv,rfl,ho7,hx7⟩;rw [HWD.out] at ho7 ⊢;obtain ⟨ga,gc,rfl⟩:=own_sl ho7;have HO7:=zd ho7;have HX7':=zd hx7;clear ho7 hx7))
   have HEW7:Hid (Ext W6 w7):=HX7'
   go_upto_region 12 with (first|((with_reducible refine wpList_load_rowG ?_ 33 (.tmp 3) ?_ gx ?_ 33 (x.arr v) (0,0) _ ?_ zu33 ?_ ?_ ?_);(·rfl);(·rfl);(·rfl);(·exact (HXA6.out.ext HEW7.out));(·rfl);(·exact info_ex))|((with_reducible refine wpList_load_rowG ?_ 36 (.tmp 4) ?_ gr ?_ 36 (r.arr tv) (0,0) _ ?_ zu36 ?_ ?_ ?_);(·rfl);(·rfl);(·rfl);(·exact (HRA6.out.ext HEW7.out));(·rfl);(·exact info_range))|(go_at_call 12;refine (HDA.out _ HEW7.out).mono ?_;rintro e w8 ⟨D,dv,hD,rfl,hrd,hdk,hx8⟩;obtain ⟨da,dc,rfl⟩:=own_sl hrd;have HRD:=zd hrd;have HDK:=zd hdk;have HX8:=zd hx8;have HDM:=zd (show D.map (·.1)=GL from hD);clear hrd hdk hx8 hD))
   have HEW8:Hid (Ext W6 w8):=zd (HEW7.out.trans HX8.out)
   have hdl:D.length≤100:=by
    rw [←List.length_map (f:=(·.1)),HDM.out]
    omega
   have hwy:=rr_way D _ _ GB q w8 HRD.out (fun p hp=>⟨(HDK.out p hp).1,(HDK.out p hp).2.2.1⟩) hdl (by rw [HDM.out];exact HGP.out)
   rw [HDM.out] at hwy
   have HWW:=zd hwy
   obtain ⟨S,hS⟩ : ∃ S,wayD (meetS q) GL GB=S:=⟨_,rfl⟩
   rw [hS] at HWW HO7 hwl ⊢
   clear hwy hS hdl
   go_upto_region 13 with (first|((with_reducible refine wpList_load_rowG ?_ 62 (.tmp 5) ?_ gw ?_ 62 q.arr (0,0) _ ?_ zu62 ?_ ?_ ?_);(·rfl);(·rfl);(·rfl);(·exact (heap_ext HWA6.out HEW8.out));(·rfl);(·exact info_wish q))|(go_at_call 20;refine HWW.out.mono ?_;rintro e w9 ⟨wv,rfl,ho9,hx9⟩;obtain ⟨wa,wc,rfl⟩:=own_sl ho9;have HO9:=zd ho9;have HX9:=zd hx9;clear ho9 hx9))
   have HEW9:Hid (Ext W6 w9):=zd (HEW8.out.trans HX9.out)
   have HO7':=zd (own_ext HO7.out (HX8.out.trans HX9.out))
   clear HRD HDK HX8 HX9 HWW HDM HDA HO7 HWY HWD HGP HEW7 HEW8 HX7'
   obtain ⟨i0,hi,hz0,hz1,hz2⟩:=info_parts info_move
   obtain ⟨R,hRp⟩ : ∃ R,replS x l=R:=⟨_,rfl⟩
   obtain ⟨rb,hrb⟩ : ∃ b,meetS q R.1=b:=⟨_,rfl⟩
   have hsz6:w4.heap.size≤W6.heap.size:=(HX5.out.trans HE6.out).size
   have hrp : ∀ (lv:Value) (w':World),Ext W6 w'→Row w' 9 lv l.length (l.flatMap Mv.cs)→Calls Tryz.prog 21 #[.agg (x.arr v1),lv,.agg q.arr] w' fun e w''=>e = .returned (.tuple #[.int .i64 (R.2:Int),.bool rb])∧Ext w' w'':=fun lv w' hw hrow=>by
    have h1:=ex_replay (meetS q) q x v1 _ l lv w' (meet_meets w') (HO6.out.ext hw) (zT hsz6 hw.size) (by omega) (by omega) hrow
    rw [hRp,hrb] at h1
    exact h1
   have hrr : ∀ (w':World),Ext W6 w'→Calls Tryz.prog 22 #[.agg (x.arr v),.slice ma l.length mc,.agg q.arr] w' fun e w''=>e = .returned (.tuple #[.int .i64 (R.2:Int),.bool rb])∧Ext w' w'':=fun w' hw=>by
    have h1:=rx_replay q x v l _ w' (HR.out.ext (HEW6.out.trans hw)) HVV.out (by omega) (by omega) (HMR.out.ext (HEW6.out.trans hw))
    rw [hRp,hrb] at h1
    exact h1
   have HRP:=zd hrp
   have HRR:=zd hrr
   clear hrp hrr hRp hrb
   refine wp_region_mixQ (af:=?afw) [true,false,true,false,true,false,false,false,false,false,false] [false,false,false,false,false,false,true,true,true,true,true] 131 (C:=Ext w9) (by kernel_rfl) rfl (by kernel_rfl) (fun _ _ h e=>Ext.trans h e) zR.drew ?qw ?rw1
   case qw=>
    intro w' hw'
    obtain ⟨y1,rfl⟩:=ext_of hw'
    simp only [pickT,if_true,if_false,Bool.false_eq_true]
    (go_big_quiet_want;refine quiet_load_rowX 33 _ rfl _ rfl _ (x.arr v1) (0,0) _ (HX7.out.ext (HEW9.out.trans y1.ext)) zu33 rfl info_ex ?_;go_big_quiet_on;simp only [Act.put,List.setIfInBounds_toArray,List.set_cons_succ,List.set_cons_zero])
    repeat (go_big_quiet_step (fail))
    (go_big_quiet_want;refine quiet_load_rowX 62 _ rfl _ rfl _ q.arr (0,0) _ (heap_ext HWA6.out (HEW9.out.trans y1.ext)) zu62 rfl (info_wish q) ?_;go_big_quiet_on;simp only [Act.put,List.setIfInBounds_toArray,List.set_cons_succ,List.set_cons_zero])
    repeat (go_big_quiet_step (fail))
    first
     | exact rfl
     | (refine wpQuiet_nil ?_;exact rfl)
   case rw1=>
    simp only [restL,if_true,if_false,Bool.false_eq_true]
    intro x1
    go_wp2_with fail
    refine ⟨((Ext.refl w9).drew.val x1).alloc _,?_⟩
    intro x2
    refine wpList_app4 x1.val.heap.size 48 52 i0 _ 9 88 zu48 hi hz0 hz1 hz2 rfl (by decide) rfl _ _ rfl _ 0 [] rfl (own_ext (own_new (Ext.refl x1.val) rfl (by decide) rfl rfl) x2.ext) (zT ((Ext.refl x1.val).alloc _).size x2.ext.size) _ l.length (l.flatMap Mv.cs) rfl
     (HMR.out.ext ((HEW6.out.trans HEW9.out).trans ((((Ext.refl w9).drew.val x1).alloc _).val x2))) HMV.out (mvs_one l) (by unfold maxLen;omega) (by omega) ?_
    intro lv wA hoA hbA _
    rw [Nat.zero_add,List.nil_append] at hoA
    have eA:Ext w9 wA:=((((Ext.refl w9).drew.val x1).alloc _).val x2).trans' (Below.mono hbA ((Ext.refl w9).drew.val x1).size)
    go_wp2_with fail
    refine ⟨eA,?_⟩
    intro x3
    go_wp2_with fail
    refine (HRP.out _ _ (HEW9.out.trans (eA.val x3)) (Row.of_own (own_ext hoA x3.ext))).mono ?_
    rintro e wB ⟨rfl,hxB⟩
    have eB:Ext w9 wB:=(eA.val x3).trans hxB
    go_wp2_with fail
    refine ⟨eB,?_⟩
    refine ⟨.tuple #[.int .i64 (R.2:Int),.bool rb],.inl ⟨rfl,fun w _=>⟨rfl,rfl⟩⟩,?_⟩
    refine ⟨.int .i64 (R.2:Int),.inl ⟨rfl,fun w _=>⟨rfl,rfl⟩⟩,?_⟩
    refine ⟨.bool rb,.inl ⟨rfl,fun w _=>⟨rfl,rfl⟩⟩,?_⟩
    refine ⟨.int .i64 (R.2:Int),.inl ⟨rfl,fun w _=>⟨rfl,rfl⟩⟩,?_⟩
    refine ⟨.bool rb,.inl ⟨rfl,fun w _=>⟨rfl,rfl⟩⟩,?_⟩
    intro x4
    have HEWB:Hid (Ext W6 x4.val):=zd (HEW9.out.trans (eB.val x4))
    have HE9B:Hid (Ext w9 x4.val):=zd (eB.val x4)
    generalize x4.val=WB at HEWB HE9B ⊢
    clear eB hxB eA hbA hoA HRP
    go_upto_region 15 with (first|((with_reducible refine wpList_load_rowG ?_ 33 (.tmp 3) ?_ gx ?_ 33 (x.arr v) (0,0) _ ?_ zu33 ?_ ?_ ?_);(·rfl);(·rfl);(·rfl);(·exact (HXA6.out.ext HEWB.out));(·rfl);(·exact info_ex))|((with_reducible refine wpList_load_rowG ?_ 62 (.tmp 5) ?_ gw ?_ 62 q.arr (0,0) _ ?_ zu62 ?_ ?_ ?_);(·rfl);(·rfl);(·rfl);(·exact (heap_ext HWA6.out HEWB.out));(·rfl);(·exact info_wish q))|(go_at_call 22;refine (HRR.out _ HEWB.out).mono ?_;rintro e wC ⟨rfl,hxC⟩))
    have HEWC:Hid (Ext W6 wC):=zd (HEWB.out.trans hxC)
    have HE9C:Hid (Ext w9 wC):=zd (HE9B.out.trans hxC)
    have HEwC:Hid (Ext w wC):=zd (HEW6.out.trans HEWC.out)
    have hmo:=fun u:ExtOf wC=>lw_moves S.1 _ _ u.val (Row.of_own (own_ext HO7'.out (HE9C.out.trans u.ext))) (Row.of_own (own_ext HO9.out (HE9C.out.trans u.ext)))
    have hm1:=fun u:ExtOf wC=>ex_meets x v1 q u.val (Row.of_own (HO6.out.ext (HEWC.out.trans u.ext))) (by omega)
    have hm2:=fun u:ExtOf wC=>rx_meets x v q u.val (HR.out.ext (HEwC.out.trans u.ext)) (by omega)
    generalize meetS q x=mq at hm1 hm2
    have HMO:=zd hmo
    have HM1:=zd hm1
    have HM2:=zd hm2
    have HLV:=zd (fun u:ExtOf wC=>lw_live u.val (HTAB.out.ext (HEwC.out.trans u.ext)))
    have t1:(S.2 == S.2)=true:=by simp
    have t2:((R.2:Int) == (R.2:Int))=true:=by simp
    have t3:(rb == rb)=true:=by simp
    have t4:(mq == mq)=true:=by simp
    clear hmo hm1 hm2 hxC HRR
    refine wp_region_ext (by kernel_rfl) (by kernel_rfl) ?_
    repeat (go_big_quiet_step ((go_at_call 13;exact calls_ext (HMO.out _))))
    (first|(go_big_quiet_want;refine quiet_load_rowX 33 _ rfl _ rfl _ (x.arr v1) (0,0) _ (heap_ext HX7.out HEWC.out) zu33 rfl info_ex ?_;go_big_quiet_on;simp only [Act.put,List.setIfInBounds_toArray,List.set_cons_succ,List.set_cons_zero])|(go_big_quiet_want;refine quiet_load_rowX 33 _ rfl _ rfl _ (x.arr v1) (0,0) _ (heap_ext HX7.out (HEWC.out.trans (ExtOf.ext _))) zu33 rfl info_ex ?_;go_big_quiet_on;simp only [Act.put,List.setIfInBounds_toArray,List.set_cons_succ,List.set_cons_zero]))
    (first|(go_big_quiet_want;refine quiet_load_rowX 62 _ rfl _ rfl _ q.arr (0,0) _ (heap_ext HWA6.out HEWC.out) zu62 rfl (info_wish q) ?_;go_big_quiet_on;simp only [Act.put,List.setIfInBounds_toArray,List.set_cons_succ,List.set_cons_zero])|(go_big_quiet_want;refine quiet_load_rowX 62 _ rfl _ rfl _ q.arr (0,0) _ (heap_ext HWA6.out (HEWC.out.trans (ExtOf.ext _))) zu62 rfl (info_wish q) ?_;go_big_quiet_on;simp only [Act.put,List.setIfInBounds_toArray,List.set_cons_succ,List.set_cons_zero]))
    repeat (go_big_quiet_step ((go_at_call 23;exact calls_ext (HM1.out _))))
    (first|(go_big_quiet_want;refine quiet_load_rowX 33 _ rfl _ rfl _ (x.arr v) (0,0) _ (heap_ext HXA6.out HEWC.out) zu33 rfl info_ex ?_;go_big_quiet_on;simp only [Act.put,List.setIfInBounds_toArray,List.set_cons_succ,List.set_cons_zero])|(go_big_quiet_want;refine quiet_load_rowX 33 _ rfl _ rfl _ (x.arr v) (0,0) _ (heap_ext HXA6.out (HEWC.out.trans (ExtOf.ext _))) zu33 rfl info_ex ?_;go_big_quiet_on;simp only [Act.put,List.setIfInBounds_toArray,List.set_cons_succ,List.set_cons_zero]))
    (first|(go_big_quiet_want;refine quiet_load_rowX 62 _ rfl _ rfl _ q.arr (0,0) _ (heap_ext HWA6.out HEWC.out) zu62 rfl (info_wish q) ?_;go_big_quiet_on;simp only [Act.put,List.setIfInBounds_toArray,List.set_cons_succ,List.set_cons_zero])|(go_big_quiet_want;refine quiet_load_rowX 62 _ rfl _ rfl _ q.arr (0,0) _ (heap_ext HWA6.out (HEWC.out.trans (ExtOf.ext _))) zu62 rfl (info_wish q) ?_;go_big_quiet_on;simp only [Act.put,List.setIfInBounds_toArray,List.set_cons_succ,List.set_cons_zero]))
    repeat (go_big_quiet_step ((first|(go_at_call 24;exact calls_ext (HM2.out _))|(go_at_call 9;exact calls_ext (HLV.out _)))))
    refine wpQuiet_nil ?_
    rintro _ ⟨u,rfl⟩
    go_wp2_with fail
    go_ret
    exact ⟨rfl,HEwC.out.trans u.ext⟩
end Go.Proofs.YtlnmhocehgmbbaaGreatDoor
namespace Go.Proofs.YtlnmhocehgmbbaaGreatDoor
open Go.ChangeShapes Go.WideShapes Go.ChangeAt Go.RowKit Go.Deep
theorem prog_own:ownKnob Tryz.prog.godebug=none:=by kernel_rfl
theorem prog_laid:laidOutB Tryz.prog=true:=by kernel_rfl
section
variable {H:Type} {enc:TypeId×Value→H} {P:Program}
theorem post_ext {f:Func} {s:ChangeSpec} {apart fresh handsOn again:Bool} {W W':World} {args:Array Value} {v:Value} {ds gs:List (DataW H)} {before pa pv:List MemPlace}
 (hW:DataW.Whole enc P f.params.toList s.vars apart W args.toList ds gs before)
 (hres : ∀ (b:Nat) (sp:Nat→Bool) (hd:Bool),DataW.TrodAll enc P W' b sp hd f.resultTypes.toList (v.resultList f.resultTypes.size) (s.fn H (ds++gs)).results [])
 (hargs : ∀ sp:Nat→Bool,(∀ p∈before,sp p.block=true)→DataW.TrodAll enc P W' 0 sp true f.params.toList args.toList (s.fn H (ds++gs)).args pa)
 (hvars : ∀ sp:Nat→Bool,(∀ p∈before,sp p.block=true)→DataW.TrodVars enc P W' sp s.vars (s.fn H (ds++gs)).vars pv)
 (hps:before=pa++pv) (hb:Ext W W')
 (hok : ∀ (j:Nat) (t:TypeId) (r:Value),f.resultTypes[j]?=some t→(v.resultList f.resultTypes.size)[j]?=some r→Value.okWide P W' .any 0 t r) :
 s.post enc P f apart fresh handsOn again W args v W':=by
 have hlt : ∀ p∈before,p.block<W.heap.size:=fun p hp=>hW.lt p hp
 have hold : ∀ p∈before,(fun b=>decide (b<W.heap.size)) p.block=true:=fun p hp=>by simpa using hlt p hp
 refine ⟨ds,gs,before,[],pa,pv,hW,hres _ _ _,hargs _ hold,hvars _ hold,World.keptBut_mono (fun p hp=>⟨hp,?_⟩) (Below.frame hb (·∈before)),fun _=>?_⟩
 ·rw [hps,List.mem_append] at hp
  exact Or.inr hp
 ·obtain ⟨_,_,_,_,_,hz,hn⟩:=hW
  refine ⟨hok,_,_,([]++pa)++pv,⟨[]++pa,pv,trodAll_append (hargs _ (fun _ _=>rfl)) (hres _ _ _),hvars _ (fun _ _=>rfl),rfl,?_,?_⟩,?_⟩
  ·intro b off hp
   have hin:MemPlace.cell b off∈before:=by rw [hps];simpa using hp
   rw [Below.frozen hb (hlt _ hin)]
   exact hz b off hin
  ·intro ha
   have:=hn ha
   rw [hps] at this
   simpa using this
  ·intro p hp _
   rw [hps]
   simpa using hp
theorem trod_ext {t:TypeId} (hl:laidOutB P=true) (hr:P.readableRec t=true) (hrow:t<P.types.size) {W W':World} {sp:Nat→Bool} {v:Value} {d:DataW H} {ps:List MemPlace}
 (h:DataW.Trod enc P W 0 (fun _=>true) true t v d ps) (hb:Ext W W') (hlt : ∀ x∈ps,x.block<W.heap.size) (hs : ∀ p∈ps,sp p.block=true):DataW.Trod enc P W' 0 sp true t v d ps:=
 WideElems.Trod_stays hl hr hrow h (fun x hx=>Below.same hb (hlt x hx)) hs
end
theorem cells_int:Tryz.prog.cellsOf 3=1:=by kernel_rfl
theorem cells_u64:Tryz.prog.cellsOf 22=1:=by kernel_rfl
theorem cells_str:Tryz.prog.cellsOf 9=1:=by kernel_rfl
theorem cells_bool:Tryz.prog.cellsOf 4=1:=by kernel_rfl
theorem cells_letter:Tryz.prog.cellsOf 24=5:=by kernel_rfl
theorem cells_state:Tryz.prog.cellsOf 26=9:=by kernel_rfl
theorem cells_states:Tryz.prog.cellsOf 27=18:=by kernel_rfl
theorem cells_verdict:Tryz.prog.cellsOf 29=3:=by kernel_rfl
theorem cells_bools:Tryz.prog.cellsOf 30=2:=by kernel_rfl
theorem cells_letters:Tryz.prog.cellsOf 31=1:=by kernel_rfl
theorem cells_ex:Tryz.prog.cellsOf 33=26:=by kernel_rfl
theorem cells_strs:Tryz.prog.cellsOf 34=1:=by kernel_rfl
theorem cells_range:Tryz.prog.cellsOf 36=4:=by kernel_rfl
theorem cells_search:Tryz.prog.cellsOf 64=36:=by kernel_rfl
theorem cells_wish:Tryz.prog.cellsOf 62=5:=by kernel_rfl
theorem cells_ints:Tryz.prog.cellsOf 55=2:=by kernel_rfl
theorem cells_move:Tryz.prog.cellsOf 52=9:=by kernel_rfl
theorem cells_moves:Tryz.prog.cellsOf 48=1:=by kernel_rfl
section
variable {H:Type} {enc:TypeId×Value→H} {w:World} {base:Nat} {spare:Nat→Bool} {held:Bool}
theorem u64_wf {n:Int} (h:(Lit.int .u64 n).wf=true):U64 n:=by
 simp [Lit.wf] at h
 have h1:IntKind.u64.min=0:=rfl
 have h2:IntKind.u64.max=18446744073709551615:=rfl
 rw [h1,h2] at h
 exact ⟨h.1,by omega⟩
theorem open_letter {fuel:Nat} {cs:List Value} {x:DataW H×List MemPlace} (h:DataW.trod enc Tryz.prog w base spare held fuel 24 cs=some x) : ∃ l:Lt,cs=l.cs∧U64 l.c:=by
 obtain ⟨xs,n,_,hx,hl,hlen,hf⟩:=DataW.trod_struct zu24 h
 have hl5:cs.length=5:=hl.trans cells_letter
 match cs,hl5,xs,hlen with
 | [c0,c1,c2,c3,c4],_,[y0,y1,y2,y3,y4],_=>
  have g0:=hf 0 _ rfl
  have g1:=hf 1 _ rfl
  have g2:=hf 2 _ rfl
  have g3:=hf 3 _ rfl
  have g4:=hf 4 _ rfl
  simp [cells_int,cells_u64,cells_str,cells_bool] at g0 g1 g2 g3 g4
  obtain ⟨k,e0,rfl,_⟩:=DataW.trod_int zu3 g0
  obtain ⟨f,e1,rfl,_⟩:=DataW.trod_int zu3 g1
  obtain ⟨c,e2,rfl,hw⟩:=DataW.trod_int zu22 g2
  obtain ⟨t,e3,rfl,_⟩:=DataW.trod_string zu9 g3
  obtain ⟨b,e4,rfl⟩:=DataW.trod_bool zu4 g4
  simp only [List.cons.injEq,and_true] at e0 e1 e2 e3 e4
  subst e0 e1 e2 e3 e4
  exact ⟨⟨k,f,c,t,b⟩,rfl,u64_wf hw⟩
theorem open_state {fuel:Nat} {cs:List Value} {x:DataW H×List MemPlace} (h:DataW.trod enc Tryz.prog w base spare held fuel 26 cs=some x) : ∃ s:St,cs=s.cs∧U64 s.c:=by
 obtain ⟨xs,n,_,hx,hl,hlen,hf⟩:=DataW.trod_struct zu26 h
 have hl9:cs.length=9:=hl.trans cells_state
 match cs,hl9,xs,hlen with
 | [c0,c1,c2,c3,c4,c5,c6,c7,c8],_,[y0,y1,y2,y3,y4],_=>
  have g0:=hf 0 _ rfl
  have g1:=hf 1 _ rfl
  have g2:=hf 2 _ rfl
  have g3:=hf 3 _ rfl
  have g4:=hf 4 _ rfl
  simp [cells_int,cells_u64,cells_str,cells_bool,cells_letter] at g0 g1 g2 g3 g4
  obtain ⟨k,e0,rfl,_⟩:=DataW.trod_int zu3 g0
  obtain ⟨c,e1,rfl,hw⟩:=DataW.trod_int zu22 g1
  obtain ⟨t,e2,rfl,_⟩:=DataW.trod_string zu9 g2
  obtain ⟨f,e3,rfl,_⟩:=DataW.trod_int zu3 g3
  obtain ⟨l,e4,_⟩:=open_letter g4
  simp only [List.cons.injEq,and_true,Lt.cs] at e0 e1 e2 e3 e4
  obtain ⟨e5,e6,e7,e8,e9⟩:=e4
  subst e0 e1 e2 e3 e5 e6 e7 e8 e9
  exact ⟨⟨k,c,t,f,l⟩,rfl,u64_wf hw⟩
theorem open_verdict {fuel:Nat} {cs:List Value} {x:DataW H×List MemPlace} (h:DataW.trod enc Tryz.prog w base spare held fuel 29 cs=some x) : ∃ v:Vd,cs=[.int .u64 v.c,.int .i64 v.k,.string v.t]∧U64 v.c:=by
 obtain ⟨xs,n,_,hx,hl,hlen,hf⟩:=DataW.trod_struct zu29 h
 have hl3:cs.length=3:=hl.trans cells_verdict
 match cs,hl3,xs,hlen with
 | [c0,c1,c2],_,[y0,y1,y2],_=>
  have g0:=hf 0 _ rfl
  have g1:=hf 1 _ rfl
  have g2:=hf 2 _ rfl
  simp [cells_int,cells_u64,cells_str] at g0 g1 g2
  obtain ⟨c,e0,rfl,hw⟩:=DataW.trod_int zu22 g0
  obtain ⟨k,e1,rfl,_⟩:=DataW.trod_int zu3 g1
  obtain ⟨t,e2,rfl,_⟩:=DataW.trod_string zu9 g2
  simp only [List.cons.injEq,and_true] at e0 e1 e2
  subst e0 e1 e2
  exact ⟨⟨c,k,t⟩,rfl,u64_wf hw⟩
theorem trod_arr2 {P:Program} {t e:TypeId} {fuel k:Nat} {cs:List Value} {x:DataW H×List MemPlace} (ht:P.underlying t=some (.array 2 e)) (hk:P.cellsOf e=k)
 (h:DataW.trod enc P w base spare held fuel t cs=some x) : ∃ y0 y1 n,DataW.trod enc P w base spare held n e (cs.take k)=some y0∧DataW.trod enc P w base spare held n e ((cs.drop k).take k)=some y1:=by
 cases fuel with
 | zero=>simp [DataW.trod] at h
 | succ n=>
  unfold DataW.trod at h
  rw [ht] at h
  have r2:List.range 2=[0,1]:=rfl
  simp only [r2,hk] at h
  split at h
  ·cases h0:DataW.trod enc P w base spare held n e (cs.take k) with
   | none=>simp [h0] at h
   | some y0=>
    cases h1:DataW.trod enc P w base spare held n e ((cs.drop k).take k) with
    | none=>simp [h0,h1] at h
    | some y1=>exact ⟨y0,y1,n,h0,h1⟩
  ·cases h
theorem lts_len5 : ∀ L:List Lt,(L.flatMap Lt.cs).length=L.length*5
 | []=>rfl
 | y::L=>by rw [List.flatMap_cons,List.length_append,lts_len5 L,List.length_cons];simp only [Lt.cs,List.length_cons,List.length_nil];omega
theorem flat_at5 {L:List Lt} {j:Nat} {u:Value} (h:(L.flatMap Lt.cs)[j]?=some u) : ∃ x,L[j / 5]?=some x∧x.cs[j % 5]?=some u:=by
 have hlen:=lts_len5 L
 have hj:j<L.length*5:=by rw [←hlen];exact (zM h)
 have hk:j / 5<L.length:=by omega
 refine ⟨_,zG hk,?_⟩
 have:=flat_get Lt.cs 5 (fun _=>rfl) L (j / 5) _ (zG hk) (j % 5) (by omega)
 rw [show j / 5*5+j % 5=j by omega,h] at this
 exact this.symm
theorem open_letters {fuel:Nat} {cs:List Value} {x:DataW H×List MemPlace} (h:DataW.trod enc Tryz.prog w base spare held fuel 31 cs=some x) :
 ∃ (v:Value) (L:List Lt),cs=[v]∧Row w 5 v L.length (L.flatMap Lt.cs)∧(v = .slice none 0 0∨∃ a n c,v = .slice (some a) n c)∧∀ l∈L,U64 l.c:=by
 rcases open_slice zu31 h with ⟨h1,h2⟩|⟨a,len,cap,m,n,D,Pl,h1,_,h3,h4,hm,h5,h6⟩
 ·exact ⟨_,[],h1,⟨rfl,.inl ⟨rfl,none,0,rfl⟩⟩,.inl rfl,fun _ h=>by cases h⟩
 ·have hlm:len≤m:=by rw [hm];split<;>omega
  have key : ∀ i,i<len→∃ e:Lt,U64 e.c∧∀ j u,e.cs[j]?=some u→w.cell? ((a.add (i*5)).add j)=some u:=fun i hi=>by
   obtain ⟨cs',hc,ht⟩:=h6 i (by omega)
   rw [cells_letter] at hc
   obtain ⟨e,rfl,hu⟩:=open_letter ht
   obtain ⟨_,hlen,hcell⟩:=World.cells?_some hc
   refine ⟨e,hu,fun j u hj=>?_⟩
   have:j<5:=by have:=(zM hj);simpa [Lt.cs] using this
   rw [hcell j this];exact hj
  have hE : ∃ E:Nat→Lt,∀ i,i<len→U64 (E i).c∧∀ j u,(E i).cs[j]?=some u→w.cell? ((a.add (i*5)).add j)=some u:=
   ⟨fun i=>if hi:i<len then (key i hi).choose else l0,fun i hi=>by simp only [hi,dif_pos];exact (key i hi).choose_spec⟩
  obtain ⟨E,hE⟩:=hE
  refine ⟨_,(List.range len).map E,h1,?_,.inr ⟨_,_,_,rfl⟩,fun l hl=>by
   obtain ⟨i,hi,rfl⟩:=List.mem_map.1 hl
   exact (hE i (List.mem_range.1 hi)).1⟩
  have hln:((List.range len).map E).length=len:=by simp
  rw [hln]
  refine ⟨by rw [lts_len5,hln],?_⟩
  by_cases h0:len=0
  ·exact .inl ⟨h0,_,_,by rw [h0]⟩
  ·obtain ⟨b,off,spot⟩:=a
   have hs:spot=none:=by
    have:=(hE 0 (by omega)).2 0 _ rfl
    simpa [Addr.add] using World.cell?_spot this
   subst hs
   refine .inr ⟨b,off,cap,rfl,by omega,fun j u hj=>?_⟩
   obtain ⟨e,he,hu⟩:=flat_at5 hj
   have hk:j / 5<len:=by have:=(zM he);simpa using this
   rw [List.getElem?_map,List.getElem?_range hk] at he
   simp only [Option.map_some,Option.some.injEq] at he
   subst he
   have:=(hE (j / 5) hk).2 _ u hu
   rw [Go.WideShapes.add_plain,Go.WideShapes.add_plain,Nat.add_assoc,show j / 5*5+j % 5=j by omega] at this
   exact this
theorem open_ex {fuel:Nat} {cs:List Value} {x:DataW H×List MemPlace} (h:DataW.trod enc Tryz.prog w base spare held fuel 33 cs=some x) :
 ∃ (e:Ex) (v:Value),cs=(e.arr v).toList∧Hrd w e v∧(v = .slice none 0 0∨∃ a n c,v = .slice (some a) n c)∧RngX e:=by
 obtain ⟨xs,n,_,hx,hl,hlen,hf⟩:=DataW.trod_struct zu33 h
 have hl26:cs.length=26:=hl.trans cells_ex
 match cs,hl26,xs,hlen with
 | [c0,c1,c2,c3,c4,c5,c6,c7,c8,c9,c10,c11,c12,c13,c14,c15,c16,c17,c18,c19,c20,c21,c22,c23,c24,c25],_,[y0,y1,y2,y3,y4,y5],_=>
  have g0:=hf 0 _ rfl
  have g1:=hf 1 _ rfl
  have g2:=hf 2 _ rfl
  have g3:=hf 3 _ rfl
  have g4:=hf 4 _ rfl
  have g5:=hf 5 _ rfl
  simp [cells_u64,cells_bool,cells_states,cells_verdict,cells_bools,cells_letters] at g0 g1 g2 g3 g4 g5
  obtain ⟨c,e0,rfl,hw⟩:=DataW.trod_int zu22 g0
  obtain ⟨z0,z1,n1,s0,s1⟩:=trod_arr2 zu27 cells_state g1
  simp at s0 s1
  obtain ⟨a0,q0,w0⟩:=open_state s0
  obtain ⟨a1,q1,w1⟩:=open_state s1
  obtain ⟨vd,q2,wv⟩:=open_verdict g2
  obtain ⟨z2,z3,n2,t0,t1⟩:=trod_arr2 zu30 cells_bool g3
  simp at t0 t1
  obtain ⟨b0,q3,_⟩:=DataW.trod_bool zu4 t0
  obtain ⟨b1,q4,_⟩:=DataW.trod_bool zu4 t1
  obtain ⟨fu,q5,_⟩:=DataW.trod_bool zu4 g4
  obtain ⟨v,L,q6,hR,hv,wl⟩:=open_letters g5
  simp only [List.cons.injEq,and_true,St.cs] at e0 q0 q1 q2 q3 q4 q5 q6
  obtain ⟨u1,u2,u3,u4,u5,u6,u7,u8,u9⟩:=q0
  obtain ⟨r1,r2,r3,r4,r5,r6,r7,r8,r9⟩:=q1
  obtain ⟨p1,p2,p3⟩:=q2
  subst e0 u1 u2 u3 u4 u5 u6 u7 u8 u9 r1 r2 r3 r4 r5 r6 r7 r8 r9 p1 p2 p3 q3 q4 q5 q6
  exact ⟨⟨c,a0,a1,vd,b0,b1,fu,L⟩,c25,rfl,hR,hv,⟨u64_wf hw,w0,w1,wv,wl⟩⟩
theorem map_at {T:List ByteArray} {j:Nat} {u:Value} (h:(T.map Value.string)[j]?=some u) : ∃ t,T[j]?=some t∧u = .string t:=by
 rw [List.getElem?_map] at h
 cases ht:T[j]? with
 | none=>rw [ht] at h;cases h
 | some t=>rw [ht] at h;cases h;exact ⟨t,rfl,rfl⟩
theorem open_texts {fuel:Nat} {cs:List Value} {x:DataW H×List MemPlace} (h:DataW.trod enc Tryz.prog w base spare held fuel 34 cs=some x) :
 ∃ (v:Value) (T:List ByteArray),cs=[v]∧Row w 1 v T.length (T.map Value.string)∧(v = .slice none 0 0∨∃ a n c,v = .slice (some a) n c):=by
 rcases open_slice zu34 h with ⟨h1,h2⟩|⟨a,len,cap,m,n,D,Pl,h1,_,h3,h4,hm,h5,h6⟩
 ·exact ⟨_,[],h1,⟨rfl,.inl ⟨rfl,none,0,rfl⟩⟩,.inl rfl⟩
 ·have hlm:len≤m:=by rw [hm];split<;>omega
  have key : ∀ i,i<len→∃ t:ByteArray,w.cell? ((a.add (i*1)).add 0)=some (.string t):=fun i hi=>by
   obtain ⟨cs',hc,ht⟩:=h6 i (by omega)
   rw [cells_str] at hc
   obtain ⟨t,e2,_,_⟩:=DataW.trod_string zu9 ht
   subst e2
   obtain ⟨_,hlen,hcell⟩:=World.cells?_some hc
   exact ⟨t,hcell 0 (by decide)⟩
  have hE : ∃ E:Nat→ByteArray,∀ i,i<len→w.cell? ((a.add (i*1)).add 0)=some (.string (E i)):=
   ⟨fun i=>if hi:i<len then (key i hi).choose else { data:=#[] },fun i hi=>by simp only [hi,dif_pos];exact (key i hi).choose_spec⟩
  obtain ⟨E,hE⟩:=hE
  refine ⟨_,(List.range len).map E,h1,?_,.inr ⟨_,_,_,rfl⟩⟩
  have hln:((List.range len).map E).length=len:=by simp
  rw [hln]
  refine ⟨by rw [List.length_map,hln,Nat.mul_one],?_⟩
  by_cases h0:len=0
  ·exact .inl ⟨h0,_,_,by rw [h0]⟩
  ·obtain ⟨b,off,spot⟩:=a
   have hs:spot=none:=by
    have:=hE 0 (by omega)
    simpa [Addr.add] using World.cell?_spot this
   subst hs
   refine .inr ⟨b,off,cap,rfl,by omega,fun j u hj=>?_⟩
   obtain ⟨t,he,rfl⟩:=map_at hj
   have hk:j<len:=by have:=(zM he);simpa using this
   rw [List.getElem?_map,List.getElem?_range hk] at he
   simp only [Option.map_some,Option.some.injEq] at he
   subst he
   have:=hE j hk
   rw [Go.WideShapes.add_plain,Go.WideShapes.add_plain,Nat.mul_one,Nat.add_zero] at this
   exact this
theorem open_range {fuel:Nat} {cs:List Value} {x:DataW H×List MemPlace} (h:DataW.trod enc Tryz.prog w base spare held fuel 36 cs=some x) :
 ∃ (r:Rg) (tv:Value),cs=[tv,.bool r.b,.bool r.l,.int .i64 r.m]∧Row w 1 tv r.t.length (r.t.map Value.string)∧(tv = .slice none 0 0∨∃ a n c,tv = .slice (some a) n c):=by
 obtain ⟨xs,n,_,hx,hl,hlen,hf⟩:=DataW.trod_struct zu36 h
 have hl4:cs.length=4:=hl.trans cells_range
 match cs,hl4,xs,hlen with
 | [c0,c1,c2,c3],_,[y0,y1,y2,y3],_=>
  have g0:=hf 0 _ rfl
  have g1:=hf 1 _ rfl
  have g2:=hf 2 _ rfl
  have g3:=hf 3 _ rfl
  simp [cells_int,cells_bool,cells_strs] at g0 g1 g2 g3
  obtain ⟨tv,T,e0,hR,hc⟩:=open_texts g0
  obtain ⟨b,e1,_⟩:=DataW.trod_bool zu4 g1
  obtain ⟨l,e2,_⟩:=DataW.trod_bool zu4 g2
  obtain ⟨m,e3,_,_⟩:=DataW.trod_int zu3 g3
  simp only [List.cons.injEq,and_true] at e0 e1 e2 e3
  subst e0 e1 e2 e3
  exact ⟨⟨T,b,l,m⟩,c0,rfl,hR,hc⟩
theorem open_wish {fuel:Nat} {cs:List Value} {x:DataW H×List MemPlace} (h:DataW.trod enc Tryz.prog w base spare held fuel 62 cs=some x) : ∃ q:Wi,cs=q.arr.toList:=by
 obtain ⟨xs,n,_,hx,hl,hlen,hf⟩:=DataW.trod_struct zu62 h
 have hl5:cs.length=5:=hl.trans cells_wish
 match cs,hl5,xs,hlen with
 | [c0,c1,c2,c3,c4],_,[y0,y1,y2,y3],_=>
  have g0:=hf 0 _ rfl
  have g1:=hf 1 _ rfl
  have g2:=hf 2 _ rfl
  have g3:=hf 3 _ rfl
  simp [cells_int,cells_ints] at g0 g1 g2 g3
  obtain ⟨z0,z1,n1,s0,s1⟩:=trod_arr2 zu55 cells_int g0
  simp at s0 s1
  obtain ⟨a,e0,_,_⟩:=DataW.trod_int zu3 s0
  obtain ⟨b,e1,_,_⟩:=DataW.trod_int zu3 s1
  obtain ⟨c,e2,_,_⟩:=DataW.trod_int zu3 g1
  obtain ⟨d,e3,_,_⟩:=DataW.trod_int zu3 g2
  obtain ⟨e,e4,_,_⟩:=DataW.trod_int zu3 g3
  simp only [List.cons.injEq,and_true] at e0 e1 e2 e3 e4
  subst e0 e1 e2 e3 e4
  exact ⟨⟨a,b,c,d,e⟩,rfl⟩
theorem open_move {fuel:Nat} {cs:List Value} {x:DataW H×List MemPlace} (h:DataW.trod enc Tryz.prog w base spare held fuel 52 cs=some x) : ∃ m:Mv,cs=m.cs:=by
 obtain ⟨xs,n,_,hx,hl,hlen,hf⟩:=DataW.trod_struct zu52 h
 have hl9:cs.length=9:=hl.trans cells_move
 match cs,hl9,xs,hlen with
 | [c0,c1,c2,c3,c4,c5,c6,c7,c8],_,[y0,y1,y2,y3,y4],_=>
  have g0:=hf 0 _ rfl
  have g1:=hf 1 _ rfl
  have g2:=hf 2 _ rfl
  have g3:=hf 3 _ rfl
  have g4:=hf 4 _ rfl
  simp [cells_int,cells_str,cells_bool,cells_letter] at g0 g1 g2 g3 g4
  obtain ⟨k,e0,_,_⟩:=DataW.trod_int zu3 g0
  obtain ⟨f,e1,_,_⟩:=DataW.trod_int zu3 g1
  obtain ⟨t,e2,_,_⟩:=DataW.trod_string zu9 g2
  obtain ⟨l,e3,_⟩:=open_letter g3
  obtain ⟨b,e4,_⟩:=DataW.trod_bool zu4 g4
  simp only [List.cons.injEq,and_true,Lt.cs] at e0 e1 e2 e3 e4
  obtain ⟨e5,e6,e7,e8,e9⟩:=e3
  subst e0 e1 e2 e4 e5 e6 e7 e8 e9
  exact ⟨⟨k,f,t,l,b⟩,rfl⟩
theorem flat_at9 {L:List Mv} {j:Nat} {u:Value} (h:(L.flatMap Mv.cs)[j]?=some u) : ∃ x,L[j / 9]?=some x∧x.cs[j % 9]?=some u:=by
 have hlen:=has_all_len L
 have hj:j<L.length*9:=by rw [←hlen];exact (zM h)
 have hk:j / 9<L.length:=by omega
 refine ⟨_,zG hk,?_⟩
 have:=flat_get Mv.cs 9 (fun _=>rfl) L (j / 9) _ (zG hk) (j % 9) (by omega)
 rw [show j / 9*9+j % 9=j by omega,h] at this
 exact this.symm
theorem open_moves {fuel:Nat} {cs:List Value} {x:DataW H×List MemPlace} (h:DataW.trod enc Tryz.prog w base spare held fuel 48 cs=some x) :
 ∃ (v:Value) (L:List Mv),cs=[v]∧Row w 9 v L.length (L.flatMap Mv.cs)∧(v = .slice none 0 0∨∃ a n c,v = .slice (some a) n c):=by
 rcases open_slice zu48 h with ⟨h1,h2⟩|⟨a,len,cap,m,n,D,Pl,h1,_,h3,h4,hm,h5,h6⟩
 ·exact ⟨_,[],h1,⟨rfl,.inl ⟨rfl,none,0,rfl⟩⟩,.inl rfl⟩
 ·have hlm:len≤m:=by rw [hm];split<;>omega
  have key : ∀ i,i<len→∃ e:Mv,∀ j u,e.cs[j]?=some u→w.cell? ((a.add (i*9)).add j)=some u:=fun i hi=>by
   obtain ⟨cs',hc,ht⟩:=h6 i (by omega)
   rw [cells_move] at hc
   obtain ⟨e,rfl⟩:=open_move ht
   obtain ⟨_,hlen,hcell⟩:=World.cells?_some hc
   refine ⟨e,fun j u hj=>?_⟩
   have:j<9:=by have:=(zM hj);simpa [Mv.cs] using this
   rw [hcell j this];exact hj
  have hE : ∃ E:Nat→Mv,∀ i,i<len→∀ j u,(E i).cs[j]?=some u→w.cell? ((a.add (i*9)).add j)=some u:=
   ⟨fun i=>if hi:i<len then (key i hi).choose else m0,fun i hi=>by simp only [hi,dif_pos];exact (key i hi).choose_spec⟩
  obtain ⟨E,hE⟩:=hE
  refine ⟨_,(List.range len).map E,h1,?_,.inr ⟨_,_,_,rfl⟩⟩
  have hln:((List.range len).map E).length=len:=by simp
  rw [hln]
  refine ⟨by rw [has_all_len,hln],?_⟩
  by_cases h0:len=0
  ·exact .inl ⟨h0,_,_,by rw [h0]⟩
  ·obtain ⟨b,off,spot⟩:=a
   have hs:spot=none:=by
    have:=hE 0 (by omega) 0 _ rfl
    simpa [Addr.add] using World.cell?_spot this
   subst hs
   refine .inr ⟨b,off,cap,rfl,by omega,fun j u hj=>?_⟩
   obtain ⟨e,he,hu⟩:=flat_at9 hj
   have hk:j / 9<len:=by have:=(zM he);simpa using this
   rw [List.getElem?_map,List.getElem?_range hk] at he
   simp only [Option.map_some,Option.some.injEq] at he
   subst he
   have:=hE (j / 9) hk _ u hu
   rw [Go.WideShapes.add_plain,Go.WideShapes.add_plain,Nat.add_assoc,show j / 9*9+j % 9=j by omega] at this
   exact this
theorem open_search {fuel:Nat} {cs:List Value} {x:DataW H×List MemPlace} (h:DataW.trod enc Tryz.prog w base spare held fuel 64 cs=some x) :
 ∃ (e:Ex) (v:Value) (r:Rg) (tv:Value) (q:Wi) (l:List Mv) (mv:Value),cs=(seA e v r tv q mv).toList∧(Hrd w e v∧(v = .slice none 0 0∨∃ a n c,v = .slice (some a) n c)∧RngX e)∧(Row w 1 tv r.t.length (r.t.map Value.string)∧(tv = .slice none 0 0∨∃ a n c,tv = .slice (some a) n c))∧Row w 9 mv l.length (l.flatMap Mv.cs)∧(mv = .slice none 0 0∨∃ a n c,mv = .slice (some a) n c):=by
 obtain ⟨xs,n,_,hx,hl,hlen,hf⟩:=DataW.trod_struct zu64 h
 have hl36:cs.length=36:=hl.trans cells_search
 match xs,hlen with
 | [y0,y1,y2,y3],_=>
  have g0:=hf 0 _ rfl
  have g1:=hf 1 _ rfl
  have g2:=hf 2 _ rfl
  have g3:=hf 3 _ rfl
  simp [cells_ex,cells_range,cells_wish,cells_moves] at g0 g1 g2 g3
  obtain ⟨e,v,e0,hE⟩:=open_ex g0
  obtain ⟨r,tv,e1,hR,htv⟩:=open_range g1
  obtain ⟨q,e2⟩:=open_wish g2
  obtain ⟨mv,l,e3,hM,hmv⟩:=open_moves g3
  refine ⟨e,v,r,tv,q,l,mv,?_,hE,⟨hR,htv⟩,hM,hmv⟩
  have h1:cs=cs.take 26++((cs.drop 26).take 4++((cs.drop 30).take 5++(cs.drop 35).take 1)):=by
   have d2:(cs.drop 26).take 4++cs.drop 30=cs.drop 26:=by
    have:=List.take_append_drop 4 (cs.drop 26)
    rwa [List.drop_drop] at this
   have d3:(cs.drop 30).take 5++cs.drop 35=cs.drop 30:=by
    have:=List.take_append_drop 5 (cs.drop 30)
    rwa [List.drop_drop] at this
   have d4:(cs.drop 35).take 1=cs.drop 35:=List.take_of_length_le (by simp [hl36])
   rw [d4,d3,d2,List.take_append_drop]
  rw [h1,e0,e1,e2,e3]
  rfl
end
end Go.Proofs.YtlnmhocehgmbbaaGreatDoor

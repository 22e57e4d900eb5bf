/- No condition. -/
import Derived.Test.YtlnmhocehgmbbaaGreatDoorWY12
import Derived.Deep.CutBlock
set_option linter.all false
set_option maxRecDepth 100000
set_option maxHeartbeats 40000000
namespace Go.Proofs.YtlnmhocehgmbbaaGreatDoor
open Go.RowKit
attribute [local go_sem ↓] eql_lEq eql_sEq eql_eEq eql_oEq neq_lEq neq_sEq neq_eEq neq_oEq eql_vEq neq_vEq eql_nil
attribute [local go_sem] ExtOf.cell ExtOf.frozen ExtOf.lt ExtOf.le
attribute [local go_sem high] ExtOf.cell2 ExtOf.frozen2 ExtOf.lt2 ExtOf.cell3 ExtOf.frozen3 ExtOf.lt3
def zX:Array Value:=#[.int .u64 0,.int .i64 0,.int .u64 0,.string { data:=#[] },.int .i64 0,.int .i64 0,.int .i64 0,.int .u64 0,.string { data:=#[] },.bool false,.int .i64 0,.int .u64 0,.string { data:=#[] },.int .i64 0,.int .i64 0,.int .i64 0,.int .u64 0,.string { data:=#[] },.bool false,.int .u64 0,.int .i64 0,.string { data:=#[] },.bool false,.bool false,.bool false,.slice none 0 0]
def Ev.ar (e:Ev):Array Value:=#[.int .i64 e.k,.int .u64 e.c,.string e.t,.int .i64 e.l.k,.int .i64 e.l.f,.int .u64 e.l.c,.string e.l.t,.bool e.l.b]
inductive Ways (x:Ex) (m:Mv):Ex×Bool→Prop
 | who (h4:(m.k == 4)=false) (h6:(m.k == 6)=false) (hw0:(m.who != 0)=true) (hw1:(m.who != 1)=true):Ways x m (x,false)
 | no (h4:(m.k == 4)=false) (h6:(m.k == 6)=false) (h5:(m.k == 5)=false) (h1:(m.k == 1)=false) (h2:(m.k == 2)=false) (h3:(m.k == 3)=false) (hw:m.who=0∨m.who=1):Ways x m (x,false)
 | full (h4:(m.k == 4)=false) (h6:(m.k == 6)=true):Ways x m ({ x with full:=true },true)
 | bad0 (h4:(m.k == 4)=false) (h6:(m.k == 6)=false) (h5:(m.k == 5)=true) (hw:m.who=0):Ways x m ({ x with b0:=true },true)
 | bad1 (h4:(m.k == 4)=false) (h6:(m.k == 6)=false) (h5:(m.k == 5)=true) (hw:m.who=1):Ways x m ({ x with b1:=true },true)
 | ask0 (h4:(m.k == 4)=true) (hcan:canS x m.l=false):Ways x m (x,false)
 | take0 (h4:(m.k == 4)=false) (h6:(m.k == 6)=false) (h5:(m.k == 5)=false) (h1:(m.k == 1)=false) (h2:(m.k == 2)=true) (hcan:canS x m.l=false) (hw:m.who=0∨m.who=1):Ways x m (x,false)
 | ask1 (h4:(m.k == 4)=true) (hcan:canS x m.l=true):Ways x m (askX x m,true)
 | party {Y:Ex×Bool} (hY:Y=if x.bad m.who=true then (x,false) else (partyX x m,true)) (h4:(m.k == 4)=false) (h6:(m.k == 6)=false) (h5:(m.k == 5)=false) (hk:(m.k == 1)=true∨((m.k == 1)=false∧(m.k == 2)=true∧canS x m.l=true)∨((m.k == 1)=false∧(m.k == 2)=false∧(m.k == 3)=true)) (hw:m.who=0∨m.who=1):Ways x m Y
theorem ways (x:Ex) (m:Mv):Ways x m (stepX x m):=by
 unfold stepX
 rcases h4:(m.k == 4)
 case true=>
  rw [if_pos (by simpa using h4)]
  rcases hcan:canS x m.l
  ·exact .ask0 h4 hcan
  ·exact .ask1 h4 hcan
 rw [if_neg (by simpa using h4)]
 rcases h6:(m.k == 6)
 case true=>
  rw [if_pos (by simpa using h6)]
  exact .full h4 h6
 rw [if_neg (by simpa using h6)]
 by_cases hw:m.who=0∨m.who=1
 case neg=>
  rw [if_neg hw]
  exact .who h4 h6 (by simp only [not_or] at hw;simpa using hw.1) (by simp only [not_or] at hw;simpa using hw.2)
 rw [if_pos hw]
 rcases h5:(m.k == 5)
 case true=>
  rw [if_pos (by simpa using h5)]
  rcases hw with hw|hw
  ·rw [if_pos hw];exact .bad0 h4 h6 h5 hw
  ·rw [if_neg (by omega)];exact .bad1 h4 h6 h5 hw
 rw [if_neg (by simpa using h5)]
 rcases h1:(m.k == 1)
 case true=>
  rw [if_pos (.inl (by simpa using h1))]
  exact .party rfl h4 h6 h5 (.inl h1) hw
 have k1 : ¬m.k=1:=by simpa using h1
 rcases h2:(m.k == 2)
 case true=>
  have k2:m.k=2:=by simpa using h2
  rcases hcan:canS x m.l
  ·rw [if_neg (by simp [k2])]
   exact .take0 h4 h6 h5 h1 h2 hcan hw
  ·rw [if_pos (.inr (.inr ⟨k2,rfl⟩))]
   exact .party rfl h4 h6 h5 (.inr (.inl ⟨h1,h2,hcan⟩)) hw
 have k2 : ¬m.k=2:=by simpa using h2
 rcases h3:(m.k == 3)
 ·have k3 : ¬m.k=3:=by simpa using h3
  rw [if_neg (by simp [k1,k2,k3])]
  exact .no h4 h6 h5 h1 h2 h3 hw
 ·rw [if_pos (.inr (.inl (by simpa using h3)))]
  exact .party rfl h4 h6 h5 (.inr (.inr ⟨h1,h2,h3⟩)) hw
theorem mo_Step (x:Ex) (v:Value) (m:Mv) (w:World) (B0:Nat) (hO:Own w B0 x.h v) (hn:x.h.length≤100000):Calls Tryz.prog 42 #[.agg (x.arr v),.agg m.arr] w (Stpd w (stepX x m).1 (stepX x m).2):=by
 have HW:=zd (ways x m)
 generalize stepX x m=Y at HW ⊢
 have hC:=fun w' (hw:Ext w w')=>mo_can x v m.l w' (Row.ext hO.row hw)
 have HC0:=zd hC
 clear hC
 obtain ⟨sa,sn,sc,hsv⟩:=own_slice hO
 have hv1:v.oneCell'=true:=by rw [hsv];rfl
 have HO:=zd hO
 clear hO hsv
 go_enter Tryz.func42,Tryz.ntmps42
 go_upto_region 1 with fail
 refine wp_forget (fun w'=>ExAt w' w.heap.size x v∧w'.heap[w.heap.size+1]?=some (.cells m.arr 52 (0,0))∧w'.heap[w.heap.size+1+1]?=some (.cells zX 33 (0,0))∧Ext w w') (three_new zR) ?_
 rintro W1 ⟨h1,h2,h3,e1⟩
 have HX1:=zd h1
 have HM1:=zd h2
 have HR1:=zd h3
 have HE1:=zd e1
 clear h1 h2 h3 e1
 go_upto_region 2 with (first
  | (refine wpList_load_row rfl 33 _ rfl _ rfl _ _ (0,0) _ HX1.out zu33 rfl info_ex ?_)
  | (refine wpList_store_row rfl 33 _ _ rfl _ _ rfl rfl 33 _ (heap_new rfl) info_ex rfl (arr_one x hv1) ?_))
 refine wp_forget (fun w'=>ExAt w' W1.heap.size x v∧Ext W1 w'∧W1.heap.size<w'.heap.size) ⟨setRow_heap _ _ _ _ _ _ (heap_new rfl),((Ext.refl W1).alloc _).setRow zN _,by simp⟩ ?_
 rintro W2 ⟨h1,e1,h2⟩
 have hl1:w.heap.size+1+1<W1.heap.size:=zL HR1.out
 have qx2:W2.cell? ⟨w.heap.size,25,none⟩=some v:=by rw [zQ (HX1.out.ext e1) _];rfl
 have lx2:w.heap.size<W2.heap.size:=by omega
 have HY2:=zd h1
 have HE2:=zd e1
 clear h1 e1
 have h2':=h2
 go_upto_region 3 with (go_at_call 51;refine (sl_clone v B0 x.h W2 (HO.out.ext (HE1.out.trans HE2.out)) hn).mono ?_;rintro e W3 ⟨v1,rfl,hown,hx⟩;obtain ⟨s1a,s1n,s1c,rfl⟩:=own_slice hown;have HO3:=zd hown;have hy3:=HY2.out.ext hx;have HY3:=zd hy3;unfold ExAt Ex.arr at hy3;have qy3:=zQ hy3;have fy3:=zF hy3;have ly3:W1.heap.size<W3.heap.size:=(zL hy3);have HE3:=zd hx;clear hown hx hy3)
 refine wp_forget (fun w'=>ExAt w' W1.heap.size x (.slice s1a s1n s1c)∧Own w' W2.heap.size x.h (.slice s1a s1n s1c)∧Ext W1 w'∧W2.heap.size≤w'.heap.size) ⟨?a1,?a2,?a3,?a4⟩ ?ar
 case a1=>exact setCell_row (o:=25) HY3.out _
 case a2=>exact own_same HO3.out fun k hk _=>cell_other (o:=25) (show k≠W1.heap.size by omega)
 case a3=>exact (HE2.out.trans HE3.out).setCell zN _
 case a4=>simpa [World.setCell] using HE3.out.size
 rintro W4 ⟨h1,h3,h4,h5⟩
 have hx4:=HX1.out.ext h4
 unfold ExAt Ex.arr at hx4
 have qx4:=zQ hx4
 have lx4:w.heap.size<W4.heap.size:=by omega
 have HY4:=zd h1
 have HO4:=zd h3
 have HE4:=zd h4
 clear h1 h3 h4 hx4 qy3 fy3 ly3 HO3 HY3 HE3 qx2 lx2 HY2
 go_upto_region 4 with fail
 refine wp_forget (fun w'=>At4 w w' W2.heap.size W1.heap.size W4.heap.size x m v (.slice s1a s1n s1c) zX) ⟨HX1.out.ext (HE4.out.alloc _),heap_ext HM1.out (HE4.out.alloc _),heap_ext HR1.out (HE4.out.alloc _),HY4.out.ext (zR.alloc _),HO4.out.ext (zR.alloc _),heap_new rfl,HE1.out.trans (HE4.out.alloc _),hl1,h2',h5,fun g hg=>(own_rowB HO4.out g hg).2,rfl⟩ ?_
 clear qx4 lx4 HX1 HM1 HR1 HY4 HO4 HE4 HE2 HE1
 rintro W5 A4
 have hx5:=A4.hx
 unfold ExAt Ex.arr at hx5
 have qx:=zQ hx5
 have hm5:=A4.hm
 unfold Mv.arr at hm5
 have qm:=zQ hm5
 have hy5:=A4.hy
 unfold ExAt Ex.arr at hy5
 have qy:=zQ hy5
 have fy:=zF hy5
 have lx:w.heap.size<W5.heap.size:=zL hx5
 have lm:w.heap.size+1<W5.heap.size:=zL hm5
 have ly:W1.heap.size<W5.heap.size:=zL hy5
 clear hx5 hm5 hy5
 have HA:=zd A4
 clear A4
 cases HW.out with
 | who h4 h6 hw0 hw1=>
  ·
   clear HC0 HW
   go_wp2_with (first|(refine wpList_load_row rfl 33 _ rfl _ rfl _ _ (0,0) _ (HA.out.hy) zu33 rfl info_ex ?_)|(refine wpList_store_row rfl 33 _ _ rfl _ _ rfl rfl 33 _ (HA.out.hr) info_ex rfl (arr_one (x) rfl) ?_))
   refine bodyPost_ret (results_row_tmp rfl _ _ _ 33 _ (0,0) _ rfl (setRow_heap _ _ _ _ _ _ (HA.out.hr)) zu33 rfl info_ex) rfl ?_
   exact ⟨_,rfl,own_setRow (own_base (b':=w.heap.size) (HA.out.ho) (by have:=HA.out.hgy;have:=HA.out.hB;omega)) (HA.out.hr) (by decide) _,Ext.setRow (HA.out.ext) (by omega) _⟩
 | no h4 h6 h5 h1 h2 h3 hw=>
  ·
   clear HC0 HW
   rcases hw with hw|hw
   all_goals
    go_wp2_with (first|(refine wpList_load_row rfl 33 _ rfl _ rfl _ _ (0,0) _ (HA.out.hy) zu33 rfl info_ex ?_)|(refine wpList_store_row rfl 33 _ _ rfl _ _ rfl rfl 33 _ (HA.out.hr) info_ex rfl (arr_one (x) rfl) ?_))
    refine bodyPost_ret (results_row_tmp rfl _ _ _ 33 _ (0,0) _ rfl (setRow_heap _ _ _ _ _ _ (HA.out.hr)) zu33 rfl info_ex) rfl ?_
    exact ⟨_,rfl,own_setRow (own_base (b':=w.heap.size) (HA.out.ho) (by have:=HA.out.hgy;have:=HA.out.hB;omega)) (HA.out.hr) (by decide) _,Ext.setRow (HA.out.ext) (by omega) _⟩
 | full h4 h6=>
  ·
   clear HC0 HW
   have hy':ExAt (W5.setCell ⟨W1.heap.size,24,none⟩ (.bool true)) W1.heap.size { x with full:=true } (.slice s1a s1n s1c):=setCell_row HA.out.hy _
   have hr':=(cell_other (w:=W5) (b:=W1.heap.size) (o:=24) (v:=.bool true) (show w.heap.size+1+1≠W1.heap.size by omega)).trans HA.out.hr
   have ho':=own_same HA.out.ho (w':=W5.setCell ⟨W1.heap.size,24,none⟩ (.bool true)) fun k hk _=>cell_other (show k≠W1.heap.size by omega)
   have HY:=zd hy'
   have HR:=zd hr'
   have HO2:=zd ho'
   clear hy' hr' ho'
   go_wp2_with (first|(refine wpList_load_row rfl 33 _ rfl _ rfl _ _ (0,0) _ (HY.out) zu33 rfl info_ex ?_)|(refine wpList_store_row rfl 33 _ _ rfl _ _ rfl rfl 33 _ (HR.out) info_ex rfl (arr_one ({ x with full:=true }) rfl) ?_))
   refine bodyPost_ret (results_row_tmp rfl _ _ _ 33 _ (0,0) _ rfl (setRow_heap _ _ _ _ _ _ (HR.out)) zu33 rfl info_ex) rfl ?_
   exact ⟨_,rfl,own_setRow (own_base (b':=w.heap.size) (HO2.out) (by have:=HA.out.hgy;have:=HA.out.hB;omega)) (HR.out) (by decide) _,Ext.setRow (HA.out.ext.setCell (by simp only [];omega) _) (by omega) _⟩
 | bad0 h4 h6 h5 hw=>
  ·
   clear HC0 HW
   have hy':ExAt (W5.setCell ⟨W1.heap.size,22,none⟩ (.bool true)) W1.heap.size { x with b0:=true } (.slice s1a s1n s1c):=setCell_row HA.out.hy _
   have hr':=(cell_other (w:=W5) (b:=W1.heap.size) (o:=22) (v:=.bool true) (show w.heap.size+1+1≠W1.heap.size by omega)).trans HA.out.hr
   have ho':=own_same HA.out.ho (w':=W5.setCell ⟨W1.heap.size,22,none⟩ (.bool true)) fun k hk _=>cell_other (show k≠W1.heap.size by omega)
   have HY:=zd hy'
   have HR:=zd hr'
   have HO2:=zd ho'
   clear hy' hr' ho'
   go_wp2_with (first|(refine wpList_load_row rfl 33 _ rfl _ rfl _ _ (0,0) _ (HY.out) zu33 rfl info_ex ?_)|(refine wpList_store_row rfl 33 _ _ rfl _ _ rfl rfl 33 _ (HR.out) info_ex rfl (arr_one ({ x with b0:=true }) rfl) ?_))
   refine bodyPost_ret (results_row_tmp rfl _ _ _ 33 _ (0,0) _ rfl (setRow_heap _ _ _ _ _ _ (HR.out)) zu33 rfl info_ex) rfl ?_
   exact ⟨_,rfl,own_setRow (own_base (b':=w.heap.size) (HO2.out) (by have:=HA.out.hgy;have:=HA.out.hB;omega)) (HR.out) (by decide) _,Ext.setRow (HA.out.ext.setCell (by simp only [];omega) _) (by omega) _⟩
 | bad1 h4 h6 h5 hw=>
  ·
   clear HC0 HW
   have hy':ExAt (W5.setCell ⟨W1.heap.size,23,none⟩ (.bool true)) W1.heap.size { x with b1:=true } (.slice s1a s1n s1c):=setCell_row HA.out.hy _
   have hr':=(cell_other (w:=W5) (b:=W1.heap.size) (o:=23) (v:=.bool true) (show w.heap.size+1+1≠W1.heap.size by omega)).trans HA.out.hr
   have ho':=own_same HA.out.ho (w':=W5.setCell ⟨W1.heap.size,23,none⟩ (.bool true)) fun k hk _=>cell_other (show k≠W1.heap.size by omega)
   have HY:=zd hy'
   have HR:=zd hr'
   have HO2:=zd ho'
   clear hy' hr' ho'
   go_wp2_with (first|(refine wpList_load_row rfl 33 _ rfl _ rfl _ _ (0,0) _ (HY.out) zu33 rfl info_ex ?_)|(refine wpList_store_row rfl 33 _ _ rfl _ _ rfl rfl 33 _ (HR.out) info_ex rfl (arr_one ({ x with b1:=true }) rfl) ?_))
   refine bodyPost_ret (results_row_tmp rfl _ _ _ 33 _ (0,0) _ rfl (setRow_heap _ _ _ _ _ _ (HR.out)) zu33 rfl info_ex) rfl ?_
   exact ⟨_,rfl,own_setRow (own_base (b':=w.heap.size) (HO2.out) (by have:=HA.out.hgy;have:=HA.out.hB;omega)) (HR.out) (by decide) _,Ext.setRow (HA.out.ext.setCell (by simp only [];omega) _) (by omega) _⟩
 | ask0 h4 hcan=>
  ·
   have hC:=HC0.out
   rw [hcan] at hC
   have HC:=zd hC
   clear hC hcan HC0 HW
   go_wp2_with (first|(go_at_call 64;refine (HC.out _ HA.out.ext).mono ?_;rintro e W6 ⟨rfl,hx⟩;have hm6:=heap_ext HA.out.hm hx;unfold Mv.arr at hm6;clear qm qx qy fy lx lm ly;have qm:=zQ hm6;have lm:w.heap.size+1<W6.heap.size:=(zL hm6);have HX6:=zd hx;clear hx hm6)|(refine wpList_load_row rfl 33 _ rfl _ rfl _ _ (0,0) _ (HA.out.hx) zu33 rfl info_ex ?_)|(refine wpList_load_row rfl 33 _ rfl _ rfl _ _ (0,0) _ (HA.out.hy.ext HX6.out) zu33 rfl info_ex ?_)|(refine wpList_store_row rfl 33 _ _ rfl _ _ rfl rfl 33 _ (heap_ext HA.out.hr HX6.out) info_ex rfl (arr_one (x) rfl) ?_))
   refine bodyPost_ret (results_row_tmp rfl _ _ _ 33 _ (0,0) _ rfl (setRow_heap _ _ _ _ _ _ (heap_ext HA.out.hr HX6.out)) zu33 rfl info_ex) rfl ?_
   exact ⟨_,rfl,own_setRow (own_base (b':=w.heap.size) (HA.out.ho.ext HX6.out) (by have:=HA.out.hgy;have:=HA.out.hB;omega)) (heap_ext HA.out.hr HX6.out) (by decide) _,Ext.setRow (HA.out.ext.trans HX6.out) (by omega) _⟩
 | take0 h4 h6 h5 h1 h2 hcan hw=>
  ·
   have hC:=HC0.out
   rw [hcan] at hC
   have HC:=zd hC
   clear hC hcan HC0 HW
   rcases hw with hw|hw
   all_goals
    go_wp2_with (first|(go_at_call 64;refine (HC.out _ HA.out.ext).mono ?_;rintro e W6 ⟨rfl,hx⟩;have hm6:=heap_ext HA.out.hm hx;unfold Mv.arr at hm6;clear qm qx qy fy lx lm ly;have qm:=zQ hm6;have lm:w.heap.size+1<W6.heap.size:=(zL hm6);have HX6:=zd hx;clear hx hm6)|(refine wpList_load_row rfl 33 _ rfl _ rfl _ _ (0,0) _ (HA.out.hx) zu33 rfl info_ex ?_)|(refine wpList_load_row rfl 33 _ rfl _ rfl _ _ (0,0) _ (HA.out.hy.ext HX6.out) zu33 rfl info_ex ?_)|(refine wpList_store_row rfl 33 _ _ rfl _ _ rfl rfl 33 _ (heap_ext HA.out.hr HX6.out) info_ex rfl (arr_one (x) rfl) ?_))
    refine bodyPost_ret (results_row_tmp rfl _ _ _ 33 _ (0,0) _ rfl (setRow_heap _ _ _ _ _ _ (heap_ext HA.out.hr HX6.out)) zu33 rfl info_ex) rfl ?_
    exact ⟨_,rfl,own_setRow (own_base (b':=w.heap.size) (HA.out.ho.ext HX6.out) (by have:=HA.out.hgy;have:=HA.out.hB;omega)) (heap_ext HA.out.hr HX6.out) (by decide) _,Ext.setRow (HA.out.ext.trans HX6.out) (by omega) _⟩
 | ask1 h4 hcan=>
  ·
   have hC:=HC0.out
   rw [hcan] at hC
   have HC:=zd hC
   clear hC hcan HC0 HW
   go_wp2_with (first|(go_at_call 64;refine (HC.out _ HA.out.ext).mono ?_;rintro e W6 ⟨rfl,hx⟩;have hm6:=heap_ext HA.out.hm hx;unfold Mv.arr at hm6;clear qm qx qy fy lx lm ly;have qm:=zQ hm6;have lm:w.heap.size+1<W6.heap.size:=(zL hm6);have HX6:=zd hx;clear hx hm6)|(go_at_call 69;refine (mo_asked W2.heap.size W1.heap.size x _ m W6 (HA.out.hy.ext HX6.out) (HA.out.ho.ext HX6.out) HA.out.hB (zT HA.out.hge (zT (Nat.le_of_lt (zL HA.out.he)) HX6.out.size)) hn).mono ?_;rintro e W7 ⟨rfl,v2,hy7,ho7,hk7,hr7⟩;obtain ⟨s2a,s2n,s2c,rfl⟩:=own_slice ho7;have HY7:=zd hy7;have HO7:=zd ho7;have hR7:=(hk7.block _ (zU (zL HA.out.hr) HX6.out.size) (by simp only [List.mem_cons,not_or];exact ⟨by have:=HA.out.hgy;omega,fun hm=>by have:=(own_rowB HA.out.ho _ hm).1;have:=HA.out.hgy;have:=HA.out.hB;omega⟩)).trans (heap_ext HA.out.hr HX6.out);have HR7:=zd hR7;have he7:Ext w W7:=keeps_ext (HA.out.ext.trans HX6.out) hk7 (by intro g hg;simp only [List.mem_cons] at hg;exact hg.elim (fun h=>by have:=HA.out.hgy;omega) (fun h=>by have:=(own_rowB HA.out.ho _ h).1;have:=HA.out.hgy;have:=HA.out.hB;omega));have HE7:=zd he7;clear hy7 ho7 hk7 hr7 hR7 he7 qm lm)|(refine wpList_load_row rfl 52 _ rfl _ rfl _ _ (0,0) _ (heap_ext HA.out.hm HX6.out) zu52 rfl info_mv ?_)|(refine wpList_load_row rfl 33 _ rfl _ rfl _ _ (0,0) _ (HY7.out) zu33 rfl info_ex ?_)|(refine wpList_load_row rfl 33 _ rfl _ rfl _ _ (0,0) _ (HA.out.hx) zu33 rfl info_ex ?_)|(refine wpList_store_row rfl 33 _ _ rfl _ _ rfl rfl 33 _ (HR7.out) info_ex rfl (arr_one (askX x m) rfl) ?_))
   refine bodyPost_ret (results_row_tmp rfl _ _ _ 33 _ (0,0) _ rfl (setRow_heap _ _ _ _ _ _ (HR7.out)) zu33 rfl info_ex) rfl ?_
   exact ⟨_,rfl,own_setRow (own_base (b':=w.heap.size) (HO7.out) (by have:=HA.out.hgy;have:=HA.out.hB;omega)) (HR7.out) (by decide) _,Ext.setRow (HE7.out) (by omega) _⟩
 | party hY h4 h6 h5 hk hw=>
  ·
   have HK:Hid ((m.k == 1)=true∨((m.k == 1)=false∧(m.k == 2)=true∧canS x m.l=true)∨((m.k == 1)=false∧(m.k == 2)=false∧(m.k == 3)=true)):=zd hk
   clear hk HW
   obtain ⟨E,hE⟩ : ∃ E,evX x m=E:=⟨_,rfl⟩
   have HE:=zd hE
   clear hE
   have HY:=zd hY
   clear hY
   rcases hw with hw|hw
   all_goals
    have he5:=HA.out.he
    have qe:=zQ he5
    have fe:=zF he5
    have le5:W4.heap.size<W5.heap.size:=zL he5
    clear he5
    go_upto_block 1 with fail
    go_cut [] from 48 to 76 (fun wc=>Hid (At8 w wc W2.heap.size W1.heap.size W4.heap.size x m v (.slice s1a s1n s1c) zX E.ar))
    case first=>
     rcases HK.out with h1|⟨h1,h2,hcan⟩|⟨h1,h2,h3⟩
     ·go_wp2_with fail
      go_region
      go_wp2_with fail
      go_meet
      case rel=>exact zd (by
       rw [←HE.out]
       unfold evX
       rw [if_pos (by simpa using h1)]
       exact HA.out.to8 ((((Keeps.refl _ _).setCell (.inl (.head _)) _ _).setCell (.inl (.head _)) _ _).ext zR.drew) (setCell_row (o:=2) (setCell_row (o:=0) HA.out.he _) _))
     ·have hC:=HC0.out
      rw [hcan] at hC
      have HC:=zd hC
      clear hC hcan
      go_wp2_with (first|(go_at_call 64;refine (HC.out _ HA.out.ext).mono ?_;rintro e W6 ⟨rfl,hx⟩;have hm6:=heap_ext HA.out.hm hx;unfold Mv.arr at hm6;have hx6:=HA.out.hx.ext hx;unfold ExAt Ex.arr at hx6;have he6:=heap_ext HA.out.he hx;clear qm qx qy fy lx lm ly qe fe le5;have qm:=zQ hm6;have qx:=zQ hx6;have qe:=zQ he6;have fe:=zF he6;have lm:w.heap.size+1<W6.heap.size:=(zL hm6);have lx:w.heap.size<W6.heap.size:=(zL hx6);have le6:W4.heap.size<W6.heap.size:=(zL he6);have HX6:=zd hx;clear hx hm6 hx6 he6)|(refine wpList_load_row rfl 33 _ rfl _ rfl _ _ (0,0) _ (HA.out.hx) zu33 rfl info_ex ?_))
      go_region
      go_wp2_with fail
      have he60:=heap_ext HA.out.he HX6.out
      have hk60:Keeps [W4.heap.size] W6 W6:=Keeps.refl _ _
      have he61:(W6.setCell ⟨W4.heap.size,0,none⟩ (.int .i64 2)).heap[W4.heap.size]?=some (.cells #[.int .i64 2,.int .u64 x.c,.string { data:=#[] },.int .i64 0,.int .i64 0,.int .u64 0,.string { data:=#[] },.bool false] 102 (0,0)):=setCell_row he60 _
      have hk61:Keeps [W4.heap.size] W6 (W6.setCell ⟨W4.heap.size,0,none⟩ (.int .i64 2)):=hk60.setCell (.inl (.head _)) _ _
      have he62:((W6.setCell ⟨W4.heap.size,0,none⟩ (.int .i64 2)).setCell ⟨W4.heap.size,3,none⟩ (.int .i64 m.l.k)).heap[W4.heap.size]?=some (.cells #[.int .i64 2,.int .u64 x.c,.string { data:=#[] },.int .i64 m.l.k,.int .i64 0,.int .u64 0,.string { data:=#[] },.bool false] 102 (0,0)):=setCell_row he61 _
      have hk62:Keeps [W4.heap.size] W6 ((W6.setCell ⟨W4.heap.size,0,none⟩ (.int .i64 2)).setCell ⟨W4.heap.size,3,none⟩ (.int .i64 m.l.k)):=hk61.setCell (.inl (.head _)) _ _
      have he63:(((W6.setCell ⟨W4.heap.size,0,none⟩ (.int .i64 2)).setCell ⟨W4.heap.size,3,none⟩ (.int .i64 m.l.k)).setCell ⟨W4.heap.size,4,none⟩ (.int .i64 m.l.f)).heap[W4.heap.size]?=some (.cells #[.int .i64 2,.int .u64 x.c,.string { data:=#[] },.int .i64 m.l.k,.int .i64 m.l.f,.int .u64 0,.string { data:=#[] },.bool false] 102 (0,0)):=setCell_row he62 _
      have hk63:Keeps [W4.heap.size] W6 (((W6.setCell ⟨W4.heap.size,0,none⟩ (.int .i64 2)).setCell ⟨W4.heap.size,3,none⟩ (.int .i64 m.l.k)).setCell ⟨W4.heap.size,4,none⟩ (.int .i64 m.l.f)):=hk62.setCell (.inl (.head _)) _ _
      have he64:((((W6.setCell ⟨W4.heap.size,0,none⟩ (.int .i64 2)).setCell ⟨W4.heap.size,3,none⟩ (.int .i64 m.l.k)).setCell ⟨W4.heap.size,4,none⟩ (.int .i64 m.l.f)).setCell ⟨W4.heap.size,5,none⟩ (.int .u64 m.l.c)).heap[W4.heap.size]?=some (.cells #[.int .i64 2,.int .u64 x.c,.string { data:=#[] },.int .i64 m.l.k,.int .i64 m.l.f,.int .u64 m.l.c,.string { data:=#[] },.bool false] 102 (0,0)):=setCell_row he63 _
      have hk64:Keeps [W4.heap.size] W6 ((((W6.setCell ⟨W4.heap.size,0,none⟩ (.int .i64 2)).setCell ⟨W4.heap.size,3,none⟩ (.int .i64 m.l.k)).setCell ⟨W4.heap.size,4,none⟩ (.int .i64 m.l.f)).setCell ⟨W4.heap.size,5,none⟩ (.int .u64 m.l.c)):=hk63.setCell (.inl (.head _)) _ _
      have he65:(((((W6.setCell ⟨W4.heap.size,0,none⟩ (.int .i64 2)).setCell ⟨W4.heap.size,3,none⟩ (.int .i64 m.l.k)).setCell ⟨W4.heap.size,4,none⟩ (.int .i64 m.l.f)).setCell ⟨W4.heap.size,5,none⟩ (.int .u64 m.l.c)).setCell ⟨W4.heap.size,6,none⟩ (.string m.l.t)).heap[W4.heap.size]?=some (.cells #[.int .i64 2,.int .u64 x.c,.string { data:=#[] },.int .i64 m.l.k,.int .i64 m.l.f,.int .u64 m.l.c,.string m.l.t,.bool false] 102 (0,0)):=setCell_row he64 _
      have hk65:Keeps [W4.heap.size] W6 (((((W6.setCell ⟨W4.heap.size,0,none⟩ (.int .i64 2)).setCell ⟨W4.heap.size,3,none⟩ (.int .i64 m.l.k)).setCell ⟨W4.heap.size,4,none⟩ (.int .i64 m.l.f)).setCell ⟨W4.heap.size,5,none⟩ (.int .u64 m.l.c)).setCell ⟨W4.heap.size,6,none⟩ (.string m.l.t)):=hk64.setCell (.inl (.head _)) _ _
      have he66:((((((W6.setCell ⟨W4.heap.size,0,none⟩ (.int .i64 2)).setCell ⟨W4.heap.size,3,none⟩ (.int .i64 m.l.k)).setCell ⟨W4.heap.size,4,none⟩ (.int .i64 m.l.f)).setCell ⟨W4.heap.size,5,none⟩ (.int .u64 m.l.c)).setCell ⟨W4.heap.size,6,none⟩ (.string m.l.t)).setCell ⟨W4.heap.size,7,none⟩ (.bool m.l.b)).heap[W4.heap.size]?=some (.cells #[.int .i64 2,.int .u64 x.c,.string { data:=#[] },.int .i64 m.l.k,.int .i64 m.l.f,.int .u64 m.l.c,.string m.l.t,.bool m.l.b] 102 (0,0)):=setCell_row he65 _
      have hk66:Keeps [W4.heap.size] W6 ((((((W6.setCell ⟨W4.heap.size,0,none⟩ (.int .i64 2)).setCell ⟨W4.heap.size,3,none⟩ (.int .i64 m.l.k)).setCell ⟨W4.heap.size,4,none⟩ (.int .i64 m.l.f)).setCell ⟨W4.heap.size,5,none⟩ (.int .u64 m.l.c)).setCell ⟨W4.heap.size,6,none⟩ (.string m.l.t)).setCell ⟨W4.heap.size,7,none⟩ (.bool m.l.b)):=hk65.setCell (.inl (.head _)) _ _
      have hat8:At8 w ((((((W6.setCell ⟨W4.heap.size,0,none⟩ (.int .i64 2)).setCell ⟨W4.heap.size,3,none⟩ (.int .i64 m.l.k)).setCell ⟨W4.heap.size,4,none⟩ (.int .i64 m.l.f)).setCell ⟨W4.heap.size,5,none⟩ (.int .u64 m.l.c)).setCell ⟨W4.heap.size,6,none⟩ (.string m.l.t)).setCell ⟨W4.heap.size,7,none⟩ (.bool m.l.b)).drew W2.heap.size W1.heap.size W4.heap.size x m v (.slice s1a s1n s1c) _ #[.int .i64 2,.int .u64 x.c,.string { data:=#[] },.int .i64 m.l.k,.int .i64 m.l.f,.int .u64 m.l.c,.string m.l.t,.bool m.l.b]:=(HA.out.ext' HX6.out).to8 (hk66.ext zR.drew) (heap_ext he66 zR.drew)
      clear he60 hk60 he61 hk61 he62 hk62 he63 hk63 he64 hk64 he65 hk65 he66 hk66
      go_meet
      case rel=>exact zd (by
       rw [←HE.out]
       unfold evX
       rw [if_neg (by simpa using h1),if_pos (by simpa using h2)]
       exact hat8)
     ·go_wp2_with fail
      go_meet
      case rel=>exact zd (by
       rw [←HE.out]
       unfold evX
       rw [if_neg (by simpa using h1),if_neg (by simpa using h2)]
       exact HA.out.to8 ((Keeps.refl _ _).setCell (.inl (.head _)) _ _) (setCell_row (o:=0) HA.out.he _))
    clear qx qm qy fy lx lm ly qe fe le5 HA
    rename World=>W8
    have A8:=hcut.out
    clear hcut
    have hx8:=A8.hx
    unfold ExAt Ex.arr at hx8
    have qx:=zQ hx8
    have hm8:=A8.hm
    unfold Mv.arr at hm8
    have qm:=zQ hm8
    have he8:=A8.he
    unfold Ev.ar at he8
    have qe:=zQ he8
    have lx:w.heap.size<W8.heap.size:=zL hx8
    have lm:w.heap.size+1<W8.heap.size:=zL hm8
    have le8:W4.heap.size<W8.heap.size:=zL he8
    have ly8:W1.heap.size<W8.heap.size:=zL A8.hy
    clear hx8 hm8 he8
    have hgB:W2.heap.size≤W8.heap.size:=by have:=A8.hge;omega
    have HA:=zd A8
    clear A8
   ·have hbe:x.bad m.who=x.b0:=by rw [hw];rfl
    have HBE:=zd hbe
    clear hbe
    rcases hbad:x.b0
    case true=>
     obtain rfl:Y=(x,false):=by rw [HY.out,HBE.out,hbad];rfl
     go_wp2_with (first|(refine wpList_load_row rfl 33 _ rfl _ rfl _ _ (0,0) _ (HA.out.hy) zu33 rfl info_ex ?_)|(refine wpList_store_row rfl 33 _ _ rfl _ _ rfl rfl 33 _ (HA.out.hr) info_ex rfl (arr_one (x) rfl) ?_))
     refine bodyPost_ret (results_row_tmp rfl _ _ _ 33 _ (0,0) _ rfl (setRow_heap _ _ _ _ _ _ (HA.out.hr)) zu33 rfl info_ex) rfl ?_
     exact ⟨_,rfl,own_setRow (own_base (b':=w.heap.size) (HA.out.ho) (by have:=HA.out.hgy;have:=HA.out.hB;omega)) (HA.out.hr) (by decide) _,Ext.setRow (HA.out.ext) (by omega) _⟩
    have hYE:Y=({ x with s0:=(stepP 0 x.s0 E).1,h:=hearsS x.h m.lost ((stepP 0 x.s0 E).2.map (·.l)) },true):=by
     rw [HY.out,HBE.out,if_neg (by rw [hbad];simp)]
     unfold partyX
     rw [HE.out,hw]
     rfl
    clear HY HBE HE
    have hlen:=stepP_len 0 x.s0 E
    have hT : ∀ w',Calls Tryz.prog 70 #[.int .i64 0,.agg #[.int .i64 x.s0.r,.int .u64 x.s0.c,.string x.s0.t,.int .i64 x.s0.ph,.int .i64 x.s0.p.k,.int .i64 x.s0.p.f,.int .u64 x.s0.p.c,.string x.s0.p.t,.bool x.s0.p.b],.agg #[.int .i64 E.k,.int .u64 E.c,.string E.t,.int .i64 E.l.k,.int .i64 E.l.f,.int .u64 E.l.c,.string E.l.t,.bool E.l.b]] w' (Stepped w' (stepP 0 x.s0 E)):=fun w'=>mo_step 0 x.s0.r x.s0.c x.s0.t x.s0.ph x.s0.p.k x.s0.p.f x.s0.p.c x.s0.p.t x.s0.p.b E.k E.c E.t E.l.k E.l.f E.l.c E.l.t E.l.b w'
    generalize stepP 0 x.s0 E=T at hT hlen hYE
    obtain ⟨⟨r',c',t',ph',⟨k',f',c2',t2',fk'⟩⟩,O⟩:=T
    subst hYE
    have HT:=zd hT
    clear hT
    go_wp2_with fail
    refine wp_region_mixF (af:=?af0) #[.int .i64 0,.int .u64 0,.string { data:=#[] },.int .i64 0,.int .i64 0,.int .i64 0,.int .u64 0,.string { data:=#[] },.bool false] 26 [true,true,true,true,true,true,true,true,false,false,false,false,false,false,false] [false,false,false,false,false,false,false,false,false,true,true,true,false,false,true] 113 4 (C:=Ext W8) (by kernel_rfl) rfl (by kernel_rfl) (fun _ _ h e=>Ext.trans h e) zR.drew ?q0 ?r0
    case q0=>
     intro w' hw'
     obtain ⟨y,rfl⟩:=ext_of hw'
     simp only [pickT,if_true,if_false,Bool.false_eq_true]
     repeat (go_big_quiet_step (fail))
     exact rfl
    case r0=>
     simp only [restL,if_true,if_false,Bool.false_eq_true]
     refine ⟨fun a w=>by simp [go_sem],?_⟩
     intro x1
     go_wp2_with fail
     refine (HT.out _).mono ?_
     rintro e w4 ⟨vo,rfl,hv,hx4⟩
     simp only [St.cs]
     go_wp2_with fail
     refine ⟨_,.inl ⟨rfl,fun w _=>⟨rfl,rfl⟩⟩,?_⟩
     refine ⟨_,.inl ⟨rfl,fun w _=>⟨rfl,rfl⟩⟩,?_⟩
     refine ⟨_,.inl ⟨rfl,fun w _=>⟨rfl,rfl⟩⟩,?_⟩
     intro x2 gT hgT hzT
     have e2:Ext W8 x2.val:=(((Ext.refl W8).drew.val x1).trans hx4).val x2
     intro x3
     go_wp2_with (refine wpList_store_row rfl 26 _ _ rfl gT _ rfl rfl 26 _ (heap_ext hzT x3.ext) info_state rfl (by simp [Value.oneCell']) ?_)
     refine ⟨(e2.val x3).setRow hgT _,?_⟩
     refine ⟨_,.inl ⟨rfl,fun w _=>⟨rfl,rfl⟩⟩,?_⟩
     intro x4
     have eT:x4.val.heap[gT]?=some (.cells #[.int .i64 r',.int .u64 c',.string t',.int .i64 ph',.int .i64 k',.int .i64 f',.int .u64 c2',.string t2',.bool fk'] 26 (0,0)):=heap_ext (setRow_heap _ _ _ _ _ _ (heap_ext hzT x3.ext)) x4.ext
     have eX:Ext W8 x4.val:=((e2.val x3).setRow hgT _).val x4
     have eO:x4.val.ownsRow W8.heap.size 126 6 vo O.length (O.flatMap Ou.cs):=own_base (own_ext (own_setRow (own_ext hv (x2.ext.trans x3.ext)) (heap_ext hzT x3.ext) (by decide) _) x4.ext) ((Ext.refl W8).drew.val x1).size
     generalize x4.val=W9 at eT eX eO ⊢
     clear x4 x3 x2 hzT hv hx4 e2 x1 qx qe lx le8 hbad HT
     have qT:=zQ eT
     have hy9:=HA.out.hy.ext eX
     have HY9:=zd hy9
     unfold ExAt Ex.arr at hy9
     have qy:=zQ hy9
     have fy:=zF hy9
     have hm9:=heap_ext HA.out.hm eX
     have HM9:=zd hm9
     unfold Mv.arr at hm9
     clear qm lm
     have qm:=zQ hm9
     have lm:w.heap.size+1<W9.heap.size:=zL hm9
     have ly:W1.heap.size<W9.heap.size:=zL hy9
     have lT:gT<W9.heap.size:=zL eT
     have HE9:=zd (HA.out.ext.trans eX)
     have HX9:=zd eX
     have HOut:=zd eO
     clear eT hy9 hm9 eX eO
     have hwy:w.heap.size+1+1<W1.heap.size:=HA.out.hgy
     have hyB:W1.heap.size<W2.heap.size:=HA.out.hB
     go_upto_region 32 with fail
     have hy909:=set9_0 HY9.out ⟨r',c',t',ph',⟨k',f',c2',t2',fk'⟩⟩
     have hb909:=set9_but W9 W1.heap.size 1 ⟨r',c',t',ph',⟨k',f',c2',t2',fk'⟩⟩
     refine wp_forget (fun w'=>Hid (ExAt w' W1.heap.size { x with s0:=⟨r',c',t',ph',⟨k',f',c2',t2',fk'⟩⟩ } (.slice s1a s1n s1c)∧Own w' W2.heap.size x.h (.slice s1a s1n s1c)∧w'.heap[w.heap.size+1]?=some (.cells m.arr 52 (0,0))∧w'.heap[w.heap.size+1+1]?=some (.cells _ 33 (0,0))∧w'.ownsRow W8.heap.size 126 6 vo O.length (O.flatMap Ou.cs)∧Ext w w'∧W8.heap.size≤w'.heap.size))
      (zd ⟨hy909,own_same (HA.out.ho.ext HX9.out) fun k hk _=>hb909.block k (show k≠W1.heap.size by omega),(hb909.block _ (by omega)).trans HM9.out,(hb909.block _ (by omega)).trans (heap_ext HA.out.hr HX9.out),own_same HOut.out fun k hk _=>hb909.block k (show k≠W1.heap.size by omega),hb909.ext HE9.out (by omega),zT HX9.out.size (Nat.le_of_eq hb909.size.symm)⟩) ?_
     clear hy909 hb909
     clear qT qy fy qm lm ly lT HY9 HM9 HE9 HX9 HOut
     rintro W10 HB
     obtain ⟨oa,ocap,rfl,hom,hov⟩:=own_view HB.out.2.2.2.2.1
     have HV:=zd hov
     clear hov
     unfold maxLen at hom
     rcases O with _|⟨o,_|⟨o2,O2⟩⟩
     ·simp only [List.length_nil]
      go_wp2_with fail
      go_loopg [102] 0 (fun g ii wr=>ii = .int .i64 0∧wr=W10)
      case atStart=>exact ⟨rfl,rfl⟩
      case round=>
       obtain ⟨rfl,rfl⟩:=hrel
       go_wp2_with (first|(refine wpList_load_row rfl 33 _ rfl _ rfl _ _ (0,0) _ (HB.out.1) zu33 rfl info_ex ?_)|(refine wpList_store_row rfl 33 _ _ rfl _ _ rfl rfl 33 _ (HB.out.2.2.2.1) info_ex rfl (arr_one ({ x with s0:=⟨r',c',t',ph',⟨k',f',c2',t2',fk'⟩⟩ }) rfl) ?_))
       refine bodyPost_ret (results_row_tmp rfl _ _ _ 33 _ (0,0) _ rfl (setRow_heap _ _ _ _ _ _ HB.out.2.2.2.1) zu33 rfl info_ex) rfl ?_
       exact ⟨_,rfl,own_setRow (own_base (b':=w.heap.size) HB.out.2.1 (by omega)) HB.out.2.2.2.1 (by decide) _,Ext.setRow HB.out.2.2.2.2.2.1 (by omega) _⟩
     ·obtain ⟨g,rfl,hgb,hgl,hcell⟩:=HV.out (by simp)
      simp only [List.flatMap_cons,List.flatMap_nil,List.append_nil,Ou.cs] at hcell
      have q0:=hcell 0 _ rfl
      have q1:=hcell 1 _ rfl
      have q2:=hcell 2 _ rfl
      have q3:=hcell 3 _ rfl
      have q4:=hcell 4 _ rfl
      have q5:=hcell 5 _ rfl
      clear hcell
      simp only [List.length_cons,List.length_nil,Nat.zero_add]
      have hm10:=HB.out.2.2.1
      have HM:=zd hm10
      clear hm10
      have hbsz:W2.heap.size≤W10.heap.size:=zT hgB HB.out.2.2.2.2.2.2
      go_wp2_with fail
      go_loopg [102] 1 (fun gg ii wr=>(gg=1∧ii = .int .i64 0∧wr=W10)∨(gg=0∧ii = .int .i64 1∧∃ a3 n3 c3,Hid (ExAt wr W1.heap.size { x with s0:=⟨r',c',t',ph',⟨k',f',c2',t2',fk'⟩⟩,h:=hearS x.h m.lost o.l } (.slice a3 n3 c3)∧Own wr W2.heap.size (hearS x.h m.lost o.l) (.slice a3 n3 c3)∧wr.heap[w.heap.size+1+1]?=some (.cells _ 33 (0,0))∧Ext w wr)))
      case atStart=>exact .inl ⟨rfl,rfl,rfl⟩
      case round=>
       obtain ⟨rfl,rfl,rfl⟩|⟨rfl,rfl,a3,n3,c3,HD⟩:=hrel
       ·go_wp2_with (first
         | (refine wpList_load_row rfl 52 _ rfl _ rfl _ _ (0,0) _ (heap_ext HM.out (zR.alloc _)) zu52 rfl info_mv ?_)
         | (go_at_call 71;refine (mo_hears W2.heap.size W1.heap.size _ { x with s0:=⟨r',c',t',ph',⟨k',f',c2',t2',fk'⟩⟩ } (.slice s1a s1n s1c) m o.l _ (HB.out.1.ext ((zR.alloc _).alloc _)) (HB.out.2.1.ext ((zR.alloc _).alloc _)) (heap_new (by simp)) hyB (zT hbsz ((zR.alloc _).alloc _).size) hn).mono ?_;rintro e W11 ⟨rfl,hH⟩;have HH:=zd hH;clear hH))
        obtain ⟨v3,hy3,ho3,hk3,hr3⟩:=HH.out
        obtain ⟨a3,n3,c3,rfl⟩:=own_slice ho3
        go_roundg 0
        case rel=>
         refine .inr ⟨rfl,rfl,a3,n3,c3,zd ⟨hy3,ho3,?_,?_⟩⟩
         ·refine (hk3.block _ (zU (zL HB.out.2.2.2.1) ((zR.alloc _).alloc _).size) ?_).trans (heap_ext HB.out.2.2.2.1 ((zR.alloc _).alloc _))
          simp only [List.mem_cons,not_or]
          exact ⟨by omega,fun hm=>by have:=(own_rowB HB.out.2.1 _ hm).1;omega⟩
         ·refine keeps_ext ((HB.out.2.2.2.2.2.1.alloc _).alloc _) hk3 ?_
          intro g' hg'
          simp only [List.mem_cons] at hg'
          exact hg'.elim (fun h=>by omega) (fun h=>by have:=(own_rowB HB.out.2.1 _ h).1;omega)
        case measure=>omega
       ·go_wp2_with (first|(refine wpList_load_row rfl 33 _ rfl _ rfl _ _ (0,0) _ (HD.out.1) zu33 rfl info_ex ?_)|(refine wpList_store_row rfl 33 _ _ rfl _ _ rfl rfl 33 _ (HD.out.2.2.1) info_ex rfl (arr_one (({ x with s0:=⟨r',c',t',ph',⟨k',f',c2',t2',fk'⟩⟩,h:=hearS x.h m.lost o.l })) rfl) ?_))
        refine bodyPost_ret (results_row_tmp rfl _ _ _ 33 _ (0,0) _ rfl (setRow_heap _ _ _ _ _ _ HD.out.2.2.1) zu33 rfl info_ex) rfl ?_
        exact ⟨_,rfl,own_setRow (own_base (b':=w.heap.size) HD.out.2.1 (by omega)) HD.out.2.2.1 (by decide) _,Ext.setRow HD.out.2.2.2 (by omega) _⟩
     ·simp at hlen
   ·have hbe:x.bad m.who=x.b1:=by rw [hw];rfl
    have HBE:=zd hbe
    clear hbe
    rcases hbad:x.b1
    case true=>
     obtain rfl:Y=(x,false):=by rw [HY.out,HBE.out,hbad];rfl
     go_wp2_with (first|(refine wpList_load_row rfl 33 _ rfl _ rfl _ _ (0,0) _ (HA.out.hy) zu33 rfl info_ex ?_)|(refine wpList_store_row rfl 33 _ _ rfl _ _ rfl rfl 33 _ (HA.out.hr) info_ex rfl (arr_one (x) rfl) ?_))
     refine bodyPost_ret (results_row_tmp rfl _ _ _ 33 _ (0,0) _ rfl (setRow_heap _ _ _ _ _ _ (HA.out.hr)) zu33 rfl info_ex) rfl ?_
     exact ⟨_,rfl,own_setRow (own_base (b':=w.heap.size) (HA.out.ho) (by have:=HA.out.hgy;have:=HA.out.hB;omega)) (HA.out.hr) (by decide) _,Ext.setRow (HA.out.ext) (by omega) _⟩
    have hYE:Y=({ x with s1:=(stepP 1 x.s1 E).1,h:=hearsS x.h m.lost ((stepP 1 x.s1 E).2.map (·.l)) },true):=by
     rw [HY.out,HBE.out,if_neg (by rw [hbad];simp)]
     unfold partyX
     rw [HE.out,hw]
     rfl
    clear HY HBE HE
    have hlen:=stepP_len 1 x.s1 E
    have hT : ∀ w',Calls Tryz.prog 70 #[.int .i64 1,.agg #[.int .i64 x.s1.r,.int .u64 x.s1.c,.string x.s1.t,.int .i64 x.s1.ph,.int .i64 x.s1.p.k,.int .i64 x.s1.p.f,.int .u64 x.s1.p.c,.string x.s1.p.t,.bool x.s1.p.b],.agg #[.int .i64 E.k,.int .u64 E.c,.string E.t,.int .i64 E.l.k,.int .i64 E.l.f,.int .u64 E.l.c,.string E.l.t,.bool E.l.b]] w' (Stepped w' (stepP 1 x.s1 E)):=fun w'=>mo_step 1 x.s1.r x.s1.c x.s1.t x.s1.ph x.s1.p.k x.s1.p.f x.s1.p.c x.s1.p.t x.s1.p.b E.k E.c E.t E.l.k E.l.f E.l.c E.l.t E.l.b w'
    generalize stepP 1 x.s1 E=T at hT hlen hYE
    obtain ⟨⟨r',c',t',ph',⟨k',f',c2',t2',fk'⟩⟩,O⟩:=T
    subst hYE
    have HT:=zd hT
    clear hT
    go_wp2_with fail
    refine wp_region_mixF (af:=?af1) #[.int .i64 0,.int .u64 0,.string { data:=#[] },.int .i64 0,.int .i64 0,.int .i64 0,.int .u64 0,.string { data:=#[] },.bool false] 26 [true,true,true,true,true,true,true,true,false,false,false,false,false,false,false] [false,false,false,false,false,false,false,false,false,true,true,true,false,false,true] 113 4 (C:=Ext W8) (by kernel_rfl) rfl (by kernel_rfl) (fun _ _ h e=>Ext.trans h e) zR.drew ?q1 ?r1
    case q1=>
     intro w' hw'
     obtain ⟨y,rfl⟩:=ext_of hw'
     simp only [pickT,if_true,if_false,Bool.false_eq_true]
     repeat (go_big_quiet_step (fail))
     exact rfl
    case r1=>
     simp only [restL,if_true,if_false,Bool.false_eq_true]
     refine ⟨fun a w=>by simp [go_sem],?_⟩
     intro x1
     go_wp2_with fail
     refine (HT.out _).mono ?_
     rintro e w4 ⟨vo,rfl,hv,hx4⟩
     simp only [St.cs]
     go_wp2_with fail
     refine ⟨_,.inl ⟨rfl,fun w _=>⟨rfl,rfl⟩⟩,?_⟩
     refine ⟨_,.inl ⟨rfl,fun w _=>⟨rfl,rfl⟩⟩,?_⟩
     refine ⟨_,.inl ⟨rfl,fun w _=>⟨rfl,rfl⟩⟩,?_⟩
     intro x2 gT hgT hzT
     have e2:Ext W8 x2.val:=(((Ext.refl W8).drew.val x1).trans hx4).val x2
     intro x3
     go_wp2_with (refine wpList_store_row rfl 26 _ _ rfl gT _ rfl rfl 26 _ (heap_ext hzT x3.ext) info_state rfl (by simp [Value.oneCell']) ?_)
     refine ⟨(e2.val x3).setRow hgT _,?_⟩
     refine ⟨_,.inl ⟨rfl,fun w _=>⟨rfl,rfl⟩⟩,?_⟩
     intro x4
     have eT:x4.val.heap[gT]?=some (.cells #[.int .i64 r',.int .u64 c',.string t',.int .i64 ph',.int .i64 k',.int .i64 f',.int .u64 c2',.string t2',.bool fk'] 26 (0,0)):=heap_ext (setRow_heap _ _ _ _ _ _ (heap_ext hzT x3.ext)) x4.ext
     have eX:Ext W8 x4.val:=((e2.val x3).setRow hgT _).val x4
     have eO:x4.val.ownsRow W8.heap.size 126 6 vo O.length (O.flatMap Ou.cs):=own_base (own_ext (own_setRow (own_ext hv (x2.ext.trans x3.ext)) (heap_ext hzT x3.ext) (by decide) _) x4.ext) ((Ext.refl W8).drew.val x1).size
     generalize x4.val=W9 at eT eX eO ⊢
     clear x4 x3 x2 hzT hv hx4 e2 x1 qx qe lx le8 hbad HT
     have qT:=zQ eT
     have hy9:=HA.out.hy.ext eX
     have HY9:=zd hy9
     unfold ExAt Ex.arr at hy9
     have qy:=zQ hy9
     have fy:=zF hy9
     have hm9:=heap_ext HA.out.hm eX
     have HM9:=zd hm9
     unfold Mv.arr at hm9
     clear qm lm
     have qm:=zQ hm9
     have lm:w.heap.size+1<W9.heap.size:=zL hm9
     have ly:W1.heap.size<W9.heap.size:=zL hy9
     have lT:gT<W9.heap.size:=zL eT
     have HE9:=zd (HA.out.ext.trans eX)
     have HX9:=zd eX
     have HOut:=zd eO
     clear eT hy9 hm9 eX eO
     have hwy:w.heap.size+1+1<W1.heap.size:=HA.out.hgy
     have hyB:W1.heap.size<W2.heap.size:=HA.out.hB
     go_upto_region 32 with fail
     have hy909:=set9_1 HY9.out ⟨r',c',t',ph',⟨k',f',c2',t2',fk'⟩⟩
     have hb909:=set9_but W9 W1.heap.size 10 ⟨r',c',t',ph',⟨k',f',c2',t2',fk'⟩⟩
     refine wp_forget (fun w'=>Hid (ExAt w' W1.heap.size { x with s1:=⟨r',c',t',ph',⟨k',f',c2',t2',fk'⟩⟩ } (.slice s1a s1n s1c)∧Own w' W2.heap.size x.h (.slice s1a s1n s1c)∧w'.heap[w.heap.size+1]?=some (.cells m.arr 52 (0,0))∧w'.heap[w.heap.size+1+1]?=some (.cells _ 33 (0,0))∧w'.ownsRow W8.heap.size 126 6 vo O.length (O.flatMap Ou.cs)∧Ext w w'∧W8.heap.size≤w'.heap.size))
      (zd ⟨hy909,own_same (HA.out.ho.ext HX9.out) fun k hk _=>hb909.block k (show k≠W1.heap.size by omega),(hb909.block _ (by omega)).trans HM9.out,(hb909.block _ (by omega)).trans (heap_ext HA.out.hr HX9.out),own_same HOut.out fun k hk _=>hb909.block k (show k≠W1.heap.size by omega),hb909.ext HE9.out (by omega),zT HX9.out.size (Nat.le_of_eq hb909.size.symm)⟩) ?_
     clear hy909 hb909
     clear qT qy fy qm lm ly lT HY9 HM9 HE9 HX9 HOut
     rintro W10 HB
     obtain ⟨oa,ocap,rfl,hom,hov⟩:=own_view HB.out.2.2.2.2.1
     have HV:=zd hov
     clear hov
     unfold maxLen at hom
     rcases O with _|⟨o,_|⟨o2,O2⟩⟩
     ·simp only [List.length_nil]
      go_wp2_with fail
      go_loopg [102] 0 (fun g ii wr=>ii = .int .i64 0∧wr=W10)
      case atStart=>exact ⟨rfl,rfl⟩
      case round=>
       obtain ⟨rfl,rfl⟩:=hrel
       go_wp2_with (first|(refine wpList_load_row rfl 33 _ rfl _ rfl _ _ (0,0) _ (HB.out.1) zu33 rfl info_ex ?_)|(refine wpList_store_row rfl 33 _ _ rfl _ _ rfl rfl 33 _ (HB.out.2.2.2.1) info_ex rfl (arr_one ({ x with s1:=⟨r',c',t',ph',⟨k',f',c2',t2',fk'⟩⟩ }) rfl) ?_))
       refine bodyPost_ret (results_row_tmp rfl _ _ _ 33 _ (0,0) _ rfl (setRow_heap _ _ _ _ _ _ HB.out.2.2.2.1) zu33 rfl info_ex) rfl ?_
       exact ⟨_,rfl,own_setRow (own_base (b':=w.heap.size) HB.out.2.1 (by omega)) HB.out.2.2.2.1 (by decide) _,Ext.setRow HB.out.2.2.2.2.2.1 (by omega) _⟩
     ·obtain ⟨g,rfl,hgb,hgl,hcell⟩:=HV.out (by simp)
      simp only [List.flatMap_cons,List.flatMap_nil,List.append_nil,Ou.cs] at hcell
      have q0:=hcell 0 _ rfl
      have q1:=hcell 1 _ rfl
      have q2:=hcell 2 _ rfl
      have q3:=hcell 3 _ rfl
      have q4:=hcell 4 _ rfl
      have q5:=hcell 5 _ rfl
      clear hcell
      simp only [List.length_cons,List.length_nil,Nat.zero_add]
      have hm10:=HB.out.2.2.1
      have HM:=zd hm10
      clear hm10
      have hbsz:W2.heap.size≤W10.heap.size:=zT hgB HB.out.2.2.2.2.2.2
      go_wp2_with fail
      go_loopg [102] 1 (fun gg ii wr=>(gg=1∧ii = .int .i64 0∧wr=W10)∨(gg=0∧ii = .int .i64 1∧∃ a3 n3 c3,Hid (ExAt wr W1.heap.size { x with s1:=⟨r',c',t',ph',⟨k',f',c2',t2',fk'⟩⟩,h:=hearS x.h m.lost o.l } (.slice a3 n3 c3)∧Own wr W2.heap.size (hearS x.h m.lost o.l) (.slice a3 n3 c3)∧wr.heap[w.heap.size+1+1]?=some (.cells _ 33 (0,0))∧Ext w wr)))
      case atStart=>exact .inl ⟨rfl,rfl,rfl⟩
      case round=>
       obtain ⟨rfl,rfl,rfl⟩|⟨rfl,rfl,a3,n3,c3,HD⟩:=hrel
       ·go_wp2_with (first
         | (refine wpList_load_row rfl 52 _ rfl _ rfl _ _ (0,0) _ (heap_ext HM.out (zR.alloc _)) zu52 rfl info_mv ?_)
         | (go_at_call 71;refine (mo_hears W2.heap.size W1.heap.size _ { x with s1:=⟨r',c',t',ph',⟨k',f',c2',t2',fk'⟩⟩ } (.slice s1a s1n s1c) m o.l _ (HB.out.1.ext ((zR.alloc _).alloc _)) (HB.out.2.1.ext ((zR.alloc _).alloc _)) (heap_new (by simp)) hyB (zT hbsz ((zR.alloc _).alloc _).size) hn).mono ?_;rintro e W11 ⟨rfl,hH⟩;have HH:=zd hH;clear hH))
        obtain ⟨v3,hy3,ho3,hk3,hr3⟩:=HH.out
        obtain ⟨a3,n3,c3,rfl⟩:=own_slice ho3
        go_roundg 0
        case rel=>
         refine .inr ⟨rfl,rfl,a3,n3,c3,zd ⟨hy3,ho3,?_,?_⟩⟩
         ·refine (hk3.block _ (zU (zL HB.out.2.2.2.1) ((zR.alloc _).alloc _).size) ?_).trans (heap_ext HB.out.2.2.2.1 ((zR.alloc _).alloc _))
          simp only [List.mem_cons,not_or]
          exact ⟨by omega,fun hm=>by have:=(own_rowB HB.out.2.1 _ hm).1;omega⟩
         ·refine keeps_ext ((HB.out.2.2.2.2.2.1.alloc _).alloc _) hk3 ?_
          intro g' hg'
          simp only [List.mem_cons] at hg'
          exact hg'.elim (fun h=>by omega) (fun h=>by have:=(own_rowB HB.out.2.1 _ h).1;omega)
        case measure=>omega
       ·go_wp2_with (first|(refine wpList_load_row rfl 33 _ rfl _ rfl _ _ (0,0) _ (HD.out.1) zu33 rfl info_ex ?_)|(refine wpList_store_row rfl 33 _ _ rfl _ _ rfl rfl 33 _ (HD.out.2.2.1) info_ex rfl (arr_one (({ x with s1:=⟨r',c',t',ph',⟨k',f',c2',t2',fk'⟩⟩,h:=hearS x.h m.lost o.l })) rfl) ?_))
        refine bodyPost_ret (results_row_tmp rfl _ _ _ 33 _ (0,0) _ rfl (setRow_heap _ _ _ _ _ _ HD.out.2.2.1) zu33 rfl info_ex) rfl ?_
        exact ⟨_,rfl,own_setRow (own_base (b':=w.heap.size) HD.out.2.1 (by omega)) HD.out.2.2.1 (by decide) _,Ext.setRow HD.out.2.2.2 (by omega) _⟩
     ·simp at hlen
end Go.Proofs.YtlnmhocehgmbbaaGreatDoor

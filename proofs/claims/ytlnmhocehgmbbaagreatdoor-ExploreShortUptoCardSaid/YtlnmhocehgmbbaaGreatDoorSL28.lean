/- No condition. -/
import Derived.Test.YtlnmhocehgmbbaaGreatDoorSL27
set_option linter.all false
set_option maxRecDepth 100000
set_option maxHeartbeats 6400000
namespace Go.Proofs.YtlnmhocehgmbbaaGreatDoor
open Go.RowKit
attribute [local go_sem ↓] eql_lEq eql_sEq eql_eEq eql_oEq neq_lEq neq_sEq neq_eEq neq_oEq
attribute [local go_sem] ExtOf.cell ExtOf.frozen ExtOf.lt ExtOf.le
attribute [local go_sem high] ExtOf.cell2 ExtOf.frozen2 ExtOf.lt2 ExtOf.cell3 ExtOf.frozen3 ExtOf.lt3
def Vd.csL (v:Vd):List Value:=[.int .u64 v.c,.int .i64 v.k,.string v.t]
theorem put_v (x:Ex) (v:Value) (s:Vd):putA (x.arr v) 19 s.csL=({ x with v:=s } : Ex).arr v:=by
 apply Array.ext'
 simp [putA,Ex.arr,Vd.csL]
def AskP (w:World) (x:Ex) (v:Value) (y:Ex) (e:Ending) (w':World):Prop:=∃ v',e = .returned (.agg (y.arr v'))∧(Own w' w.heap.size y.h v'∨(v'=v∧y=x))∧Ext w w'
theorem rx_asks0 (x:Ex) (v:Value) (l:Lt) (lost:Bool) (w:World) (hv:v.oneCell'=true) (hno : ¬((l.k=3∨l.k=4)∧l.b=false)) :
 Calls Tryz.prog 48 #[.agg (x.arr v),.agg #[.int .i64 l.k,.int .i64 l.f,.int .u64 l.c,.string l.t,.bool l.b],.bool lost] w (AskP w x v x):=by
 obtain ⟨k,f,c,t,b⟩:=l
 simp only at hno ⊢
 have HVV:=zd hv
 clear hv
 have hc:Hid ((k != 3)=true∧(k != 4)=true)∨b=true:=by
  by_cases h3:k=3
  ·cases b
   ·exact absurd ⟨.inl h3,rfl⟩ hno
   ·exact .inr rfl
  by_cases h4:k=4
  ·cases b
   ·exact absurd ⟨.inr h4,rfl⟩ hno
   ·exact .inr rfl
  exact .inl (zd ⟨by simpa using h3,by simpa using h4⟩)
 clear hno
 go_enter Tryz.func48,Tryz.ntmps48
 go_upto_region 1 with fail
 refine wp_forget (fun w'=>Hid (ExAt w' w.heap.size x v∧LtAt w' (w.heap.size+1) ⟨k,f,c,t,b⟩∧w'.heap[w.heap.size+1+1]?=some (.cells ((zeX []).arr (.slice none 0 0)) 33 (0,0))∧Ext w w')) (zd (three_new zR)) ?_
 intro W1 H1
 have q2:=zQ H1.out.2.1
 have l2:w.heap.size+1<W1.heap.size:=zL H1.out.2.1
 rcases hc with hc|rfl
 ·have h3:=hc.out.1
  have h4:=hc.out.2
  go_wp2_with (first|((with_reducible refine wpList_load_rowG ?_ 33 (.tmp 3) ?_ w.heap.size ?_ 33 (Ex.arr x v) (0,0) _ ?_ zu33 ?_ ?_ ?_);(·rfl);(·rfl);(·rfl);(·exact H1.out.1);(·rfl);(·exact info_ex))|(refine wpList_store_row rfl 33 _ _ rfl (w.heap.size+1+1) _ rfl rfl 33 _ H1.out.2.2.1 info_ex rfl (arr_one _ HVV.out) ?_))
  refine bodyPost_ret (results_cell_row rfl _ _ (w.heap.size+1+1) 33 (Ex.arr _ v) (0,0) _ rfl (setRow_heap _ _ _ _ _ _ H1.out.2.2.1) zu33 rfl info_ex) rfl ?_
  exact ⟨_,rfl,.inr ⟨rfl,rfl⟩,H1.out.2.2.2.setRow (by omega) _⟩
 by_cases h3:(k != 3)=true
 ·by_cases h4:(k != 4)=true
  ·go_wp2_with (first|((with_reducible refine wpList_load_rowG ?_ 33 (.tmp 3) ?_ w.heap.size ?_ 33 (Ex.arr x v) (0,0) _ ?_ zu33 ?_ ?_ ?_);(·rfl);(·rfl);(·rfl);(·exact H1.out.1);(·rfl);(·exact info_ex))|(refine wpList_store_row rfl 33 _ _ rfl (w.heap.size+1+1) _ rfl rfl 33 _ H1.out.2.2.1 info_ex rfl (arr_one _ HVV.out) ?_))
   refine bodyPost_ret (results_cell_row rfl _ _ (w.heap.size+1+1) 33 (Ex.arr _ v) (0,0) _ rfl (setRow_heap _ _ _ _ _ _ H1.out.2.2.1) zu33 rfl info_ex) rfl ?_
   exact ⟨_,rfl,.inr ⟨rfl,rfl⟩,H1.out.2.2.2.setRow (by omega) _⟩
  ·go_wp2_with (first|((with_reducible refine wpList_load_rowG ?_ 33 (.tmp 3) ?_ w.heap.size ?_ 33 (Ex.arr x v) (0,0) _ ?_ zu33 ?_ ?_ ?_);(·rfl);(·rfl);(·rfl);(·exact H1.out.1);(·rfl);(·exact info_ex))|(refine wpList_store_row rfl 33 _ _ rfl (w.heap.size+1+1) _ rfl rfl 33 _ H1.out.2.2.1 info_ex rfl (arr_one _ HVV.out) ?_))
   refine bodyPost_ret (results_cell_row rfl _ _ (w.heap.size+1+1) 33 (Ex.arr _ v) (0,0) _ rfl (setRow_heap _ _ _ _ _ _ H1.out.2.2.1) zu33 rfl info_ex) rfl ?_
   exact ⟨_,rfl,.inr ⟨rfl,rfl⟩,H1.out.2.2.2.setRow (by omega) _⟩
 ·go_wp2_with (first|((with_reducible refine wpList_load_rowG ?_ 33 (.tmp 3) ?_ w.heap.size ?_ 33 (Ex.arr x v) (0,0) _ ?_ zu33 ?_ ?_ ?_);(·rfl);(·rfl);(·rfl);(·exact H1.out.1);(·rfl);(·exact info_ex))|(refine wpList_store_row rfl 33 _ _ rfl (w.heap.size+1+1) _ rfl rfl 33 _ H1.out.2.2.1 info_ex rfl (arr_one _ HVV.out) ?_))
  refine bodyPost_ret (results_cell_row rfl _ _ (w.heap.size+1+1) 33 (Ex.arr _ v) (0,0) _ rfl (setRow_heap _ _ _ _ _ _ H1.out.2.2.1) zu33 rfl info_ex) rfl ?_
  exact ⟨_,rfl,.inr ⟨rfl,rfl⟩,H1.out.2.2.2.setRow (by omega) _⟩
theorem rv_saysL (V:Vd) (w:World):Calls Tryz.prog 68 #[.agg #[.int .u64 V.c,.int .i64 V.k,.string V.t]] w fun e w'=>e = .returned (.tuple #[.agg #[.int .i64 ((saysS V).getD l0).k,.int .i64 ((saysS V).getD l0).f,.int .u64 ((saysS V).getD l0).c,.string ((saysS V).getD l0).t,.bool ((saysS V).getD l0).b],.bool (saysS V).isSome])∧Ext w w':=rv_says V.c V.k V.t w
theorem rx_asks1 (x y:Ex) (v:Value) (l:Lt) (lost:Bool) (w:World) (hR:Hrd w x v) (hv:v = .slice none 0 0∨∃ a n c,v = .slice (some a) n c) (hn:x.h.length≤100000) (hk:l.k=3∨l.k=4) (hb:l.b=false) (hy:y = { x with v:=askV x l }) :
 Calls Tryz.prog 48 #[.agg (x.arr v),.agg #[.int .i64 l.k,.int .i64 l.f,.int .u64 l.c,.string l.t,.bool l.b],.bool lost] w (HearsP w { y with h:=hearS x.h lost (tellS x.c y.v) }):=by
 obtain ⟨k,f,c,t,b⟩:=l
 simp only at hk hb ⊢
 subst hb
 have HRY:Hid (Hrd w y v):=zd (by unfold Hrd;rw [hy];exact hR)
 have HVV:=zd hv
 have hyc:y.c=x.c:=by rw [hy]
 have hyh:y.h=x.h:=by rw [hy]
 have hnY:y.h.length≤100000:=by rw [hyh];exact hn
 have hsy:=rv_saysL y.v
 have hone:v.oneCell'=true:=by rcases hv with h|⟨_,_,_,h⟩<;>(rw [h];rfl)
 clear hR hv
 obtain ⟨ll,hll⟩ : ∃ ll,tellS x.c y.v=ll:=⟨_,rfl⟩
 rw [show hearS x.h lost (tellS x.c y.v)=hearsS y.h lost [ll] by rw [hll,hyh];rfl]
 have HP:Hid (x.v.k=0∧x.full=false∧y = { x with v:=if k=4 then ⟨x.c,2,t⟩ else ⟨x.c,1,{ data:=#[] }⟩ })∨(Hid ((x.v.k == 0)=false)∧Hid (y=x))∨(Hid (x.v.k=0∧x.full=true)∧Hid (y=x)):=by
  unfold askV at hy
  simp only [and_true] at hy
  by_cases h0:x.v.k=0
  ·cases hf:x.full
   ·rw [if_pos ⟨h0,hf⟩] at hy
    exact .inl (zd ⟨h0,rfl,by rw [hy,hf]⟩)
   ·rw [if_neg (by rw [hf];simp)] at hy
    exact .inr (.inr ⟨zd ⟨h0,rfl⟩,zd hy⟩)
  ·rw [if_neg (fun h=>h0 h.1)] at hy
   exact .inr (.inl ⟨zd (by simpa using h0),zd hy⟩)
 have HLL:Hid (saysS y.v=some ll∨(saysS y.v=none∧ll=⟨7,0,y.c,{ data:=#[] },false⟩)):=zd (by
  unfold tellS at hll
  rcases hs:saysS y.v with _|z
  ·rw [hs] at hll;exact .inr ⟨rfl,by rw [hyc];exact hll.symm⟩
  ·rw [hs] at hll;exact .inl (by rw [←hll];rfl))
 have HSY:=zd hsy
 clear hll hyc hyh hy hsy hn
 go_enter Tryz.func48,Tryz.ntmps48
 go_upto_region 1 with fail
 refine wp_forget (fun w'=>Hid (ExAt w' w.heap.size x v∧LtAt w' (w.heap.size+1) ⟨k,f,c,t,false⟩∧w'.heap[w.heap.size+1+1]?=some (.cells ((zeX []).arr (.slice none 0 0)) 33 (0,0))∧Ext w w')) (zd (three_new zR)) ?_
 intro W1 H1
 have q2:=zQ H1.out.2.1
 have l2:w.heap.size+1<W1.heap.size:=zL H1.out.2.1
 have q20:W1.cell? ⟨w.heap.size,20,none⟩=some (.int .i64 x.v.k):=zQ H1.out.1 20
 have q24:W1.cell? ⟨w.heap.size,24,none⟩=some (.bool x.full):=zQ H1.out.1 24
 have q00:W1.cell? ⟨w.heap.size,0,none⟩=some (.int .u64 x.c):=zQ H1.out.1 0
 have l1:w.heap.size<W1.heap.size:=zL H1.out.1
 rcases HP with HP|⟨HP,HY⟩|⟨HP,HY⟩
 case inl=>
  have hp:=HP.out.1
  have hf:=HP.out.2.1
  have HY0:=zd HP.out.2.2
  clear HP
  rcases hk with rfl|rfl
  all_goals
   go_upto_region 5 with ((with_reducible refine wpList_store_mid ?_ 29 (.tmp 34) (.tmp 33) ?_ w.heap.size 19 #[.int .u64 x.c,.int .i64 1,.string { data:=#[] }] ?_ ?_ ?_ ?_ ?_ ?_);(·rfl);(·rfl);(·rfl);(·rfl);(·exact there_row H1.out.1 (by exact Nat.le_of_ble_eq_true rfl));(·exact info_vdA);(·simp [Value.oneCell']))
   refine wp_forget (fun w'=>Hid (ExAt w' w.heap.size { x with v:=⟨x.c,1,{ data:=#[] }⟩ } v)∧Hid (w'.heap[w.heap.size+1+1]?=some (.cells ((zeX []).arr (.slice none 0 0)) 33 (0,0)))∧Hid (LtAt w' (w.heap.size+1) ⟨_,f,c,t,false⟩)∧Hid (Ext w w')) ⟨zd (by have:=puts_row (Vd.csL ⟨x.c,1,{ data:=#[] }⟩) _ w.heap.size 19 _ H1.out.1;rw [put_v] at this;exact this),zd ((puts_other _ _ _ (by omega)).trans H1.out.2.2.1),zd ((puts_other _ _ _ (by omega)).trans H1.out.2.1),zd (Ext.setCells zN _ _ H1.out.2.2.2)⟩ ?_
   rintro W2 ⟨HB1,HZ1,HL1,HE1⟩
   clear q2 l2 q20 q24 q00 l1 H1 hp hf
   have q2:=zQ HL1.out
   have l2:w.heap.size+1<W2.heap.size:=zL HL1.out
   have q00:W2.cell? ⟨w.heap.size,0,none⟩=some (.int .u64 x.c):=zQ HB1.out 0
   have l1:w.heap.size<W2.heap.size:=zL HB1.out
  ·go_upto_region 7 with fail
   have HY:Hid (y = { x with v:=⟨x.c,1,{ data:=#[] }⟩ }):=zd (by have:=HY0.out;simpa using this)
   have HB:Hid (ExAt W2 w.heap.size y v):=zd (by rw [HY.out];exact HB1.out)
   have HZ:=HZ1
   have HE:=HE1
   clear q2 l2 q00 l1 HY0 HB1 HZ1 HE1
   have q0:=(zQ HB.out 0).trans (show (y.arr v)[0]?=some (.int .u64 y.c) from rfl)
   have l9:=zL HB.out
   rcases HLL.out with hs|⟨hs,hl⟩
   all_goals
    have hsy:=HSY.out
    rw [hs] at hsy
    have HSX:=zd hsy
    clear hsy hs
    try have hl2:=zd hl
    try clear hl
    go_upto_region 10 with (first|((with_reducible refine wpList_load_midG 29 (.tmp 45) ?_ w.heap.size 19 ?_ ?_ [.int .u64 y.v.c,.int .i64 y.v.k,.string y.v.t] _ ?_ zu29 ?_ ?_ ?_);(·rfl);(·rfl);(·kernel_rfl);(·exact range_of_row HB.out 19 3 _ rfl);(·rfl);(·exact info_vdA))|(go_at_call 68;refine (HSX.out _).mono ?_;rintro en w3 ⟨rfl,hx3⟩;have E3:=zd (HE.out.trans hx3);have B3:=zd (heap_ext HB.out hx3);have R3:=zd (heap_ext HZ.out hx3);have p0:=cell_keep q0 hx3;have l3:=zU l9 hx3.size;clear hx3 q0 l9))
    refine wp_forget (fun w'=>∃ g7,Hid (g7=w3.heap.size)∧Hid (LtAt w' g7 ll)∧Hid (Ext w3 w')) ⟨_,zd rfl,zd (by first|exact heap_new rfl|(rw [hl2.out];exact heap_new rfl)),zd (zR.alloc _)⟩ ?_
    rintro W5 ⟨g7,hg7,H7,E5⟩
    rw [←hg7.out]
    clear hg7 p0 l3
    have q7:=zQ H7.out
    have l7:g7<W5.heap.size:=zL H7.out
    have B5:=zd (heap_ext B3.out E5.out)
    have R5:=zd (heap_ext R3.out E5.out)
    have E6:=zd (E3.out.trans E5.out)
    have HC:=fun w' (hw:Ext (W5.alloc (.cells #[.int .i64 ll.k,.int .i64 ll.f,.int .u64 ll.c,.string ll.t,.bool ll.b] 24)) w')=>rx_hears y v (.slice (some ⟨W5.heap.size,0,none⟩) 1 1) [ll] lost w' (Row.ext HRY.out ((E6.out.alloc _).trans hw)) HVV.out (Row.of_own (own_ext (own_new (size:=5) (n:=1) (e:=24) (xs:=ll.cs) (Ext.refl W5) rfl (by decide) rfl rfl) hw)) hnY (by simp)
    have HCC:=zd HC
    clear HC
    go_wp2_with (first|((with_reducible refine wpList_load_rowG ?_ 33 (.tmp 3) ?_ w.heap.size ?_ 33 (y.arr v) (0,0) _ ?_ zu33 ?_ ?_ ?_);(·rfl);(·rfl);(·rfl);(·exact B5.out);(·rfl);(·exact info_ex))|(go_at_call 77;refine (HCC.out _ zR).mono ?_;rintro en w8 ⟨v8,rfl,ho8,hx8⟩;have HO8:=zd ho8;have HX8:=zd hx8;have R8:=zd (heap_ext R5.out (((Ext.refl W5).alloc _).trans hx8));have HV8:=zd ho8.one;clear ho8 hx8)|(refine wpList_store_row rfl 33 _ _ rfl (w.heap.size+1+1) _ rfl rfl 33 _ R8.out info_ex rfl (arr_one _ HV8.out) ?_))
    refine bodyPost_ret (results_cell_row rfl _ _ (w.heap.size+1+1) 33 (Ex.arr _ v8) (0,0) _ rfl (setRow_heap _ _ _ _ _ _ R8.out) zu33 rfl info_ex) rfl ?_
    have hle:w.heap.size+1+1<(W5.alloc (.cells #[.int .i64 ll.k,.int .i64 ll.f,.int .u64 ll.c,.string ll.t,.bool ll.b] 24)).heap.size:=zU (zL R5.out) ((Ext.refl W5).alloc _).size
    exact ⟨_,rfl,own_base (own_at HO8.out fun k hk=>setRow_other _ _ _ _ (by have:=row_loZ HO8.out _ hk;omega)) (by omega),((E6.out.alloc _).trans HX8.out).setRow (by omega) _⟩
  ·go_upto_region 7 with ((with_reducible refine wpList_store_mid ?_ 29 (.tmp 43) (.tmp 42) ?_ w.heap.size 19 #[.int .u64 x.c,.int .i64 2,.string t] ?_ ?_ ?_ ?_ ?_ ?_);(·rfl);(·rfl);(·rfl);(·rfl);(·exact there_row HB1.out (by exact Nat.le_of_ble_eq_true rfl));(·exact info_vdA);(·simp [Value.oneCell']))
   have HY:Hid (y = { x with v:=⟨x.c,2,t⟩ }):=zd (by have:=HY0.out;simpa using this)
   refine wp_forget (fun w'=>Hid (ExAt w' w.heap.size y v)∧Hid (w'.heap[w.heap.size+1+1]?=some (.cells ((zeX []).arr (.slice none 0 0)) 33 (0,0)))∧Hid (Ext w w')) ⟨zd (by have:=puts_row (Vd.csL ⟨x.c,2,t⟩) _ w.heap.size 19 _ HB1.out;rw [put_v] at this;rw [HY.out];exact this),zd ((puts_other _ _ _ (by omega)).trans HZ1.out),zd (Ext.setCells zN _ _ HE1.out)⟩ ?_
   rintro W3 ⟨HB,HZ,HE⟩
   clear q2 l2 q00 l1 HY0 HB1 HZ1 HE1 HL1
   have q0:=(zQ HB.out 0).trans (show (y.arr v)[0]?=some (.int .u64 y.c) from rfl)
   have l9:=zL HB.out
   rcases HLL.out with hs|⟨hs,hl⟩
   all_goals
    have hsy:=HSY.out
    rw [hs] at hsy
    have HSX:=zd hsy
    clear hsy hs
    try have hl2:=zd hl
    try clear hl
    go_upto_region 10 with (first|((with_reducible refine wpList_load_midG 29 (.tmp 45) ?_ w.heap.size 19 ?_ ?_ [.int .u64 y.v.c,.int .i64 y.v.k,.string y.v.t] _ ?_ zu29 ?_ ?_ ?_);(·rfl);(·rfl);(·kernel_rfl);(·exact range_of_row HB.out 19 3 _ rfl);(·rfl);(·exact info_vdA))|(go_at_call 68;refine (HSX.out _).mono ?_;rintro en w3 ⟨rfl,hx3⟩;have E3:=zd (HE.out.trans hx3);have B3:=zd (heap_ext HB.out hx3);have R3:=zd (heap_ext HZ.out hx3);have p0:=cell_keep q0 hx3;have l3:=zU l9 hx3.size;clear hx3 q0 l9))
    refine wp_forget (fun w'=>∃ g7,Hid (g7=w3.heap.size)∧Hid (LtAt w' g7 ll)∧Hid (Ext w3 w')) ⟨_,zd rfl,zd (by first|exact heap_new rfl|(rw [hl2.out];exact heap_new rfl)),zd (zR.alloc _)⟩ ?_
    rintro W5 ⟨g7,hg7,H7,E5⟩
    rw [←hg7.out]
    clear hg7 p0 l3
    have q7:=zQ H7.out
    have l7:g7<W5.heap.size:=zL H7.out
    have B5:=zd (heap_ext B3.out E5.out)
    have R5:=zd (heap_ext R3.out E5.out)
    have E6:=zd (E3.out.trans E5.out)
    have HC:=fun w' (hw:Ext (W5.alloc (.cells #[.int .i64 ll.k,.int .i64 ll.f,.int .u64 ll.c,.string ll.t,.bool ll.b] 24)) w')=>rx_hears y v (.slice (some ⟨W5.heap.size,0,none⟩) 1 1) [ll] lost w' (Row.ext HRY.out ((E6.out.alloc _).trans hw)) HVV.out (Row.of_own (own_ext (own_new (size:=5) (n:=1) (e:=24) (xs:=ll.cs) (Ext.refl W5) rfl (by decide) rfl rfl) hw)) hnY (by simp)
    have HCC:=zd HC
    clear HC
    go_wp2_with (first|((with_reducible refine wpList_load_rowG ?_ 33 (.tmp 3) ?_ w.heap.size ?_ 33 (y.arr v) (0,0) _ ?_ zu33 ?_ ?_ ?_);(·rfl);(·rfl);(·rfl);(·exact B5.out);(·rfl);(·exact info_ex))|(go_at_call 77;refine (HCC.out _ zR).mono ?_;rintro en w8 ⟨v8,rfl,ho8,hx8⟩;have HO8:=zd ho8;have HX8:=zd hx8;have R8:=zd (heap_ext R5.out (((Ext.refl W5).alloc _).trans hx8));have HV8:=zd ho8.one;clear ho8 hx8)|(refine wpList_store_row rfl 33 _ _ rfl (w.heap.size+1+1) _ rfl rfl 33 _ R8.out info_ex rfl (arr_one _ HV8.out) ?_))
    refine bodyPost_ret (results_cell_row rfl _ _ (w.heap.size+1+1) 33 (Ex.arr _ v8) (0,0) _ rfl (setRow_heap _ _ _ _ _ _ R8.out) zu33 rfl info_ex) rfl ?_
    have hle:w.heap.size+1+1<(W5.alloc (.cells #[.int .i64 ll.k,.int .i64 ll.f,.int .u64 ll.c,.string ll.t,.bool ll.b] 24)).heap.size:=zU (zL R5.out) ((Ext.refl W5).alloc _).size
    exact ⟨_,rfl,own_base (own_at HO8.out fun k hk=>setRow_other _ _ _ _ (by have:=row_loZ HO8.out _ hk;omega)) (by omega),((E6.out.alloc _).trans HX8.out).setRow (by omega) _⟩
 case inr.inl=>
  have hp:=HP.out
  rcases hk with rfl|rfl
  all_goals
   go_upto_region 7 with fail
   have HB:Hid (ExAt W1 w.heap.size y v):=zd (by rw [HY.out];exact H1.out.1)
   have HZ:=zd H1.out.2.2.1
   have HE:=zd H1.out.2.2.2
   clear q2 l2 q20 q24 q00 l1 H1
   have q0:=(zQ HB.out 0).trans (show (y.arr v)[0]?=some (.int .u64 y.c) from rfl)
   have l9:=zL HB.out
   rcases HLL.out with hs|⟨hs,hl⟩
   all_goals
    have hsy:=HSY.out
    rw [hs] at hsy
    have HSX:=zd hsy
    clear hsy hs
    try have hl2:=zd hl
    try clear hl
    go_upto_region 10 with (first|((with_reducible refine wpList_load_midG 29 (.tmp 45) ?_ w.heap.size 19 ?_ ?_ [.int .u64 y.v.c,.int .i64 y.v.k,.string y.v.t] _ ?_ zu29 ?_ ?_ ?_);(·rfl);(·rfl);(·kernel_rfl);(·exact range_of_row HB.out 19 3 _ rfl);(·rfl);(·exact info_vdA))|(go_at_call 68;refine (HSX.out _).mono ?_;rintro en w3 ⟨rfl,hx3⟩;have E3:=zd (HE.out.trans hx3);have B3:=zd (heap_ext HB.out hx3);have R3:=zd (heap_ext HZ.out hx3);have p0:=cell_keep q0 hx3;have l3:=zU l9 hx3.size;clear hx3 q0 l9))
    refine wp_forget (fun w'=>∃ g7,Hid (g7=w3.heap.size)∧Hid (LtAt w' g7 ll)∧Hid (Ext w3 w')) ⟨_,zd rfl,zd (by first|exact heap_new rfl|(rw [hl2.out];exact heap_new rfl)),zd (zR.alloc _)⟩ ?_
    rintro W5 ⟨g7,hg7,H7,E5⟩
    rw [←hg7.out]
    clear hg7 p0 l3
    have q7:=zQ H7.out
    have l7:g7<W5.heap.size:=zL H7.out
    have B5:=zd (heap_ext B3.out E5.out)
    have R5:=zd (heap_ext R3.out E5.out)
    have E6:=zd (E3.out.trans E5.out)
    have HC:=fun w' (hw:Ext (W5.alloc (.cells #[.int .i64 ll.k,.int .i64 ll.f,.int .u64 ll.c,.string ll.t,.bool ll.b] 24)) w')=>rx_hears y v (.slice (some ⟨W5.heap.size,0,none⟩) 1 1) [ll] lost w' (Row.ext HRY.out ((E6.out.alloc _).trans hw)) HVV.out (Row.of_own (own_ext (own_new (size:=5) (n:=1) (e:=24) (xs:=ll.cs) (Ext.refl W5) rfl (by decide) rfl rfl) hw)) hnY (by simp)
    have HCC:=zd HC
    clear HC
    go_wp2_with (first|((with_reducible refine wpList_load_rowG ?_ 33 (.tmp 3) ?_ w.heap.size ?_ 33 (y.arr v) (0,0) _ ?_ zu33 ?_ ?_ ?_);(·rfl);(·rfl);(·rfl);(·exact B5.out);(·rfl);(·exact info_ex))|(go_at_call 77;refine (HCC.out _ zR).mono ?_;rintro en w8 ⟨v8,rfl,ho8,hx8⟩;have HO8:=zd ho8;have HX8:=zd hx8;have R8:=zd (heap_ext R5.out (((Ext.refl W5).alloc _).trans hx8));have HV8:=zd ho8.one;clear ho8 hx8)|(refine wpList_store_row rfl 33 _ _ rfl (w.heap.size+1+1) _ rfl rfl 33 _ R8.out info_ex rfl (arr_one _ HV8.out) ?_))
    refine bodyPost_ret (results_cell_row rfl _ _ (w.heap.size+1+1) 33 (Ex.arr _ v8) (0,0) _ rfl (setRow_heap _ _ _ _ _ _ R8.out) zu33 rfl info_ex) rfl ?_
    have hle:w.heap.size+1+1<(W5.alloc (.cells #[.int .i64 ll.k,.int .i64 ll.f,.int .u64 ll.c,.string ll.t,.bool ll.b] 24)).heap.size:=zU (zL R5.out) ((Ext.refl W5).alloc _).size
    exact ⟨_,rfl,own_base (own_at HO8.out fun k hk=>setRow_other _ _ _ _ (by have:=row_loZ HO8.out _ hk;omega)) (by omega),((E6.out.alloc _).trans HX8.out).setRow (by omega) _⟩
 case inr.inr=>
  have hp:=HP.out.1
  have hf:=HP.out.2
  rcases hk with rfl|rfl
  all_goals
   go_upto_region 7 with fail
   have HB:Hid (ExAt W1 w.heap.size y v):=zd (by rw [HY.out];exact H1.out.1)
   have HZ:=zd H1.out.2.2.1
   have HE:=zd H1.out.2.2.2
   clear q2 l2 q20 q24 q00 l1 H1
   have q0:=(zQ HB.out 0).trans (show (y.arr v)[0]?=some (.int .u64 y.c) from rfl)
   have l9:=zL HB.out
   rcases HLL.out with hs|⟨hs,hl⟩
   all_goals
    have hsy:=HSY.out
    rw [hs] at hsy
    have HSX:=zd hsy
    clear hsy hs
    try have hl2:=zd hl
    try clear hl
    go_upto_region 10 with (first|((with_reducible refine wpList_load_midG 29 (.tmp 45) ?_ w.heap.size 19 ?_ ?_ [.int .u64 y.v.c,.int .i64 y.v.k,.string y.v.t] _ ?_ zu29 ?_ ?_ ?_);(·rfl);(·rfl);(·kernel_rfl);(·exact range_of_row HB.out 19 3 _ rfl);(·rfl);(·exact info_vdA))|(go_at_call 68;refine (HSX.out _).mono ?_;rintro en w3 ⟨rfl,hx3⟩;have E3:=zd (HE.out.trans hx3);have B3:=zd (heap_ext HB.out hx3);have R3:=zd (heap_ext HZ.out hx3);have p0:=cell_keep q0 hx3;have l3:=zU l9 hx3.size;clear hx3 q0 l9))
    refine wp_forget (fun w'=>∃ g7,Hid (g7=w3.heap.size)∧Hid (LtAt w' g7 ll)∧Hid (Ext w3 w')) ⟨_,zd rfl,zd (by first|exact heap_new rfl|(rw [hl2.out];exact heap_new rfl)),zd (zR.alloc _)⟩ ?_
    rintro W5 ⟨g7,hg7,H7,E5⟩
    rw [←hg7.out]
    clear hg7 p0 l3
    have q7:=zQ H7.out
    have l7:g7<W5.heap.size:=zL H7.out
    have B5:=zd (heap_ext B3.out E5.out)
    have R5:=zd (heap_ext R3.out E5.out)
    have E6:=zd (E3.out.trans E5.out)
    have HC:=fun w' (hw:Ext (W5.alloc (.cells #[.int .i64 ll.k,.int .i64 ll.f,.int .u64 ll.c,.string ll.t,.bool ll.b] 24)) w')=>rx_hears y v (.slice (some ⟨W5.heap.size,0,none⟩) 1 1) [ll] lost w' (Row.ext HRY.out ((E6.out.alloc _).trans hw)) HVV.out (Row.of_own (own_ext (own_new (size:=5) (n:=1) (e:=24) (xs:=ll.cs) (Ext.refl W5) rfl (by decide) rfl rfl) hw)) hnY (by simp)
    have HCC:=zd HC
    clear HC
    go_wp2_with (first|((with_reducible refine wpList_load_rowG ?_ 33 (.tmp 3) ?_ w.heap.size ?_ 33 (y.arr v) (0,0) _ ?_ zu33 ?_ ?_ ?_);(·rfl);(·rfl);(·rfl);(·exact B5.out);(·rfl);(·exact info_ex))|(go_at_call 77;refine (HCC.out _ zR).mono ?_;rintro en w8 ⟨v8,rfl,ho8,hx8⟩;have HO8:=zd ho8;have HX8:=zd hx8;have R8:=zd (heap_ext R5.out (((Ext.refl W5).alloc _).trans hx8));have HV8:=zd ho8.one;clear ho8 hx8)|(refine wpList_store_row rfl 33 _ _ rfl (w.heap.size+1+1) _ rfl rfl 33 _ R8.out info_ex rfl (arr_one _ HV8.out) ?_))
    refine bodyPost_ret (results_cell_row rfl _ _ (w.heap.size+1+1) 33 (Ex.arr _ v8) (0,0) _ rfl (setRow_heap _ _ _ _ _ _ R8.out) zu33 rfl info_ex) rfl ?_
    have hle:w.heap.size+1+1<(W5.alloc (.cells #[.int .i64 ll.k,.int .i64 ll.f,.int .u64 ll.c,.string ll.t,.bool ll.b] 24)).heap.size:=zU (zL R5.out) ((Ext.refl W5).alloc _).size
    exact ⟨_,rfl,own_base (own_at HO8.out fun k hk=>setRow_other _ _ _ _ (by have:=row_loZ HO8.out _ hk;omega)) (by omega),((E6.out.alloc _).trans HX8.out).setRow (by omega) _⟩
theorem rx_asks (x:Ex) (v:Value) (m:Mv) (w:World) (hR:Hrd w x v) (hv:v = .slice none 0 0∨∃ a n c,v = .slice (some a) n c) (hn:x.h.length≤100000) (hb:m.l.k=3→m.l.b=false) :
 Calls Tryz.prog 48 #[.agg (x.arr v),.agg #[.int .i64 m.l.k,.int .i64 m.l.f,.int .u64 m.l.c,.string m.l.t,.bool m.l.b],.bool m.lost] w (AskP w x v (askX x m)):=by
 by_cases h:(m.l.k=4∧m.l.b=false)∨m.l.k=3
 ·unfold askX
  rw [if_pos h]
  have hk:m.l.k=3∨m.l.k=4:=by omega
  have hb2:m.l.b=false:=h.elim (fun h=>h.2) hb
  refine (rx_asks1 x _ v m.l m.lost w hR hv hn hk hb2 rfl).mono ?_
  rintro e w' ⟨v',rfl,ho,hx⟩
  exact ⟨v',rfl,.inl ho,hx⟩
 ·unfold askX
  rw [if_neg h]
  have hone:v.oneCell'=true:=by rcases hv with h|⟨_,_,_,h⟩<;>(rw [h];rfl)
  refine rx_asks0 x v m.l m.lost w hone ?_
  rintro ⟨h1|h1,h2⟩
  ·exact h (.inr h1)
  ·exact h (.inl ⟨h1,h2⟩)
theorem rx_stepN (x:Ex) (v:Value) (m:Mv) (w:World) (hR:Hrd w x v) (hv:v = .slice none 0 0∨∃ a n c,v = .slice (some a) n c) (hn:x.h.length≤100000)
 (hno:m.k<1∨6<m.k∨(m.k≠4∧m.k≠6∧m.who≠0∧m.who≠1)) :
 Calls Tryz.prog 25 #[.agg (x.arr v),.agg #[.int .i64 m.k,.int .i64 m.who,.string m.t,.int .i64 m.l.k,.int .i64 m.l.f,.int .u64 m.l.c,.string m.l.t,.bool m.l.b,.bool m.lost]] w (Stpd w (stepX x m).1 (stepX x m).2):=by
 obtain ⟨ti0,hi,hz0,hz1,hz2⟩:=info_parts info_letter
 have HYE:Hid (stepX x m=(x,false)):=zd (by
  unfold stepX
  rw [if_neg (by omega),if_neg (by omega)]
  by_cases hw:m.who=0∨m.who=1
  ·rw [if_pos hw,if_neg (by omega),if_neg (by rintro (h|h|⟨h,_⟩)<;>omega)]
  ·rw [if_neg hw])
 have HR:=zd hR
 have HVV:=zd hv
 have hK:Hid ((m.k<1)∨(¬m.k<1∧m.k > 6)∨(¬m.k<1∧¬m.k > 6∧(m.k != 4)=true∧(m.k != 6)=true∧(m.who != 0)=true∧(m.who != 1)=true)):=zd (by
  simp only [bne_iff_ne]
  omega)
 obtain ⟨a,cap,rfl,hm,_⟩:=row_view hR
 clear hR hv hm hno
 go_enter Tryz.func25,Tryz.ntmps25
 go_upto_region 1 with fail
 refine wp_forget (zY w x m a cap) (zd (three_new zR)) ?_
 intro W1 H1
 have q25:W1.cell? ⟨w.heap.size,25,none⟩=some (.slice a x.h.length cap):=zQ H1.out.1 25
 have f25:=zF H1.out.1 25
 have l1:w.heap.size<W1.heap.size:=zL H1.out.1
 go_upto_region 2 with (first|(at_builtin;refine unHd ?_))
 unfold Hd2
 refine wpList_app4 W1.heap.size 31 24 ti0 _ 5 48 zu31 hi hz0 hz1 hz2 rfl (by decide) rfl _ _ rfl _ 0 [] rfl (own_new (Ext.refl W1) rfl (by decide) rfl rfl) (by simp) _ x.h.length (x.h.flatMap Lt.cs) rfl
  ((HR.out.ext H1.out.2.2.2).ext (zR.alloc _)) HVV.out (lt_one x.h) (by unfold maxLen;omega) (by omega) ?_
 intro v' w2 ho2 hb2 hg2
 rw [Nat.zero_add,List.nil_append] at ho2
 replace hg2:(W1.alloc (.cells #[] 24)).grownBy w2 (some W1.heap.size):=hg2
 have blk : ∀ k,k<W1.heap.size→w2.heap[k]?=W1.heap[k]?:=fun k hk=>(hg2.block k (by simp;omega) (by simp;omega)).trans (((Ext.refl W1).alloc (.cells #[] 24)).block k hk)
 have hx2:Ext W1 w2:=⟨hg2.os,hg2.tape,hg2.output,zT (by simp) hg2.size,blk⟩
 obtain ⟨a2,c2,rfl,_,_⟩:=own_view ho2
 have HO2:=zd ho2
 have HX2:=zd hx2
 have hb:=heap_ext H1.out.1 hx2
 have q4:=zQ hb
 have f4:=zF hb
 have l4:w.heap.size<w2.heap.size:=zL hb
 have HB:=zd hb
 clear ho2 hb2 hg2 blk hx2 q25 f25 l1 hb
 unfold Ex.arr at q4
 go_upto_region 2 with fail
 have hlo : ∀ k∈rowB (.slice a2 x.h.length c2),w.heap.size+1+1<k:=fun k hk=>by
  have:=row_loZ HO2.out _ hk
  have:=zL H1.out.2.2.1
  omega
 have hle:w.heap.size+1+1<W1.heap.size:=zL H1.out.2.2.1
 refine wp_forget (zX w x m W1 a2 c2) ⟨zd (setCell_row (o:=25) HB.out (.slice a2 x.h.length c2)),zd ((cell_other (by omega)).trans (heap_ext H1.out.2.1 HX2.out)),zd ((cell_other (by omega)).trans (heap_ext H1.out.2.2.1 HX2.out)),zd (own_at HO2.out fun k hk=>cell_other (show k≠w.heap.size from by have:=hlo k hk;omega)),zd ((H1.out.2.2.2.trans HX2.out).setCell zN _)⟩ ?_
 rintro W2 ⟨KX,KM,KR,KO,KE⟩
 clear q4 f4 l4 HB HO2 HX2
 have hm1:=KM.out
 unfold Mv.arr at hm1
 have qm:=zQ hm1
 have lm:w.heap.size+1<W2.heap.size:=zL hm1
 clear hm1
 rcases hK.out with h1|⟨h1,h2⟩|⟨h1,h2,h3,h4,h5,h6⟩
 all_goals
  go_wp2_with (first|((with_reducible refine wpList_load_rowG ?_ 33 (.tmp 2) ?_ w.heap.size ?_ 33 (Ex.arr x (.slice a2 x.h.length c2)) (0,0) _ ?_ zu33 ?_ ?_ ?_);(·rfl);(·rfl);(·rfl);(·exact KX.out);(·rfl);(·exact info_ex))|(refine wpList_store_row rfl 33 _ _ rfl (w.heap.size+1+1) _ rfl rfl 33 _ KR.out info_ex rfl (arr_one x rfl) ?_))
  refine bodyPost_ret (results_row_tmp rfl _ _ (w.heap.size+1+1) 33 (Ex.arr x (.slice a2 x.h.length c2)) (0,0) _ rfl (setRow_heap _ _ _ _ _ _ KR.out) zu33 rfl info_ex) rfl ?_
  have he:=HYE.out
  rw [he]
  exact ⟨_,rfl,own_base (own_at KO.out fun k hk=>setRow_other _ _ _ _ (by have:=hlo k hk;omega)) (by omega),KE.out.setRow (by omega) _⟩
theorem rx_stepB (x:Ex) (v:Value) (m:Mv) (w:World) (hR:Hrd w x v) (hv:v = .slice none 0 0∨∃ a n c,v = .slice (some a) n c) (hn:x.h.length≤100000)
 (hk:m.k=1∨m.k=2∨m.k=3) (hw:m.who=0∨m.who=1) (hb:x.bad m.who=true) :
 Calls Tryz.prog 25 #[.agg (x.arr v),.agg #[.int .i64 m.k,.int .i64 m.who,.string m.t,.int .i64 m.l.k,.int .i64 m.l.f,.int .u64 m.l.c,.string m.l.t,.bool m.l.b,.bool m.lost]] w (Stpd w (stepX x m).1 (stepX x m).2):=by
 obtain ⟨ti0,hi,hz0,hz1,hz2⟩:=info_parts info_letter
 have HYE:Hid (stepX x m=(x,false)):=zd (by
  unfold stepX
  rw [if_neg (by omega),if_neg (by omega),if_pos hw,if_neg (by omega),if_pos hb]
  split<;>rfl)
 have HR:=zd hR
 have HVV:=zd hv
 obtain ⟨a,cap,rfl,hm,_⟩:=row_view hR
 clear hR hv hm
 go_enter Tryz.func25,Tryz.ntmps25
 go_upto_region 1 with fail
 refine wp_forget (zY w x m a cap) (zd (three_new zR)) ?_
 intro W1 H1
 have q25:W1.cell? ⟨w.heap.size,25,none⟩=some (.slice a x.h.length cap):=zQ H1.out.1 25
 have f25:=zF H1.out.1 25
 have l1:w.heap.size<W1.heap.size:=zL H1.out.1
 go_upto_region 2 with (first|(at_builtin;refine unHd ?_))
 unfold Hd2
 refine wpList_app4 W1.heap.size 31 24 ti0 _ 5 48 zu31 hi hz0 hz1 hz2 rfl (by decide) rfl _ _ rfl _ 0 [] rfl (own_new (Ext.refl W1) rfl (by decide) rfl rfl) (by simp) _ x.h.length (x.h.flatMap Lt.cs) rfl
  ((HR.out.ext H1.out.2.2.2).ext (zR.alloc _)) HVV.out (lt_one x.h) (by unfold maxLen;omega) (by omega) ?_
 intro v' w2 ho2 hb2 hg2
 rw [Nat.zero_add,List.nil_append] at ho2
 replace hg2:(W1.alloc (.cells #[] 24)).grownBy w2 (some W1.heap.size):=hg2
 have blk : ∀ k,k<W1.heap.size→w2.heap[k]?=W1.heap[k]?:=fun k hk=>(hg2.block k (by simp;omega) (by simp;omega)).trans (((Ext.refl W1).alloc (.cells #[] 24)).block k hk)
 have hx2:Ext W1 w2:=⟨hg2.os,hg2.tape,hg2.output,zT (by simp) hg2.size,blk⟩
 obtain ⟨a2,c2,rfl,_,_⟩:=own_view ho2
 have HO2:=zd ho2
 have HX2:=zd hx2
 have hb:=heap_ext H1.out.1 hx2
 have q4:=zQ hb
 have f4:=zF hb
 have l4:w.heap.size<w2.heap.size:=zL hb
 have HB:=zd hb
 clear ho2 hb2 hg2 blk hx2 q25 f25 l1 hb
 unfold Ex.arr at q4
 go_upto_region 2 with fail
 have hlo : ∀ k∈rowB (.slice a2 x.h.length c2),w.heap.size+1+1<k:=fun k hk=>by
  have:=row_loZ HO2.out _ hk
  have:=zL H1.out.2.2.1
  omega
 have hle:w.heap.size+1+1<W1.heap.size:=zL H1.out.2.2.1
 refine wp_forget (zX w x m W1 a2 c2) ⟨zd (setCell_row (o:=25) HB.out (.slice a2 x.h.length c2)),zd ((cell_other (by omega)).trans (heap_ext H1.out.2.1 HX2.out)),zd ((cell_other (by omega)).trans (heap_ext H1.out.2.2.1 HX2.out)),zd (own_at HO2.out fun k hk=>cell_other (show k≠w.heap.size from by have:=hlo k hk;omega)),zd ((H1.out.2.2.2.trans HX2.out).setCell zN _)⟩ ?_
 rintro W2 ⟨KX,KM,KR,KO,KE⟩
 clear q4 f4 l4 HB HO2 HX2
 have hm1:=KM.out
 unfold Mv.arr at hm1
 have qm:=zQ hm1
 have lm:w.heap.size+1<W2.heap.size:=zL hm1
 clear hm1
 have q22:W2.cell? ⟨w.heap.size,22,none⟩=some (.bool x.b0):=zQ KX.out 22
 have q23:W2.cell? ⟨w.heap.size,23,none⟩=some (.bool x.b1):=zQ KX.out 23
 have lx:w.heap.size<W2.heap.size:=zL KX.out
 rcases hk with hk|hk|hk<;>rcases hw with hw|hw<;>rw [hw] at hb<;>simp only [Ex.bad] at hb
 all_goals
  simp at hb
  go_wp2_with (first|((with_reducible refine wpList_load_rowG ?_ 33 (.tmp 2) ?_ w.heap.size ?_ 33 (Ex.arr x (.slice a2 x.h.length c2)) (0,0) _ ?_ zu33 ?_ ?_ ?_);(·rfl);(·rfl);(·rfl);(·exact KX.out);(·rfl);(·exact info_ex))|(refine wpList_store_row rfl 33 _ _ rfl (w.heap.size+1+1) _ rfl rfl 33 _ KR.out info_ex rfl (arr_one x rfl) ?_))
  refine bodyPost_ret (results_row_tmp rfl _ _ (w.heap.size+1+1) 33 (Ex.arr x (.slice a2 x.h.length c2)) (0,0) _ rfl (setRow_heap _ _ _ _ _ _ KR.out) zu33 rfl info_ex) rfl ?_
  have he:=HYE.out
  rw [he]
  exact ⟨_,rfl,own_base (own_at KO.out fun k hk=>setRow_other _ _ _ _ (by have:=hlo k hk;omega)) (by omega),KE.out.setRow (by omega) _⟩
theorem rx_stepC (x:Ex) (v:Value) (m:Mv) (w:World) (hR:Hrd w x v) (hv:v = .slice none 0 0∨∃ a n c,v = .slice (some a) n c) (hn:x.h.length≤100000)
 (hk:(m.k=2∧(m.who=0∨m.who=1)∧x.bad m.who=false)∨m.k=4) (hc:canS x m.l=false) :
 Calls Tryz.prog 25 #[.agg (x.arr v),.agg #[.int .i64 m.k,.int .i64 m.who,.string m.t,.int .i64 m.l.k,.int .i64 m.l.f,.int .u64 m.l.c,.string m.l.t,.bool m.l.b,.bool m.lost]] w (Stpd w (stepX x m).1 (stepX x m).2):=by
 obtain ⟨ti0,hi,hz0,hz1,hz2⟩:=info_parts info_letter
 have HYE:Hid (stepX x m=(x,false)):=zd (by
  unfold stepX
  rcases hk with ⟨h,hw,hb⟩|h
  ·rw [if_neg (by omega),if_neg (by omega),if_pos hw,if_neg (by omega),if_neg (by rintro (h|h|⟨_,h⟩);omega;omega;rw [hc] at h;cases h)]
  ·rw [if_pos h,if_neg (by rw [hc];simp)])
 have HR:=zd hR
 have HVV:=zd hv
 obtain ⟨a,cap,rfl,hm,_⟩:=row_view hR
 clear hR hv hm
 go_enter Tryz.func25,Tryz.ntmps25
 go_upto_region 1 with fail
 refine wp_forget (zY w x m a cap) (zd (three_new zR)) ?_
 intro W1 H1
 have q25:W1.cell? ⟨w.heap.size,25,none⟩=some (.slice a x.h.length cap):=zQ H1.out.1 25
 have f25:=zF H1.out.1 25
 have l1:w.heap.size<W1.heap.size:=zL H1.out.1
 go_upto_region 2 with (first|(at_builtin;refine unHd ?_))
 unfold Hd2
 refine wpList_app4 W1.heap.size 31 24 ti0 _ 5 48 zu31 hi hz0 hz1 hz2 rfl (by decide) rfl _ _ rfl _ 0 [] rfl (own_new (Ext.refl W1) rfl (by decide) rfl rfl) (by simp) _ x.h.length (x.h.flatMap Lt.cs) rfl
  ((HR.out.ext H1.out.2.2.2).ext (zR.alloc _)) HVV.out (lt_one x.h) (by unfold maxLen;omega) (by omega) ?_
 intro v' w2 ho2 hb2 hg2
 rw [Nat.zero_add,List.nil_append] at ho2
 replace hg2:(W1.alloc (.cells #[] 24)).grownBy w2 (some W1.heap.size):=hg2
 have blk : ∀ k,k<W1.heap.size→w2.heap[k]?=W1.heap[k]?:=fun k hk=>(hg2.block k (by simp;omega) (by simp;omega)).trans (((Ext.refl W1).alloc (.cells #[] 24)).block k hk)
 have hx2:Ext W1 w2:=⟨hg2.os,hg2.tape,hg2.output,zT (by simp) hg2.size,blk⟩
 obtain ⟨a2,c2,rfl,_,_⟩:=own_view ho2
 have HO2:=zd ho2
 have HX2:=zd hx2
 have hb:=heap_ext H1.out.1 hx2
 have q4:=zQ hb
 have f4:=zF hb
 have l4:w.heap.size<w2.heap.size:=zL hb
 have HB:=zd hb
 clear ho2 hb2 hg2 blk hx2 q25 f25 l1 hb
 unfold Ex.arr at q4
 go_upto_region 2 with fail
 have hlo : ∀ k∈rowB (.slice a2 x.h.length c2),w.heap.size+1+1<k:=fun k hk=>by
  have:=row_loZ HO2.out _ hk
  have:=zL H1.out.2.2.1
  omega
 have hle:w.heap.size+1+1<W1.heap.size:=zL H1.out.2.2.1
 refine wp_forget (zX w x m W1 a2 c2) ⟨zd (setCell_row (o:=25) HB.out (.slice a2 x.h.length c2)),zd ((cell_other (by omega)).trans (heap_ext H1.out.2.1 HX2.out)),zd ((cell_other (by omega)).trans (heap_ext H1.out.2.2.1 HX2.out)),zd (own_at HO2.out fun k hk=>cell_other (show k≠w.heap.size from by have:=hlo k hk;omega)),zd ((H1.out.2.2.2.trans HX2.out).setCell zN _)⟩ ?_
 rintro W2 ⟨KX,KM,KR,KO,KE⟩
 clear q4 f4 l4 HB HO2 HX2
 have hm1:=KM.out
 unfold Mv.arr at hm1
 have qm:=zQ hm1
 have lm:w.heap.size+1<W2.heap.size:=zL hm1
 clear hm1
 have q22:W2.cell? ⟨w.heap.size,22,none⟩=some (.bool x.b0):=zQ KX.out 22
 have q23:W2.cell? ⟨w.heap.size,23,none⟩=some (.bool x.b1):=zQ KX.out 23
 have lx:w.heap.size<W2.heap.size:=zL KX.out
 have hcan:=fun w' (hw:Ext W2 w')=>rx_can x (.slice a2 x.h.length c2) m.l w' (Row.of_own (own_ext KO.out hw))
 rw [hc] at hcan
 have HCan:=zd hcan
 clear hcan hc
 rcases hk with ⟨hk,hw|hw,hb⟩|hk
 case inr=>
  go_wp2_with (first|(go_at_call 46;refine (HCan.out _ zR).mono ?_;rintro en w3 ⟨rfl,hx3⟩;have KX3:=zd (heap_ext KX.out hx3);have KR3:=zd (heap_ext KR.out hx3);have KO3:=zd (own_ext KO.out hx3);have KE3:=zd (KE.out.trans hx3);clear hx3)|((with_reducible refine wpList_load_rowG ?_ 33 (.tmp 2) ?_ w.heap.size ?_ 33 (Ex.arr x (.slice a2 x.h.length c2)) (0,0) _ ?_ zu33 ?_ ?_ ?_);(·rfl);(·rfl);(·rfl);(·exact KX.out);(·rfl);(·exact info_ex))|((with_reducible refine wpList_load_rowG ?_ 33 (.tmp 2) ?_ w.heap.size ?_ 33 (Ex.arr x (.slice a2 x.h.length c2)) (0,0) _ ?_ zu33 ?_ ?_ ?_);(·rfl);(·rfl);(·rfl);(·exact KX3.out);(·rfl);(·exact info_ex))|(refine wpList_store_row rfl 33 _ _ rfl (w.heap.size+1+1) _ rfl rfl 33 _ KR3.out info_ex rfl (arr_one x rfl) ?_))
  refine bodyPost_ret (results_row_tmp rfl _ _ (w.heap.size+1+1) 33 (Ex.arr x (.slice a2 x.h.length c2)) (0,0) _ rfl (setRow_heap _ _ _ _ _ _ KR3.out) zu33 rfl info_ex) rfl ?_
  have he:=HYE.out
  rw [he]
  exact ⟨_,rfl,own_base (own_at KO3.out fun k hk=>setRow_other _ _ _ _ (by have:=hlo k hk;omega)) (by omega),KE3.out.setRow (by omega) _⟩
 all_goals
  rw [hw] at hb
  simp [Ex.bad] at hb
  go_wp2_with (first|(go_at_call 46;refine (HCan.out _ zR).mono ?_;rintro en w3 ⟨rfl,hx3⟩;have KX3:=zd (heap_ext KX.out hx3);have KR3:=zd (heap_ext KR.out hx3);have KO3:=zd (own_ext KO.out hx3);have KE3:=zd (KE.out.trans hx3);clear hx3)|((with_reducible refine wpList_load_rowG ?_ 33 (.tmp 2) ?_ w.heap.size ?_ 33 (Ex.arr x (.slice a2 x.h.length c2)) (0,0) _ ?_ zu33 ?_ ?_ ?_);(·rfl);(·rfl);(·rfl);(·exact KX.out);(·rfl);(·exact info_ex))|((with_reducible refine wpList_load_rowG ?_ 33 (.tmp 2) ?_ w.heap.size ?_ 33 (Ex.arr x (.slice a2 x.h.length c2)) (0,0) _ ?_ zu33 ?_ ?_ ?_);(·rfl);(·rfl);(·rfl);(·exact KX3.out);(·rfl);(·exact info_ex))|(refine wpList_store_row rfl 33 _ _ rfl (w.heap.size+1+1) _ rfl rfl 33 _ KR3.out info_ex rfl (arr_one x rfl) ?_))
  refine bodyPost_ret (results_row_tmp rfl _ _ (w.heap.size+1+1) 33 (Ex.arr x (.slice a2 x.h.length c2)) (0,0) _ rfl (setRow_heap _ _ _ _ _ _ KR3.out) zu33 rfl info_ex) rfl ?_
  have he:=HYE.out
  rw [he]
  exact ⟨_,rfl,own_base (own_at KO3.out fun k hk=>setRow_other _ _ _ _ (by have:=hlo k hk;omega)) (by omega),KE3.out.setRow (by omega) _⟩
theorem rx_step6 (x:Ex) (v:Value) (m:Mv) (w:World) (hR:Hrd w x v) (hv:v = .slice none 0 0∨∃ a n c,v = .slice (some a) n c) (hn:x.h.length≤100000)
 (hk:m.k=6) :
 Calls Tryz.prog 25 #[.agg (x.arr v),.agg #[.int .i64 m.k,.int .i64 m.who,.string m.t,.int .i64 m.l.k,.int .i64 m.l.f,.int .u64 m.l.c,.string m.l.t,.bool m.l.b,.bool m.lost]] w (Stpd w (stepX x m).1 (stepX x m).2):=by
 obtain ⟨ti0,hi,hz0,hz1,hz2⟩:=info_parts info_letter
 have HYE:Hid (stepX x m=({ x with full:=true },true)):=zd (by
  unfold stepX
  rw [if_neg (by omega),if_pos hk])
 have HR:=zd hR
 have HVV:=zd hv
 obtain ⟨a,cap,rfl,hm,_⟩:=row_view hR
 clear hR hv hm
 have HK:=zd hk
 clear hk
 go_enter Tryz.func25,Tryz.ntmps25
 go_upto_region 1 with fail
 refine wp_forget (zY w x m a cap) (zd (three_new zR)) ?_
 intro W1 H1
 have q25:W1.cell? ⟨w.heap.size,25,none⟩=some (.slice a x.h.length cap):=zQ H1.out.1 25
 have f25:=zF H1.out.1 25
 have l1:w.heap.size<W1.heap.size:=zL H1.out.1
 go_upto_region 2 with (first|(at_builtin;refine unHd ?_))
 unfold Hd2
 refine wpList_app4 W1.heap.size 31 24 ti0 _ 5 48 zu31 hi hz0 hz1 hz2 rfl (by decide) rfl _ _ rfl _ 0 [] rfl (own_new (Ext.refl W1) rfl (by decide) rfl rfl) (by simp) _ x.h.length (x.h.flatMap Lt.cs) rfl
  ((HR.out.ext H1.out.2.2.2).ext (zR.alloc _)) HVV.out (lt_one x.h) (by unfold maxLen;omega) (by omega) ?_
 intro v' w2 ho2 hb2 hg2
 rw [Nat.zero_add,List.nil_append] at ho2
 replace hg2:(W1.alloc (.cells #[] 24)).grownBy w2 (some W1.heap.size):=hg2
 have blk : ∀ k,k<W1.heap.size→w2.heap[k]?=W1.heap[k]?:=fun k hk=>(hg2.block k (by simp;omega) (by simp;omega)).trans (((Ext.refl W1).alloc (.cells #[] 24)).block k hk)
 have hx2:Ext W1 w2:=⟨hg2.os,hg2.tape,hg2.output,zT (by simp) hg2.size,blk⟩
 obtain ⟨a2,c2,rfl,_,_⟩:=own_view ho2
 have HO2:=zd ho2
 have HX2:=zd hx2
 have hb:=heap_ext H1.out.1 hx2
 have q4:=zQ hb
 have f4:=zF hb
 have l4:w.heap.size<w2.heap.size:=zL hb
 have HB:=zd hb
 clear ho2 hb2 hg2 blk hx2 q25 f25 l1 hb
 unfold Ex.arr at q4
 go_upto_region 2 with fail
 have hlo : ∀ k∈rowB (.slice a2 x.h.length c2),w.heap.size+1+1<k:=fun k hk=>by
  have:=row_loZ HO2.out _ hk
  have:=zL H1.out.2.2.1
  omega
 have hle:w.heap.size+1+1<W1.heap.size:=zL H1.out.2.2.1
 refine wp_forget (zX w x m W1 a2 c2) ⟨zd (setCell_row (o:=25) HB.out (.slice a2 x.h.length c2)),zd ((cell_other (by omega)).trans (heap_ext H1.out.2.1 HX2.out)),zd ((cell_other (by omega)).trans (heap_ext H1.out.2.2.1 HX2.out)),zd (own_at HO2.out fun k hk=>cell_other (show k≠w.heap.size from by have:=hlo k hk;omega)),zd ((H1.out.2.2.2.trans HX2.out).setCell zN _)⟩ ?_
 rintro W2 ⟨KX,KM,KR,KO,KE⟩
 clear q4 f4 l4 HB HO2 HX2
 have hm1:=KM.out
 unfold Mv.arr at hm1
 have qm:=zQ hm1
 have lm:w.heap.size+1<W2.heap.size:=zL hm1
 clear hm1
 have q24:=zQ KX.out 24
 have f24:=zF KX.out 24
 have hk:=HK.out
 have lx:w.heap.size<W2.heap.size:=zL KX.out
 unfold Ex.arr at q24
 go_upto_region 23 with fail
 refine wp_forget (fun w'=>Hid (ExAt w' w.heap.size ({ x with full:=true } : Ex) (.slice a2 x.h.length c2))∧Hid (w'.heap[w.heap.size+1+1]?=some (.cells ((zeX []).arr (.slice none 0 0)) 33 (0,0)))∧Hid (Own w' W1.heap.size x.h (.slice a2 x.h.length c2))∧Hid (Ext w w')) ⟨zd (setCell_row (o:=24) KX.out (.bool true)),zd ((cell_other (by omega)).trans KR.out),zd (own_at KO.out fun k hk=>cell_other (show k≠w.heap.size from by have:=hlo k hk;omega)),zd (KE.out.setCell zN _)⟩ ?_
 rintro W3 ⟨KX3,KR3,KO3,KE3⟩
 clear q24 f24 lx qm lm
 go_wp2_with (first|((with_reducible refine wpList_load_rowG ?_ 33 (.tmp 2) ?_ w.heap.size ?_ 33 (Ex.arr ({ x with full:=true } : Ex) (.slice a2 x.h.length c2)) (0,0) _ ?_ zu33 ?_ ?_ ?_);(·rfl);(·rfl);(·rfl);(·exact KX3.out);(·rfl);(·exact info_ex))|(refine wpList_store_row rfl 33 _ _ rfl (w.heap.size+1+1) _ rfl rfl 33 _ KR3.out info_ex rfl (arr_one ({ x with full:=true } : Ex) rfl) ?_))
 refine bodyPost_ret (results_row_tmp rfl _ _ (w.heap.size+1+1) 33 (Ex.arr ({ x with full:=true } : Ex) (.slice a2 x.h.length c2)) (0,0) _ rfl (setRow_heap _ _ _ _ _ _ KR3.out) zu33 rfl info_ex) rfl ?_
 have he:=HYE.out
 rw [he]
 exact ⟨_,rfl,own_base (own_at KO3.out fun k hk=>setRow_other _ _ _ _ (by have:=hlo k hk;omega)) (by omega),KE3.out.setRow (by omega) _⟩
theorem rx_step50 (x:Ex) (v:Value) (m:Mv) (w:World) (hR:Hrd w x v) (hv:v = .slice none 0 0∨∃ a n c,v = .slice (some a) n c) (hn:x.h.length≤100000)
 (hk:m.k=5) (hw:m.who=0) :
 Calls Tryz.prog 25 #[.agg (x.arr v),.agg #[.int .i64 m.k,.int .i64 m.who,.string m.t,.int .i64 m.l.k,.int .i64 m.l.f,.int .u64 m.l.c,.string m.l.t,.bool m.l.b,.bool m.lost]] w (Stpd w (stepX x m).1 (stepX x m).2):=by
 obtain ⟨ti0,hi,hz0,hz1,hz2⟩:=info_parts info_letter
 have HYE:Hid (stepX x m=({ x with b0:=true },true)):=zd (by
  unfold stepX
  rw [if_neg (by omega),if_neg (by omega),if_pos (.inl hw),if_pos hk,if_pos hw])
 have HR:=zd hR
 have HVV:=zd hv
 obtain ⟨a,cap,rfl,hm,_⟩:=row_view hR
 clear hR hv hm
 have HK:=zd hk
 clear hk
 have HW:=zd hw
 clear hw
 go_enter Tryz.func25,Tryz.ntmps25
 go_upto_region 1 with fail
 refine wp_forget (zY w x m a cap) (zd (three_new zR)) ?_
 intro W1 H1
 have q25:W1.cell? ⟨w.heap.size,25,none⟩=some (.slice a x.h.length cap):=zQ H1.out.1 25
 have f25:=zF H1.out.1 25
 have l1:w.heap.size<W1.heap.size:=zL H1.out.1
 go_upto_region 2 with (first|(at_builtin;refine unHd ?_))
 unfold Hd2
 refine wpList_app4 W1.heap.size 31 24 ti0 _ 5 48 zu31 hi hz0 hz1 hz2 rfl (by decide) rfl _ _ rfl _ 0 [] rfl (own_new (Ext.refl W1) rfl (by decide) rfl rfl) (by simp) _ x.h.length (x.h.flatMap Lt.cs) rfl
  ((HR.out.ext H1.out.2.2.2).ext (zR.alloc _)) HVV.out (lt_one x.h) (by unfold maxLen;omega) (by omega) ?_
 intro v' w2 ho2 hb2 hg2
 rw [Nat.zero_add,List.nil_append] at ho2
 replace hg2:(W1.alloc (.cells #[] 24)).grownBy w2 (some W1.heap.size):=hg2
 have blk : ∀ k,k<W1.heap.size→w2.heap[k]?=W1.heap[k]?:=fun k hk=>(hg2.block k (by simp;omega) (by simp;omega)).trans (((Ext.refl W1).alloc (.cells #[] 24)).block k hk)
 have hx2:Ext W1 w2:=⟨hg2.os,hg2.tape,hg2.output,zT (by simp) hg2.size,blk⟩
 obtain ⟨a2,c2,rfl,_,_⟩:=own_view ho2
 have HO2:=zd ho2
 have HX2:=zd hx2
 have hb:=heap_ext H1.out.1 hx2
 have q4:=zQ hb
 have f4:=zF hb
 have l4:w.heap.size<w2.heap.size:=zL hb
 have HB:=zd hb
 clear ho2 hb2 hg2 blk hx2 q25 f25 l1 hb
 unfold Ex.arr at q4
 go_upto_region 2 with fail
 have hlo : ∀ k∈rowB (.slice a2 x.h.length c2),w.heap.size+1+1<k:=fun k hk=>by
  have:=row_loZ HO2.out _ hk
  have:=zL H1.out.2.2.1
  omega
 have hle:w.heap.size+1+1<W1.heap.size:=zL H1.out.2.2.1
 refine wp_forget (zX w x m W1 a2 c2) ⟨zd (setCell_row (o:=25) HB.out (.slice a2 x.h.length c2)),zd ((cell_other (by omega)).trans (heap_ext H1.out.2.1 HX2.out)),zd ((cell_other (by omega)).trans (heap_ext H1.out.2.2.1 HX2.out)),zd (own_at HO2.out fun k hk=>cell_other (show k≠w.heap.size from by have:=hlo k hk;omega)),zd ((H1.out.2.2.2.trans HX2.out).setCell zN _)⟩ ?_
 rintro W2 ⟨KX,KM,KR,KO,KE⟩
 clear q4 f4 l4 HB HO2 HX2
 have hm1:=KM.out
 unfold Mv.arr at hm1
 have qm:=zQ hm1
 have lm:w.heap.size+1<W2.heap.size:=zL hm1
 clear hm1
 have q22:=zQ KX.out 22
 have f22:=zF KX.out 22
 have hk:=HK.out
 have hw:=HW.out
 have lx:w.heap.size<W2.heap.size:=zL KX.out
 unfold Ex.arr at q22
 go_upto_region 23 with fail
 refine wp_forget (fun w'=>Hid (ExAt w' w.heap.size ({ x with b0:=true } : Ex) (.slice a2 x.h.length c2))∧Hid (w'.heap[w.heap.size+1+1]?=some (.cells ((zeX []).arr (.slice none 0 0)) 33 (0,0)))∧Hid (Own w' W1.heap.size x.h (.slice a2 x.h.length c2))∧Hid (Ext w w')) ⟨zd (setCell_row (o:=22) KX.out (.bool true)),zd ((cell_other (by omega)).trans KR.out),zd (own_at KO.out fun k hk=>cell_other (show k≠w.heap.size from by have:=hlo k hk;omega)),zd (KE.out.setCell zN _)⟩ ?_
 rintro W3 ⟨KX3,KR3,KO3,KE3⟩
 clear q22 f22 lx qm lm
 go_wp2_with (first|((with_reducible refine wpList_load_rowG ?_ 33 (.tmp 2) ?_ w.heap.size ?_ 33 (Ex.arr ({ x with b0:=true } : Ex) (.slice a2 x.h.length c2)) (0,0) _ ?_ zu33 ?_ ?_ ?_);(·rfl);(·rfl);(·rfl);(·exact KX3.out);(·rfl);(·exact info_ex))|(refine wpList_store_row rfl 33 _ _ rfl (w.heap.size+1+1) _ rfl rfl 33 _ KR3.out info_ex rfl (arr_one ({ x with b0:=true } : Ex) rfl) ?_))
 refine bodyPost_ret (results_row_tmp rfl _ _ (w.heap.size+1+1) 33 (Ex.arr ({ x with b0:=true } : Ex) (.slice a2 x.h.length c2)) (0,0) _ rfl (setRow_heap _ _ _ _ _ _ KR3.out) zu33 rfl info_ex) rfl ?_
 have he:=HYE.out
 rw [he]
 exact ⟨_,rfl,own_base (own_at KO3.out fun k hk=>setRow_other _ _ _ _ (by have:=hlo k hk;omega)) (by omega),KE3.out.setRow (by omega) _⟩
theorem rx_step51 (x:Ex) (v:Value) (m:Mv) (w:World) (hR:Hrd w x v) (hv:v = .slice none 0 0∨∃ a n c,v = .slice (some a) n c) (hn:x.h.length≤100000)
 (hk:m.k=5) (hw:m.who=1) :
 Calls Tryz.prog 25 #[.agg (x.arr v),.agg #[.int .i64 m.k,.int .i64 m.who,.string m.t,.int .i64 m.l.k,.int .i64 m.l.f,.int .u64 m.l.c,.string m.l.t,.bool m.l.b,.bool m.lost]] w (Stpd w (stepX x m).1 (stepX x m).2):=by
 obtain ⟨ti0,hi,hz0,hz1,hz2⟩:=info_parts info_letter
 have HYE:Hid (stepX x m=({ x with b1:=true },true)):=zd (by
  unfold stepX
  rw [if_neg (by omega),if_neg (by omega),if_pos (.inr hw),if_pos hk,if_neg (by omega)])
 have HR:=zd hR
 have HVV:=zd hv
 obtain ⟨a,cap,rfl,hm,_⟩:=row_view hR
 clear hR hv hm
 have HK:=zd hk
 clear hk
 have HW:=zd hw
 clear hw
 go_enter Tryz.func25,Tryz.ntmps25
 go_upto_region 1 with fail
 refine wp_forget (zY w x m a cap) (zd (three_new zR)) ?_
 intro W1 H1
 have q25:W1.cell? ⟨w.heap.size,25,none⟩=some (.slice a x.h.length cap):=zQ H1.out.1 25
 have f25:=zF H1.out.1 25
 have l1:w.heap.size<W1.heap.size:=zL H1.out.1
 go_upto_region 2 with (first|(at_builtin;refine unHd ?_))
 unfold Hd2
 refine wpList_app4 W1.heap.size 31 24 ti0 _ 5 48 zu31 hi hz0 hz1 hz2 rfl (by decide) rfl _ _ rfl _ 0 [] rfl (own_new (Ext.refl W1) rfl (by decide) rfl rfl) (by simp) _ x.h.length (x.h.flatMap Lt.cs) rfl
  ((HR.out.ext H1.out.2.2.2).ext (zR.alloc _)) HVV.out (lt_one x.h) (by unfold maxLen;omega) (by omega) ?_
 intro v' w2 ho2 hb2 hg2
 rw [Nat.zero_add,List.nil_append] at ho2
 replace hg2:(W1.alloc (.cells #[] 24)).grownBy w2 (some W1.heap.size):=hg2
 have blk : ∀ k,k<W1.heap.size→w2.heap[k]?=W1.heap[k]?:=fun k hk=>(hg2.block k (by simp;omega) (by simp;omega)).trans (((Ext.refl W1).alloc (.cells #[] 24)).block k hk)
 have hx2:Ext W1 w2:=⟨hg2.os,hg2.tape,hg2.output,zT (by simp) hg2.size,blk⟩
 obtain ⟨a2,c2,rfl,_,_⟩:=own_view ho2
 have HO2:=zd ho2
 have HX2:=zd hx2
 have hb:=heap_ext H1.out.1 hx2
 have q4:=zQ hb
 have f4:=zF hb
 have l4:w.heap.size<w2.heap.size:=zL hb
 have HB:=zd hb
 clear ho2 hb2 hg2 blk hx2 q25 f25 l1 hb
 unfold Ex.arr at q4
 go_upto_region 2 with fail
 have hlo : ∀ k∈rowB (.slice a2 x.h.length c2),w.heap.size+1+1<k:=fun k hk=>by
  have:=row_loZ HO2.out _ hk
  have:=zL H1.out.2.2.1
  omega
 have hle:w.heap.size+1+1<W1.heap.size:=zL H1.out.2.2.1
 refine wp_forget (zX w x m W1 a2 c2) ⟨zd (setCell_row (o:=25) HB.out (.slice a2 x.h.length c2)),zd ((cell_other (by omega)).trans (heap_ext H1.out.2.1 HX2.out)),zd ((cell_other (by omega)).trans (heap_ext H1.out.2.2.1 HX2.out)),zd (own_at HO2.out fun k hk=>cell_other (show k≠w.heap.size from by have:=hlo k hk;omega)),zd ((H1.out.2.2.2.trans HX2.out).setCell zN _)⟩ ?_
 rintro W2 ⟨KX,KM,KR,KO,KE⟩
 clear q4 f4 l4 HB HO2 HX2
 have hm1:=KM.out
 unfold Mv.arr at hm1
 have qm:=zQ hm1
 have lm:w.heap.size+1<W2.heap.size:=zL hm1
 clear hm1
 have q23:=zQ KX.out 23
 have f23:=zF KX.out 23
 have hk:=HK.out
 have hw:=HW.out
 have lx:w.heap.size<W2.heap.size:=zL KX.out
 unfold Ex.arr at q23
 go_upto_region 23 with fail
 refine wp_forget (fun w'=>Hid (ExAt w' w.heap.size ({ x with b1:=true } : Ex) (.slice a2 x.h.length c2))∧Hid (w'.heap[w.heap.size+1+1]?=some (.cells ((zeX []).arr (.slice none 0 0)) 33 (0,0)))∧Hid (Own w' W1.heap.size x.h (.slice a2 x.h.length c2))∧Hid (Ext w w')) ⟨zd (setCell_row (o:=23) KX.out (.bool true)),zd ((cell_other (by omega)).trans KR.out),zd (own_at KO.out fun k hk=>cell_other (show k≠w.heap.size from by have:=hlo k hk;omega)),zd (KE.out.setCell zN _)⟩ ?_
 rintro W3 ⟨KX3,KR3,KO3,KE3⟩
 clear q23 f23 lx qm lm
 go_wp2_with (first|((with_reducible refine wpList_load_rowG ?_ 33 (.tmp 2) ?_ w.heap.size ?_ 33 (Ex.arr ({ x with b1:=true } : Ex) (.slice a2 x.h.length c2)) (0,0) _ ?_ zu33 ?_ ?_ ?_);(·rfl);(·rfl);(·rfl);(·exact KX3.out);(·rfl);(·exact info_ex))|(refine wpList_store_row rfl 33 _ _ rfl (w.heap.size+1+1) _ rfl rfl 33 _ KR3.out info_ex rfl (arr_one ({ x with b1:=true } : Ex) rfl) ?_))
 refine bodyPost_ret (results_row_tmp rfl _ _ (w.heap.size+1+1) 33 (Ex.arr ({ x with b1:=true } : Ex) (.slice a2 x.h.length c2)) (0,0) _ rfl (setRow_heap _ _ _ _ _ _ KR3.out) zu33 rfl info_ex) rfl ?_
 have he:=HYE.out
 rw [he]
 exact ⟨_,rfl,own_base (own_at KO3.out fun k hk=>setRow_other _ _ _ _ (by have:=hlo k hk;omega)) (by omega),KE3.out.setRow (by omega) _⟩
end Go.Proofs.YtlnmhocehgmbbaaGreatDoor

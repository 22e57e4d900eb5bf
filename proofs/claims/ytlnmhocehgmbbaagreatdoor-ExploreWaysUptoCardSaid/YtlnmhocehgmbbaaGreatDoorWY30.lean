/- No condition. -/
import Derived.Test.YtlnmhocehgmbbaaGreatDoorWY29
set_option linter.all false
set_option maxRecDepth 100000
set_option maxHeartbeats 12800000
namespace Go.Proofs.YtlnmhocehgmbbaaGreatDoor
open Go.RowKit
attribute [local go_sem ↓] eql_lEq eql_sEq eql_eEq eql_oEq neq_lEq neq_sEq neq_eEq neq_oEq
attribute [local go_sem] ExtOf.cell ExtOf.frozen ExtOf.lt ExtOf.le
attribute [local go_sem high] ExtOf.cell2 ExtOf.frozen2 ExtOf.lt2 ExtOf.cell3 ExtOf.frozen3 ExtOf.lt3
theorem rx_asks (x:Ex) (v:Value) (m:Mv) (w:World) (hR:Hrd w x v) (hv:v = .slice none 0 0∨∃ a n c,v = .slice (some a) n c) (hn:x.h.length≤100000) (hb:m.l.k=3→m.l.b=false) :
 Calls Tryz.prog 48 #[.agg (x.arr v),.agg #[.int .i64 m.l.k,.int .i64 m.l.f,.int .u64 m.l.c,.string m.l.t,.bool m.l.b],.bool m.lost] w (AskP w x v (askX x m)):=by
 by_cases h:(m.l.k=4∧m.l.b=false)∨m.l.k=3
 ·unfold askX
  rw [if_pos h]
  have hk:m.l.k=3∨m.l.k=4:=by omega
  have hb2:m.l.b=false:=h.elim (fun h=>h.2) hb
  refine (rx_asks1 x _ v m.l m.lost w hR hv hn hk hb2 rfl).mono ?_
  rintro e w' ⟨v',rfl,ho,hx⟩
  exact ⟨v',rfl,.inl ho,hx⟩
 ·unfold askX
  rw [if_neg h]
  have hone:v.oneCell'=true:=by rcases hv with h|⟨_,_,_,h⟩<;>(rw [h];rfl)
  refine rx_asks0 x v m.l m.lost w hone ?_
  rintro ⟨h1|h1,h2⟩
  ·exact h (.inr h1)
  ·exact h (.inl ⟨h1,h2⟩)
theorem rx_step (x:Ex) (v:Value) (m:Mv) (w:World) (hR:Hrd w x v) (hv:v = .slice none 0 0∨∃ a n c,v = .slice (some a) n c) (hn:x.h.length≤100000) :
 Calls Tryz.prog 25 #[.agg (x.arr v),.agg m.arr] w (Stpd w (stepX x m).1 (stepX x m).2):=by
 obtain ⟨ti0,hi,hz0,hz1,hz2⟩:=info_parts info_letter
 obtain ⟨Y,hY0⟩ : ∃ Y,Y=stepX x m:=⟨_,rfl⟩
 rw [←hY0]
 have HYY:=zd hY0
 clear hY0
 have HR:=zd hR
 have HVV:=zd hv
 obtain ⟨a,cap,rfl,hm,_⟩:=row_view hR
 clear hR hv hm
 go_enter Tryz.func25,Tryz.ntmps25
 go_upto_region 1 with fail
 refine wp_forget (zY w x m a cap) (zd (three_new zR)) ?_
 intro W1 H1
 have q25:W1.cell? ⟨w.heap.size,25,none⟩=some (.slice a x.h.length cap):=zQ H1.out.1 25
 have f25:=zF H1.out.1 25
 have l1:w.heap.size<W1.heap.size:=zL H1.out.1
 go_upto_region 2 with (first|(at_builtin;refine unHd ?_))
 unfold Hd2
 refine wpList_app4 W1.heap.size 31 24 ti0 _ 5 48 zu31 hi hz0 hz1 hz2 rfl (by decide) rfl _ _ rfl _ 0 [] rfl (own_new (Ext.refl W1) rfl (by decide) rfl rfl) (by simp) _ x.h.length (x.h.flatMap Lt.cs) rfl
  ((HR.out.ext H1.out.2.2.2).ext (zR.alloc _)) HVV.out (lt_one x.h) (by unfold maxLen;omega) (by omega) ?_
 intro v' w2 ho2 hb2 hg2
 rw [Nat.zero_add,List.nil_append] at ho2
 replace hg2:(W1.alloc (.cells #[] 24)).grownBy w2 (some W1.heap.size):=hg2
 have blk : ∀ k,k<W1.heap.size→w2.heap[k]?=W1.heap[k]?:=fun k hk=>(hg2.block k (by simp;omega) (by simp;omega)).trans (((Ext.refl W1).alloc (.cells #[] 24)).block k hk)
 have hx2:Ext W1 w2:=⟨hg2.os,hg2.tape,hg2.output,zT (by simp) hg2.size,blk⟩
 obtain ⟨a2,c2,rfl,_,_⟩:=own_view ho2
 have HO2:=zd ho2
 have HX2:=zd hx2
 have hb:=heap_ext H1.out.1 hx2
 have q4:=zQ hb
 have f4:=zF hb
 have l4:w.heap.size<w2.heap.size:=zL hb
 have HB:=zd hb
 clear ho2 hb2 hg2 blk hx2 q25 f25 l1 hb
 unfold Ex.arr at q4
 go_upto_region 2 with fail
 have hlo : ∀ k∈rowB (.slice a2 x.h.length c2),w.heap.size+1+1<k:=fun k hk=>by
  have:=row_loZ HO2.out _ hk
  have:=zL H1.out.2.2.1
  omega
 have hle:w.heap.size+1+1<W1.heap.size:=zL H1.out.2.2.1
 refine wp_forget (fun w'=>Hid (ExAt w' w.heap.size x (.slice a2 x.h.length c2))∧Hid (w'.heap[w.heap.size+1]?=some (.cells m.arr 52 (0,0)))∧Hid (w'.heap[w.heap.size+1+1]?=some (.cells ((zeX []).arr (.slice none 0 0)) 33 (0,0)))∧Hid (Own w' W1.heap.size x.h (.slice a2 x.h.length c2))∧Hid (Ext w w')∧Hid (W1.heap.size≤w'.heap.size)) ⟨zd (setCell_row (o:=25) HB.out (.slice a2 x.h.length c2)),zd ((cell_other (by omega)).trans (heap_ext H1.out.2.1 HX2.out)),zd ((cell_other (by omega)).trans (heap_ext H1.out.2.2.1 HX2.out)),zd (own_at HO2.out fun k hk=>cell_other (show k≠w.heap.size from by have:=hlo k hk;omega)),zd ((H1.out.2.2.2.trans HX2.out).setCell zN _),zd (by simpa [World.setCell] using HX2.out.size)⟩ ?_
 rintro W2 ⟨KX,KM,KR,KO,KE,KW⟩
 clear q4 f4 l4 HB HO2 HX2
 have hm1:=KM.out
 unfold Mv.arr at hm1
 have qm:=zQ hm1
 have lm:w.heap.size+1<W2.heap.size:=zL hm1
 clear hm1
 by_cases hno:m.k<1∨6<m.k∨(m.k≠4∧m.k≠6∧m.who≠0∧m.who≠1)
 case pos=>
  ·
   have hY:=HYY.out
   clear HYY
   have hYE:Y=(x,false):=(by
    rw [hY]
    unfold stepX
    rw [if_neg (by omega),if_neg (by omega)]
    by_cases hw:m.who=0∨m.who=1
    ·rw [if_pos hw,if_neg (by omega),if_neg (by rintro (h|h|⟨h,_⟩)<;>omega)]
    ·rw [if_neg hw])
   subst hYE
   clear hY
   have hK:Hid ((m.k<1)∨(¬m.k<1∧m.k > 6)∨(¬m.k<1∧¬m.k > 6∧(m.k != 4)=true∧(m.k != 6)=true∧(m.who != 0)=true∧(m.who != 1)=true)):=zd (by
    simp only [bne_iff_ne]
    omega)
   clear hno
   rcases hK.out with h1|⟨h1,h2⟩|⟨h1,h2,h3,h4,h5,h6⟩
   all_goals
    go_wp2_with (first|((with_reducible refine wpList_load_rowG ?_ 33 (.tmp 2) ?_ w.heap.size ?_ 33 (Ex.arr x (.slice a2 x.h.length c2)) (0,0) _ ?_ zu33 ?_ ?_ ?_);(·rfl);(·rfl);(·rfl);(·exact KX.out);(·rfl);(·exact info_ex))|(refine wpList_store_row rfl 33 _ _ rfl (w.heap.size+1+1) _ rfl rfl 33 _ KR.out info_ex rfl (arr_one x rfl) ?_))
    refine bodyPost_ret (results_row_tmp rfl _ _ (w.heap.size+1+1) 33 (Ex.arr x (.slice a2 x.h.length c2)) (0,0) _ rfl (setRow_heap _ _ _ _ _ _ KR.out) zu33 rfl info_ex) rfl ?_
    exact ⟨_,rfl,own_base (own_at KO.out fun k hk=>setRow_other _ _ _ _ (by have:=hlo k hk;omega)) (by omega),KE.out.setRow (by omega) _⟩
 by_cases hC:((m.k=2∧(m.who=0∨m.who=1)∧x.bad m.who=false)∨m.k=4)∧canS x m.l=false
 case pos=>
  obtain ⟨hk,hc⟩:=hC
  clear hno
  ·
   have hY:=HYY.out
   clear HYY
   have hYE:Y=(x,false):=(by
    rw [hY]
    unfold stepX
    rcases hk with ⟨h,hw,hb⟩|h
    ·rw [if_neg (by omega),if_neg (by omega),if_pos hw,if_neg (by omega),if_neg (by rintro (h|h|⟨_,h⟩);omega;omega;rw [hc] at h;cases h)]
    ·rw [if_pos h,if_neg (by rw [hc];simp)])
   subst hYE
   clear hY
   have q22:W2.cell? ⟨w.heap.size,22,none⟩=some (.bool x.b0):=zQ KX.out 22
   have q23:W2.cell? ⟨w.heap.size,23,none⟩=some (.bool x.b1):=zQ KX.out 23
   have lx:w.heap.size<W2.heap.size:=zL KX.out
   have hcan:=fun w' (hw:Ext W2 w')=>rx_can x (.slice a2 x.h.length c2) m.l w' (Row.of_own (own_ext KO.out hw))
   rw [hc] at hcan
   have HCan:=zd hcan
   clear hcan hc
   rcases hk with ⟨hk,hw|hw,hb⟩|hk
   case inr=>
    go_wp2_with (first|(go_at_call 46;refine (HCan.out _ zR).mono ?_;rintro en w3 ⟨rfl,hx3⟩;have KX3:=zd (heap_ext KX.out hx3);have KR3:=zd (heap_ext KR.out hx3);have KO3:=zd (own_ext KO.out hx3);have KE3:=zd (KE.out.trans hx3);clear hx3)|((with_reducible refine wpList_load_rowG ?_ 33 (.tmp 2) ?_ w.heap.size ?_ 33 (Ex.arr x (.slice a2 x.h.length c2)) (0,0) _ ?_ zu33 ?_ ?_ ?_);(·rfl);(·rfl);(·rfl);(·exact KX.out);(·rfl);(·exact info_ex))|((with_reducible refine wpList_load_rowG ?_ 33 (.tmp 2) ?_ w.heap.size ?_ 33 (Ex.arr x (.slice a2 x.h.length c2)) (0,0) _ ?_ zu33 ?_ ?_ ?_);(·rfl);(·rfl);(·rfl);(·exact KX3.out);(·rfl);(·exact info_ex))|(refine wpList_store_row rfl 33 _ _ rfl (w.heap.size+1+1) _ rfl rfl 33 _ KR3.out info_ex rfl (arr_one x rfl) ?_))
    refine bodyPost_ret (results_row_tmp rfl _ _ (w.heap.size+1+1) 33 (Ex.arr x (.slice a2 x.h.length c2)) (0,0) _ rfl (setRow_heap _ _ _ _ _ _ KR3.out) zu33 rfl info_ex) rfl ?_
    exact ⟨_,rfl,own_base (own_at KO3.out fun k hk=>setRow_other _ _ _ _ (by have:=hlo k hk;omega)) (by omega),KE3.out.setRow (by omega) _⟩
   all_goals
    rw [hw] at hb
    simp [Ex.bad] at hb
    go_wp2_with (first|(go_at_call 46;refine (HCan.out _ zR).mono ?_;rintro en w3 ⟨rfl,hx3⟩;have KX3:=zd (heap_ext KX.out hx3);have KR3:=zd (heap_ext KR.out hx3);have KO3:=zd (own_ext KO.out hx3);have KE3:=zd (KE.out.trans hx3);clear hx3)|((with_reducible refine wpList_load_rowG ?_ 33 (.tmp 2) ?_ w.heap.size ?_ 33 (Ex.arr x (.slice a2 x.h.length c2)) (0,0) _ ?_ zu33 ?_ ?_ ?_);(·rfl);(·rfl);(·rfl);(·exact KX.out);(·rfl);(·exact info_ex))|((with_reducible refine wpList_load_rowG ?_ 33 (.tmp 2) ?_ w.heap.size ?_ 33 (Ex.arr x (.slice a2 x.h.length c2)) (0,0) _ ?_ zu33 ?_ ?_ ?_);(·rfl);(·rfl);(·rfl);(·exact KX3.out);(·rfl);(·exact info_ex))|(refine wpList_store_row rfl 33 _ _ rfl (w.heap.size+1+1) _ rfl rfl 33 _ KR3.out info_ex rfl (arr_one x rfl) ?_))
    refine bodyPost_ret (results_row_tmp rfl _ _ (w.heap.size+1+1) 33 (Ex.arr x (.slice a2 x.h.length c2)) (0,0) _ rfl (setRow_heap _ _ _ _ _ _ KR3.out) zu33 rfl info_ex) rfl ?_
    exact ⟨_,rfl,own_base (own_at KO3.out fun k hk=>setRow_other _ _ _ _ (by have:=hlo k hk;omega)) (by omega),KE3.out.setRow (by omega) _⟩
 by_cases hB:(m.k=1∨m.k=2∨m.k=3)∧(m.who=0∨m.who=1)∧x.bad m.who=true
 case pos=>
  obtain ⟨hk,hw,hb⟩:=hB
  clear hno hC
  ·
   have hY:=HYY.out
   clear HYY
   have hYE:Y=(x,false):=(by
    rw [hY]
    unfold stepX
    rw [if_neg (by omega),if_neg (by omega),if_pos hw,if_neg (by omega),if_pos hb]
    split<;>rfl)
   subst hYE
   clear hY
   have q22:W2.cell? ⟨w.heap.size,22,none⟩=some (.bool x.b0):=zQ KX.out 22
   have q23:W2.cell? ⟨w.heap.size,23,none⟩=some (.bool x.b1):=zQ KX.out 23
   have lx:w.heap.size<W2.heap.size:=zL KX.out
   rcases hk with hk|hk|hk<;>rcases hw with hw|hw<;>rw [hw] at hb<;>simp only [Ex.bad] at hb
   all_goals
    simp at hb
    go_wp2_with (first|((with_reducible refine wpList_load_rowG ?_ 33 (.tmp 2) ?_ w.heap.size ?_ 33 (Ex.arr x (.slice a2 x.h.length c2)) (0,0) _ ?_ zu33 ?_ ?_ ?_);(·rfl);(·rfl);(·rfl);(·exact KX.out);(·rfl);(·exact info_ex))|(refine wpList_store_row rfl 33 _ _ rfl (w.heap.size+1+1) _ rfl rfl 33 _ KR.out info_ex rfl (arr_one x rfl) ?_))
    refine bodyPost_ret (results_row_tmp rfl _ _ (w.heap.size+1+1) 33 (Ex.arr x (.slice a2 x.h.length c2)) (0,0) _ rfl (setRow_heap _ _ _ _ _ _ KR.out) zu33 rfl info_ex) rfl ?_
    exact ⟨_,rfl,own_base (own_at KO.out fun k hk=>setRow_other _ _ _ _ (by have:=hlo k hk;omega)) (by omega),KE.out.setRow (by omega) _⟩
 by_cases hk:m.k=6
 case pos=>
  clear hno hC hB
  ·
   have hY:=HYY.out
   clear HYY
   have hYE:Y=({ x with full:=true },true):=(by
    rw [hY]
    unfold stepX
    rw [if_neg (by omega),if_pos hk])
   subst hYE
   clear hY
   have HK:=zd hk
   clear hk
   have q24:=zQ KX.out 24
   have f24:=zF KX.out 24
   have hk:=HK.out
   have lx:w.heap.size<W2.heap.size:=zL KX.out
   unfold Ex.arr at q24
   go_upto_region 23 with fail
   refine wp_forget (fun w'=>Hid (ExAt w' w.heap.size ({ x with full:=true } : Ex) (.slice a2 x.h.length c2))∧Hid (w'.heap[w.heap.size+1+1]?=some (.cells ((zeX []).arr (.slice none 0 0)) 33 (0,0)))∧Hid (Own w' W1.heap.size x.h (.slice a2 x.h.length c2))∧Hid (Ext w w')) ⟨zd (setCell_row (o:=24) KX.out (.bool true)),zd ((cell_other (by omega)).trans KR.out),zd (own_at KO.out fun k hk=>cell_other (show k≠w.heap.size from by have:=hlo k hk;omega)),zd (KE.out.setCell zN _)⟩ ?_
   rintro W3 ⟨KX3,KR3,KO3,KE3⟩
   clear q24 f24 lx qm lm
   go_wp2_with (first|((with_reducible refine wpList_load_rowG ?_ 33 (.tmp 2) ?_ w.heap.size ?_ 33 (Ex.arr ({ x with full:=true } : Ex) (.slice a2 x.h.length c2)) (0,0) _ ?_ zu33 ?_ ?_ ?_);(·rfl);(·rfl);(·rfl);(·exact KX3.out);(·rfl);(·exact info_ex))|(refine wpList_store_row rfl 33 _ _ rfl (w.heap.size+1+1) _ rfl rfl 33 _ KR3.out info_ex rfl (arr_one ({ x with full:=true } : Ex) rfl) ?_))
   refine bodyPost_ret (results_row_tmp rfl _ _ (w.heap.size+1+1) 33 (Ex.arr ({ x with full:=true } : Ex) (.slice a2 x.h.length c2)) (0,0) _ rfl (setRow_heap _ _ _ _ _ _ KR3.out) zu33 rfl info_ex) rfl ?_
   exact ⟨_,rfl,own_base (own_at KO3.out fun k hk=>setRow_other _ _ _ _ (by have:=hlo k hk;omega)) (by omega),KE3.out.setRow (by omega) _⟩
 by_cases hk4:m.k=4
 case pos=>
  have hk:=hk4
  have hc:canS x m.l=true:=by
   cases h:canS x m.l
   ·exact absurd ⟨.inr hk4,h⟩ hC
   ·rfl
  clear hno hC hB hk4
  ·
   have hY:=HYY.out
   clear HYY
   have hYE:Y=(askX x m,true):=(by
    rw [hY]
    unfold stepX
    rw [if_pos hk,if_pos hc])
   have HLB:Hid (m.l.k=3→m.l.b=false):=zd (fun h3=>by
    have h0:lchk m.l=0:=by
     unfold canS at hc
     by_cases h:lchk m.l≠0∨m.l.c≠x.c
     ·rw [if_pos h] at hc;cases hc
     ·exact Classical.not_not.1 fun h'=>h (.inl h')
    cases hb:m.l.b
    ·rfl
    ·have:=(lchk_size h0).2.2.2.2 hb
     omega)
   subst hYE
   clear hY
   have HK:=zd hk
   clear hk
   have HCN:=zd hc
   clear hc
   have q00:W2.cell? ⟨w.heap.size,0,none⟩=some (.int .u64 x.c):=zQ KX.out 0
   have lx:w.heap.size<W2.heap.size:=zL KX.out
   have hk:=HK.out
   have hcan:=fun w' (hw:Ext W2 w')=>rx_can x (.slice a2 x.h.length c2) m.l w' (Row.of_own (own_ext KO.out hw))
   rw [HCN.out] at hcan
   have HCan:=zd hcan
   clear hcan
   go_upto_region 10 with (first|((with_reducible refine wpList_load_rowG ?_ 33 (.tmp 2) ?_ w.heap.size ?_ 33 (Ex.arr x (.slice a2 x.h.length c2)) (0,0) _ ?_ zu33 ?_ ?_ ?_);(·rfl);(·rfl);(·rfl);(·exact KX.out);(·rfl);(·exact info_ex))|(go_at_call 46;refine (HCan.out _ zR).mono ?_;rintro en w3 ⟨rfl,hx3⟩;have KX3:=zd (heap_ext KX.out hx3);have KM3:=zd (heap_ext KM.out hx3);have KR3:=zd (heap_ext KR.out hx3);have KO3:=zd (own_ext KO.out hx3);have KE3:=zd (KE.out.trans hx3);have KW3:=zd (zT KW.out hx3.size);clear hx3))
   clear q00 lx qm lm
   have hm1:=KM3.out
   unfold Mv.arr at hm1
   have qm:=zQ hm1
   have lm:w.heap.size+1<w3.heap.size:=zL hm1
   clear hm1
   have HLE:Hid (W1.heap.size≤w3.heap.size):=KW3
   have hcm:=fun w' (hw':Ext w3 w')=>rx_asks x (.slice a2 x.h.length c2) m w' (Row.of_own (own_ext KO3.out hw')) (own_nil_or KO3.out) hn HLB.out
   have HCM:=zd hcm
   clear hcm
   go_wp2_with (first|((with_reducible refine wpList_load_rowG ?_ 33 (.tmp 2) ?_ w.heap.size ?_ 33 (Ex.arr x (.slice a2 x.h.length c2)) (0,0) _ ?_ zu33 ?_ ?_ ?_);(·rfl);(·rfl);(·rfl);(·exact KX3.out);(·rfl);(·exact info_ex))|(go_at_call 48;refine (HCM.out _ zR).mono ?_;rintro en w5 ⟨v5,rfl,ho5',hx5⟩;have ho5:Own w5 W1.heap.size (askX x m).h v5:=ho5'.elim (fun h=>own_base h (HLE.out)) (fun h=>by rw [h.1,h.2];exact own_ext KO3.out hx5);clear ho5';have HO5:=zd ho5;have HX5:=zd hx5;have R5:=zd (heap_ext KR3.out hx5);have HV5:=zd ho5.one;clear ho5 hx5)|(refine wpList_store_row rfl 33 _ _ rfl (w.heap.size+1+1) _ rfl rfl 33 _ R5.out info_ex rfl (arr_one _ HV5.out) ?_))
   refine bodyPost_ret (results_row_tmp rfl _ _ (w.heap.size+1+1) 33 (Ex.arr _ v5) (0,0) _ rfl (setRow_heap _ _ _ _ _ _ R5.out) zu33 rfl info_ex) rfl ?_
   have hle2:w.heap.size+1+1<w3.heap.size:=zL KR3.out
   exact ⟨_,rfl,own_base (own_at HO5.out fun k hk=>setRow_other _ _ _ _ (by have:=row_loZ HO5.out _ hk;omega)) (by omega),(KE3.out.trans HX5.out).setRow (by omega) _⟩
 have hwho:m.who=0∨m.who=1:=by omega
 rcases hwho with hw|hw
 ·by_cases hk5:m.k=5
  case pos=>
   have hk:=hk5
   clear hno hC hB hk4 hk5
   ·
    have hY:=HYY.out
    clear HYY
    have hYE:Y=({ x with b0:=true },true):=(by
     rw [hY]
     unfold stepX
     rw [if_neg (by omega),if_neg (by omega),if_pos (.inl hw),if_pos hk,if_pos hw])
    subst hYE
    clear hY
    have HK:=zd hk
    clear hk
    have HW:=zd hw
    clear hw
    have q22:=zQ KX.out 22
    have f22:=zF KX.out 22
    have hk:=HK.out
    have hw:=HW.out
    have lx:w.heap.size<W2.heap.size:=zL KX.out
    unfold Ex.arr at q22
    go_upto_region 23 with fail
    refine wp_forget (fun w'=>Hid (ExAt w' w.heap.size ({ x with b0:=true } : Ex) (.slice a2 x.h.length c2))∧Hid (w'.heap[w.heap.size+1+1]?=some (.cells ((zeX []).arr (.slice none 0 0)) 33 (0,0)))∧Hid (Own w' W1.heap.size x.h (.slice a2 x.h.length c2))∧Hid (Ext w w')) ⟨zd (setCell_row (o:=22) KX.out (.bool true)),zd ((cell_other (by omega)).trans KR.out),zd (own_at KO.out fun k hk=>cell_other (show k≠w.heap.size from by have:=hlo k hk;omega)),zd (KE.out.setCell zN _)⟩ ?_
    rintro W3 ⟨KX3,KR3,KO3,KE3⟩
    clear q22 f22 lx qm lm
    go_wp2_with (first|((with_reducible refine wpList_load_rowG ?_ 33 (.tmp 2) ?_ w.heap.size ?_ 33 (Ex.arr ({ x with b0:=true } : Ex) (.slice a2 x.h.length c2)) (0,0) _ ?_ zu33 ?_ ?_ ?_);(·rfl);(·rfl);(·rfl);(·exact KX3.out);(·rfl);(·exact info_ex))|(refine wpList_store_row rfl 33 _ _ rfl (w.heap.size+1+1) _ rfl rfl 33 _ KR3.out info_ex rfl (arr_one ({ x with b0:=true } : Ex) rfl) ?_))
    refine bodyPost_ret (results_row_tmp rfl _ _ (w.heap.size+1+1) 33 (Ex.arr ({ x with b0:=true } : Ex) (.slice a2 x.h.length c2)) (0,0) _ rfl (setRow_heap _ _ _ _ _ _ KR3.out) zu33 rfl info_ex) rfl ?_
    exact ⟨_,rfl,own_base (own_at KO3.out fun k hk=>setRow_other _ _ _ _ (by have:=hlo k hk;omega)) (by omega),KE3.out.setRow (by omega) _⟩
  have hk3:m.k=1∨m.k=2∨m.k=3:=by omega
  have hb:x.b0=false:=by
   cases h:x.b0
   ·rfl
   ·exact absurd ⟨hk3,by omega,by rw [hw];simpa [Ex.bad] using h⟩ hB
  have hc:m.k=2→canS x m.l=true:=fun h2=>by
   cases h:canS x m.l
   ·exact absurd ⟨.inl ⟨h2,by omega,by rw [hw];simpa [Ex.bad] using hb⟩,h⟩ hC
   ·rfl
  clear hno hC hB hk4 hk5 hk
  rcases hk3 with hk|hk|hk
  ·clear hc
   ·
    have hY:=HYY.out
    clear HYY
    have hYE:Y=({ x with s0:=(stepS x.s0 ⟨1,x.c,m.t,l0⟩).1,h:=hearsS x.h m.lost ((stepS x.s0 ⟨1,x.c,m.t,l0⟩).2.map (·.l)) },true):=(by
     rw [hY]
     unfold stepX
     rw [if_neg (by omega),if_neg (by omega),if_pos (.inl hw),if_neg (by omega),if_pos (.inl hk),if_neg (by rw [hw];simp [Ex.bad,hb])]
     unfold partyX evX
     simp only [hk,hw]
     rfl)
    subst hYE
    clear hY
    have HK:=zd hk
    have HW:=zd hw
    have HBD:=zd hb
    clear hk hw hb
    have q22:W2.cell? ⟨w.heap.size,22,none⟩=some (.bool false):=by rw [←HBD.out];exact zQ KX.out 22
    have q23:W2.cell? ⟨w.heap.size,23,none⟩=some (.bool x.b1):=zQ KX.out 23
    have q00:W2.cell? ⟨w.heap.size,0,none⟩=some (.int .u64 x.c):=zQ KX.out 0
    have lx:w.heap.size<W2.heap.size:=zL KX.out
    have hk:=HK.out
    have hw:=HW.out
    have hcm:=fun w' (hw':Ext W2 w')=>rx_comes0 x (.slice a2 x.h.length c2) ⟨1,x.c,m.t,l0⟩ m.lost (stepS x.s0 ⟨1,x.c,m.t,l0⟩) w' (Row.of_own (own_ext KO.out hw')) (own_nil_or KO.out) hn (by simpa [stepP] using stepP_len 0 x.s0 ⟨1,x.c,m.t,l0⟩) (fun w''=>rf_step _ _ _ _ _ _ _ _ _ _ _ _ _ _ _ _ _ w'')
    have HCM:=zd hcm
    clear hcm
    go_wp2_with (first|((with_reducible refine wpList_load_rowG ?_ 33 (.tmp 2) ?_ w.heap.size ?_ 33 (Ex.arr x (.slice a2 x.h.length c2)) (0,0) _ ?_ zu33 ?_ ?_ ?_);(·rfl);(·rfl);(·rfl);(·exact KX.out);(·rfl);(·exact info_ex))|(go_at_call 47;refine (HCM.out _ zR).mono ?_;rintro en w5 ⟨v5,rfl,ho5,hx5⟩;have HO5:=zd ho5;have HX5:=zd hx5;have R5:=zd (heap_ext KR.out hx5);have HV5:=zd ho5.one;clear ho5 hx5)|(refine wpList_store_row rfl 33 _ _ rfl (w.heap.size+1+1) _ rfl rfl 33 _ R5.out info_ex rfl (arr_one _ HV5.out) ?_))
    refine bodyPost_ret (results_row_tmp rfl _ _ (w.heap.size+1+1) 33 (Ex.arr _ v5) (0,0) _ rfl (setRow_heap _ _ _ _ _ _ R5.out) zu33 rfl info_ex) rfl ?_
    have hle2:w.heap.size+1+1<W2.heap.size:=zL KR.out
    exact ⟨_,rfl,own_base (own_at HO5.out fun k hk=>setRow_other _ _ _ _ (by have:=row_loZ HO5.out _ hk;omega)) (by omega),(KE.out.trans HX5.out).setRow (by omega) _⟩
  ·replace hc:=hc hk
   ·
    have hY:=HYY.out
    clear HYY
    have hYE:Y=({ x with s0:=(stepS x.s0 ⟨2,0,{ data:=#[] },m.l⟩).1,h:=hearsS x.h m.lost ((stepS x.s0 ⟨2,0,{ data:=#[] },m.l⟩).2.map (·.l)) },true):=(by
     rw [hY]
     unfold stepX
     rw [if_neg (by omega),if_neg (by omega),if_pos (.inl hw),if_neg (by omega),if_pos (.inr (.inr ⟨hk,hc⟩)),if_neg (by rw [hw];simp [Ex.bad,hb])]
     unfold partyX evX
     simp only [hk,hw]
     rfl)
    subst hYE
    clear hY
    have HK:=zd hk
    have HW:=zd hw
    have HBD:=zd hb
    clear hk hw hb
    have HCN:=zd hc
    clear hc
    have q22:W2.cell? ⟨w.heap.size,22,none⟩=some (.bool false):=by rw [←HBD.out];exact zQ KX.out 22
    have q23:W2.cell? ⟨w.heap.size,23,none⟩=some (.bool x.b1):=zQ KX.out 23
    have q00:W2.cell? ⟨w.heap.size,0,none⟩=some (.int .u64 x.c):=zQ KX.out 0
    have lx:w.heap.size<W2.heap.size:=zL KX.out
    have hk:=HK.out
    have hw:=HW.out
    have hcan:=fun w' (hw:Ext W2 w')=>rx_can x (.slice a2 x.h.length c2) m.l w' (Row.of_own (own_ext KO.out hw))
    rw [HCN.out] at hcan
    have HCan:=zd hcan
    clear hcan
    go_upto_region 10 with (first|((with_reducible refine wpList_load_rowG ?_ 33 (.tmp 2) ?_ w.heap.size ?_ 33 (Ex.arr x (.slice a2 x.h.length c2)) (0,0) _ ?_ zu33 ?_ ?_ ?_);(·rfl);(·rfl);(·rfl);(·exact KX.out);(·rfl);(·exact info_ex))|(go_at_call 46;refine (HCan.out _ zR).mono ?_;rintro en w3 ⟨rfl,hx3⟩;have KX3:=zd (heap_ext KX.out hx3);have KM3:=zd (heap_ext KM.out hx3);have KR3:=zd (heap_ext KR.out hx3);have KO3:=zd (own_ext KO.out hx3);have KE3:=zd (KE.out.trans hx3);clear hx3))
    clear q22 q23 q00 lx qm lm
    have hm1:=KM3.out
    unfold Mv.arr at hm1
    have qm:=zQ hm1
    have lm:w.heap.size+1<w3.heap.size:=zL hm1
    clear hm1
    have hcm:=fun w' (hw':Ext w3 w')=>rx_comes0 x (.slice a2 x.h.length c2) ⟨2,0,{ data:=#[] },m.l⟩ m.lost (stepS x.s0 ⟨2,0,{ data:=#[] },m.l⟩) w' (Row.of_own (own_ext KO3.out hw')) (own_nil_or KO3.out) hn (by simpa [stepP] using stepP_len 0 x.s0 ⟨2,0,{ data:=#[] },m.l⟩) (fun w''=>rf_step _ _ _ _ _ _ _ _ _ _ _ _ _ _ _ _ _ w'')
    have HCM:=zd hcm
    clear hcm
    go_wp2_with (first|((with_reducible refine wpList_load_rowG ?_ 33 (.tmp 2) ?_ w.heap.size ?_ 33 (Ex.arr x (.slice a2 x.h.length c2)) (0,0) _ ?_ zu33 ?_ ?_ ?_);(·rfl);(·rfl);(·rfl);(·exact KX3.out);(·rfl);(·exact info_ex))|(go_at_call 47;refine (HCM.out _ zR).mono ?_;rintro en w5 ⟨v5,rfl,ho5,hx5⟩;have HO5:=zd ho5;have HX5:=zd hx5;have R5:=zd (heap_ext KR3.out hx5);have HV5:=zd ho5.one;clear ho5 hx5)|(refine wpList_store_row rfl 33 _ _ rfl (w.heap.size+1+1) _ rfl rfl 33 _ R5.out info_ex rfl (arr_one _ HV5.out) ?_))
    refine bodyPost_ret (results_row_tmp rfl _ _ (w.heap.size+1+1) 33 (Ex.arr _ v5) (0,0) _ rfl (setRow_heap _ _ _ _ _ _ R5.out) zu33 rfl info_ex) rfl ?_
    have hle2:w.heap.size+1+1<w3.heap.size:=zL KR3.out
    exact ⟨_,rfl,own_base (own_at HO5.out fun k hk=>setRow_other _ _ _ _ (by have:=row_loZ HO5.out _ hk;omega)) (by omega),(KE3.out.trans HX5.out).setRow (by omega) _⟩
  ·clear hc
   ·
    have hY:=HYY.out
    clear HYY
    have hYE:Y=({ x with s0:=(stepS x.s0 ⟨3,x.c,{ data:=#[] },l0⟩).1,h:=hearsS x.h m.lost ((stepS x.s0 ⟨3,x.c,{ data:=#[] },l0⟩).2.map (·.l)) },true):=(by
     rw [hY]
     unfold stepX
     rw [if_neg (by omega),if_neg (by omega),if_pos (.inl hw),if_neg (by omega),if_pos (.inr (.inl hk)),if_neg (by rw [hw];simp [Ex.bad,hb])]
     unfold partyX evX
     simp only [hk,hw]
     rfl)
    subst hYE
    clear hY
    have HK:=zd hk
    have HW:=zd hw
    have HBD:=zd hb
    clear hk hw hb
    have q22:W2.cell? ⟨w.heap.size,22,none⟩=some (.bool false):=by rw [←HBD.out];exact zQ KX.out 22
    have q23:W2.cell? ⟨w.heap.size,23,none⟩=some (.bool x.b1):=zQ KX.out 23
    have q00:W2.cell? ⟨w.heap.size,0,none⟩=some (.int .u64 x.c):=zQ KX.out 0
    have lx:w.heap.size<W2.heap.size:=zL KX.out
    have hk:=HK.out
    have hw:=HW.out
    have hcm:=fun w' (hw':Ext W2 w')=>rx_comes0 x (.slice a2 x.h.length c2) ⟨3,x.c,{ data:=#[] },l0⟩ m.lost (stepS x.s0 ⟨3,x.c,{ data:=#[] },l0⟩) w' (Row.of_own (own_ext KO.out hw')) (own_nil_or KO.out) hn (by simpa [stepP] using stepP_len 0 x.s0 ⟨3,x.c,{ data:=#[] },l0⟩) (fun w''=>rf_step _ _ _ _ _ _ _ _ _ _ _ _ _ _ _ _ _ w'')
    have HCM:=zd hcm
    clear hcm
    go_wp2_with (first|((with_reducible refine wpList_load_rowG ?_ 33 (.tmp 2) ?_ w.heap.size ?_ 33 (Ex.arr x (.slice a2 x.h.length c2)) (0,0) _ ?_ zu33 ?_ ?_ ?_);(·rfl);(·rfl);(·rfl);(·exact KX.out);(·rfl);(·exact info_ex))|(go_at_call 47;refine (HCM.out _ zR).mono ?_;rintro en w5 ⟨v5,rfl,ho5,hx5⟩;have HO5:=zd ho5;have HX5:=zd hx5;have R5:=zd (heap_ext KR.out hx5);have HV5:=zd ho5.one;clear ho5 hx5)|(refine wpList_store_row rfl 33 _ _ rfl (w.heap.size+1+1) _ rfl rfl 33 _ R5.out info_ex rfl (arr_one _ HV5.out) ?_))
    refine bodyPost_ret (results_row_tmp rfl _ _ (w.heap.size+1+1) 33 (Ex.arr _ v5) (0,0) _ rfl (setRow_heap _ _ _ _ _ _ R5.out) zu33 rfl info_ex) rfl ?_
    have hle2:w.heap.size+1+1<W2.heap.size:=zL KR.out
    exact ⟨_,rfl,own_base (own_at HO5.out fun k hk=>setRow_other _ _ _ _ (by have:=row_loZ HO5.out _ hk;omega)) (by omega),(KE.out.trans HX5.out).setRow (by omega) _⟩
 ·by_cases hk5:m.k=5
  case pos=>
   have hk:=hk5
   clear hno hC hB hk4 hk5
   ·
    have hY:=HYY.out
    clear HYY
    have hYE:Y=({ x with b1:=true },true):=(by
     rw [hY]
     unfold stepX
     rw [if_neg (by omega),if_neg (by omega),if_pos (.inr hw),if_pos hk,if_neg (by omega)])
    subst hYE
    clear hY
    have HK:=zd hk
    clear hk
    have HW:=zd hw
    clear hw
    have q23:=zQ KX.out 23
    have f23:=zF KX.out 23
    have hk:=HK.out
    have hw:=HW.out
    have lx:w.heap.size<W2.heap.size:=zL KX.out
    unfold Ex.arr at q23
    go_upto_region 23 with fail
    refine wp_forget (fun w'=>Hid (ExAt w' w.heap.size ({ x with b1:=true } : Ex) (.slice a2 x.h.length c2))∧Hid (w'.heap[w.heap.size+1+1]?=some (.cells ((zeX []).arr (.slice none 0 0)) 33 (0,0)))∧Hid (Own w' W1.heap.size x.h (.slice a2 x.h.length c2))∧Hid (Ext w w')) ⟨zd (setCell_row (o:=23) KX.out (.bool true)),zd ((cell_other (by omega)).trans KR.out),zd (own_at KO.out fun k hk=>cell_other (show k≠w.heap.size from by have:=hlo k hk;omega)),zd (KE.out.setCell zN _)⟩ ?_
    rintro W3 ⟨KX3,KR3,KO3,KE3⟩
    clear q23 f23 lx qm lm
    go_wp2_with (first|((with_reducible refine wpList_load_rowG ?_ 33 (.tmp 2) ?_ w.heap.size ?_ 33 (Ex.arr ({ x with b1:=true } : Ex) (.slice a2 x.h.length c2)) (0,0) _ ?_ zu33 ?_ ?_ ?_);(·rfl);(·rfl);(·rfl);(·exact KX3.out);(·rfl);(·exact info_ex))|(refine wpList_store_row rfl 33 _ _ rfl (w.heap.size+1+1) _ rfl rfl 33 _ KR3.out info_ex rfl (arr_one ({ x with b1:=true } : Ex) rfl) ?_))
    refine bodyPost_ret (results_row_tmp rfl _ _ (w.heap.size+1+1) 33 (Ex.arr ({ x with b1:=true } : Ex) (.slice a2 x.h.length c2)) (0,0) _ rfl (setRow_heap _ _ _ _ _ _ KR3.out) zu33 rfl info_ex) rfl ?_
    exact ⟨_,rfl,own_base (own_at KO3.out fun k hk=>setRow_other _ _ _ _ (by have:=hlo k hk;omega)) (by omega),KE3.out.setRow (by omega) _⟩
  have hk3:m.k=1∨m.k=2∨m.k=3:=by omega
  have hb:x.b1=false:=by
   cases h:x.b1
   ·rfl
   ·exact absurd ⟨hk3,by omega,by rw [hw];simpa [Ex.bad] using h⟩ hB
  have hc:m.k=2→canS x m.l=true:=fun h2=>by
   cases h:canS x m.l
   ·exact absurd ⟨.inl ⟨h2,by omega,by rw [hw];simpa [Ex.bad] using hb⟩,h⟩ hC
   ·rfl
  clear hno hC hB hk4 hk5 hk
  rcases hk3 with hk|hk|hk
  ·clear hc
   ·
    have hY:=HYY.out
    clear HYY
    have hYE:Y=({ x with s1:=(stepA x.s1 ⟨1,x.c,m.t,l0⟩).1,h:=hearsS x.h m.lost ((stepA x.s1 ⟨1,x.c,m.t,l0⟩).2.map (·.l)) },true):=(by
     rw [hY]
     unfold stepX
     rw [if_neg (by omega),if_neg (by omega),if_pos (.inr hw),if_neg (by omega),if_pos (.inl hk),if_neg (by rw [hw];simp [Ex.bad,hb])]
     unfold partyX evX
     simp only [hk,hw]
     rfl)
    subst hYE
    clear hY
    have HK:=zd hk
    have HW:=zd hw
    have HBD:=zd hb
    clear hk hw hb
    have q22:W2.cell? ⟨w.heap.size,22,none⟩=some (.bool x.b0):=zQ KX.out 22
    have q23:W2.cell? ⟨w.heap.size,23,none⟩=some (.bool false):=by rw [←HBD.out];exact zQ KX.out 23
    have q00:W2.cell? ⟨w.heap.size,0,none⟩=some (.int .u64 x.c):=zQ KX.out 0
    have lx:w.heap.size<W2.heap.size:=zL KX.out
    have hk:=HK.out
    have hw:=HW.out
    have hcm:=fun w' (hw':Ext W2 w')=>rx_comes1 x (.slice a2 x.h.length c2) ⟨1,x.c,m.t,l0⟩ m.lost (stepA x.s1 ⟨1,x.c,m.t,l0⟩) w' (Row.of_own (own_ext KO.out hw')) (own_nil_or KO.out) hn (by simpa [stepP] using stepP_len 1 x.s1 ⟨1,x.c,m.t,l0⟩) (fun w''=>rb_step _ _ _ _ _ _ _ _ _ _ _ _ _ _ _ _ _ w'')
    have HCM:=zd hcm
    clear hcm
    go_wp2_with (first|((with_reducible refine wpList_load_rowG ?_ 33 (.tmp 2) ?_ w.heap.size ?_ 33 (Ex.arr x (.slice a2 x.h.length c2)) (0,0) _ ?_ zu33 ?_ ?_ ?_);(·rfl);(·rfl);(·rfl);(·exact KX.out);(·rfl);(·exact info_ex))|(go_at_call 47;refine (HCM.out _ zR).mono ?_;rintro en w5 ⟨v5,rfl,ho5,hx5⟩;have HO5:=zd ho5;have HX5:=zd hx5;have R5:=zd (heap_ext KR.out hx5);have HV5:=zd ho5.one;clear ho5 hx5)|(refine wpList_store_row rfl 33 _ _ rfl (w.heap.size+1+1) _ rfl rfl 33 _ R5.out info_ex rfl (arr_one _ HV5.out) ?_))
    refine bodyPost_ret (results_row_tmp rfl _ _ (w.heap.size+1+1) 33 (Ex.arr _ v5) (0,0) _ rfl (setRow_heap _ _ _ _ _ _ R5.out) zu33 rfl info_ex) rfl ?_
    have hle2:w.heap.size+1+1<W2.heap.size:=zL KR.out
    exact ⟨_,rfl,own_base (own_at HO5.out fun k hk=>setRow_other _ _ _ _ (by have:=row_loZ HO5.out _ hk;omega)) (by omega),(KE.out.trans HX5.out).setRow (by omega) _⟩
  ·replace hc:=hc hk
   ·
    have hY:=HYY.out
    clear HYY
    have hYE:Y=({ x with s1:=(stepA x.s1 ⟨2,0,{ data:=#[] },m.l⟩).1,h:=hearsS x.h m.lost ((stepA x.s1 ⟨2,0,{ data:=#[] },m.l⟩).2.map (·.l)) },true):=(by
     rw [hY]
     unfold stepX
     rw [if_neg (by omega),if_neg (by omega),if_pos (.inr hw),if_neg (by omega),if_pos (.inr (.inr ⟨hk,hc⟩)),if_neg (by rw [hw];simp [Ex.bad,hb])]
     unfold partyX evX
     simp only [hk,hw]
     rfl)
    subst hYE
    clear hY
    have HK:=zd hk
    have HW:=zd hw
    have HBD:=zd hb
    clear hk hw hb
    have HCN:=zd hc
    clear hc
    have q22:W2.cell? ⟨w.heap.size,22,none⟩=some (.bool x.b0):=zQ KX.out 22
    have q23:W2.cell? ⟨w.heap.size,23,none⟩=some (.bool false):=by rw [←HBD.out];exact zQ KX.out 23
    have q00:W2.cell? ⟨w.heap.size,0,none⟩=some (.int .u64 x.c):=zQ KX.out 0
    have lx:w.heap.size<W2.heap.size:=zL KX.out
    have hk:=HK.out
    have hw:=HW.out
    have hcan:=fun w' (hw:Ext W2 w')=>rx_can x (.slice a2 x.h.length c2) m.l w' (Row.of_own (own_ext KO.out hw))
    rw [HCN.out] at hcan
    have HCan:=zd hcan
    clear hcan
    go_upto_region 10 with (first|((with_reducible refine wpList_load_rowG ?_ 33 (.tmp 2) ?_ w.heap.size ?_ 33 (Ex.arr x (.slice a2 x.h.length c2)) (0,0) _ ?_ zu33 ?_ ?_ ?_);(·rfl);(·rfl);(·rfl);(·exact KX.out);(·rfl);(·exact info_ex))|(go_at_call 46;refine (HCan.out _ zR).mono ?_;rintro en w3 ⟨rfl,hx3⟩;have KX3:=zd (heap_ext KX.out hx3);have KM3:=zd (heap_ext KM.out hx3);have KR3:=zd (heap_ext KR.out hx3);have KO3:=zd (own_ext KO.out hx3);have KE3:=zd (KE.out.trans hx3);clear hx3))
    clear q22 q23 q00 lx qm lm
    have hm1:=KM3.out
    unfold Mv.arr at hm1
    have qm:=zQ hm1
    have lm:w.heap.size+1<w3.heap.size:=zL hm1
    clear hm1
    have hcm:=fun w' (hw':Ext w3 w')=>rx_comes1 x (.slice a2 x.h.length c2) ⟨2,0,{ data:=#[] },m.l⟩ m.lost (stepA x.s1 ⟨2,0,{ data:=#[] },m.l⟩) w' (Row.of_own (own_ext KO3.out hw')) (own_nil_or KO3.out) hn (by simpa [stepP] using stepP_len 1 x.s1 ⟨2,0,{ data:=#[] },m.l⟩) (fun w''=>rb_step _ _ _ _ _ _ _ _ _ _ _ _ _ _ _ _ _ w'')
    have HCM:=zd hcm
    clear hcm
    go_wp2_with (first|((with_reducible refine wpList_load_rowG ?_ 33 (.tmp 2) ?_ w.heap.size ?_ 33 (Ex.arr x (.slice a2 x.h.length c2)) (0,0) _ ?_ zu33 ?_ ?_ ?_);(·rfl);(·rfl);(·rfl);(·exact KX3.out);(·rfl);(·exact info_ex))|(go_at_call 47;refine (HCM.out _ zR).mono ?_;rintro en w5 ⟨v5,rfl,ho5,hx5⟩;have HO5:=zd ho5;have HX5:=zd hx5;have R5:=zd (heap_ext KR3.out hx5);have HV5:=zd ho5.one;clear ho5 hx5)|(refine wpList_store_row rfl 33 _ _ rfl (w.heap.size+1+1) _ rfl rfl 33 _ R5.out info_ex rfl (arr_one _ HV5.out) ?_))
    refine bodyPost_ret (results_row_tmp rfl _ _ (w.heap.size+1+1) 33 (Ex.arr _ v5) (0,0) _ rfl (setRow_heap _ _ _ _ _ _ R5.out) zu33 rfl info_ex) rfl ?_
    have hle2:w.heap.size+1+1<w3.heap.size:=zL KR3.out
    exact ⟨_,rfl,own_base (own_at HO5.out fun k hk=>setRow_other _ _ _ _ (by have:=row_loZ HO5.out _ hk;omega)) (by omega),(KE3.out.trans HX5.out).setRow (by omega) _⟩
  ·clear hc
   ·
    have hY:=HYY.out
    clear HYY
    have hYE:Y=({ x with s1:=(stepA x.s1 ⟨3,x.c,{ data:=#[] },l0⟩).1,h:=hearsS x.h m.lost ((stepA x.s1 ⟨3,x.c,{ data:=#[] },l0⟩).2.map (·.l)) },true):=(by
     rw [hY]
     unfold stepX
     rw [if_neg (by omega),if_neg (by omega),if_pos (.inr hw),if_neg (by omega),if_pos (.inr (.inl hk)),if_neg (by rw [hw];simp [Ex.bad,hb])]
     unfold partyX evX
     simp only [hk,hw]
     rfl)
    subst hYE
    clear hY
    have HK:=zd hk
    have HW:=zd hw
    have HBD:=zd hb
    clear hk hw hb
    have q22:W2.cell? ⟨w.heap.size,22,none⟩=some (.bool x.b0):=zQ KX.out 22
    have q23:W2.cell? ⟨w.heap.size,23,none⟩=some (.bool false):=by rw [←HBD.out];exact zQ KX.out 23
    have q00:W2.cell? ⟨w.heap.size,0,none⟩=some (.int .u64 x.c):=zQ KX.out 0
    have lx:w.heap.size<W2.heap.size:=zL KX.out
    have hk:=HK.out
    have hw:=HW.out
    have hcm:=fun w' (hw':Ext W2 w')=>rx_comes1 x (.slice a2 x.h.length c2) ⟨3,x.c,{ data:=#[] },l0⟩ m.lost (stepA x.s1 ⟨3,x.c,{ data:=#[] },l0⟩) w' (Row.of_own (own_ext KO.out hw')) (own_nil_or KO.out) hn (by simpa [stepP] using stepP_len 1 x.s1 ⟨3,x.c,{ data:=#[] },l0⟩) (fun w''=>rb_step _ _ _ _ _ _ _ _ _ _ _ _ _ _ _ _ _ w'')
    have HCM:=zd hcm
    clear hcm
    go_wp2_with (first|((with_reducible refine wpList_load_rowG ?_ 33 (.tmp 2) ?_ w.heap.size ?_ 33 (Ex.arr x (.slice a2 x.h.length c2)) (0,0) _ ?_ zu33 ?_ ?_ ?_);(·rfl);(·rfl);(·rfl);(·exact KX.out);(·rfl);(·exact info_ex))|(go_at_call 47;refine (HCM.out _ zR).mono ?_;rintro en w5 ⟨v5,rfl,ho5,hx5⟩;have HO5:=zd ho5;have HX5:=zd hx5;have R5:=zd (heap_ext KR.out hx5);have HV5:=zd ho5.one;clear ho5 hx5)|(refine wpList_store_row rfl 33 _ _ rfl (w.heap.size+1+1) _ rfl rfl 33 _ R5.out info_ex rfl (arr_one _ HV5.out) ?_))
    refine bodyPost_ret (results_row_tmp rfl _ _ (w.heap.size+1+1) 33 (Ex.arr _ v5) (0,0) _ rfl (setRow_heap _ _ _ _ _ _ R5.out) zu33 rfl info_ex) rfl ?_
    have hle2:w.heap.size+1+1<W2.heap.size:=zL KR.out
    exact ⟨_,rfl,own_base (own_at HO5.out fun k hk=>setRow_other _ _ _ _ (by have:=row_loZ HO5.out _ hk;omega)) (by omega),(KE.out.trans HX5.out).setRow (by omega) _⟩
end Go.Proofs.YtlnmhocehgmbbaaGreatDoor

/- No condition. -/
import Derived.Test.YtlnmhocehgmbbaaGreatDoorSL28
set_option linter.all false
set_option maxRecDepth 100000
set_option maxHeartbeats 6400000
namespace Go.Proofs.YtlnmhocehgmbbaaGreatDoor
open Go.RowKit
attribute [local go_sem ↓] eql_lEq eql_sEq eql_eEq eql_oEq neq_lEq neq_sEq neq_eEq neq_oEq
attribute [local go_sem] ExtOf.cell ExtOf.frozen ExtOf.lt ExtOf.le
attribute [local go_sem high] ExtOf.cell2 ExtOf.frozen2 ExtOf.lt2 ExtOf.cell3 ExtOf.frozen3 ExtOf.lt3
theorem rx_step1_0 (x:Ex) (v:Value) (m:Mv) (w:World) (hR:Hrd w x v) (hv:v = .slice none 0 0∨∃ a n c,v = .slice (some a) n c) (hn:x.h.length≤100000)
 (hk:m.k=1) (hw:m.who=0) (hb:x.b0=false) :
 Calls Tryz.prog 25 #[.agg (x.arr v),.agg #[.int .i64 m.k,.int .i64 m.who,.string m.t,.int .i64 m.l.k,.int .i64 m.l.f,.int .u64 m.l.c,.string m.l.t,.bool m.l.b,.bool m.lost]] w (Stpd w (stepX x m).1 (stepX x m).2):=by
 obtain ⟨ti0,hi,hz0,hz1,hz2⟩:=info_parts info_letter
 have HYE:Hid (stepX x m=({ x with s0:=(stepS x.s0 ⟨1,x.c,m.t,l0⟩).1,h:=hearsS x.h m.lost ((stepS x.s0 ⟨1,x.c,m.t,l0⟩).2.map (·.l)) },true)):=zd (by
  unfold stepX
  rw [if_neg (by omega),if_neg (by omega),if_pos (.inl hw),if_neg (by omega),if_pos (.inl hk),if_neg (by rw [hw];simp [Ex.bad,hb])]
  unfold partyX evX
  simp only [hk,hw]
  rfl)
 have HR:=zd hR
 have HVV:=zd hv
 obtain ⟨a,cap,rfl,hm,_⟩:=row_view hR
 clear hR hv hm
 have HK:=zd hk
 have HW:=zd hw
 have HBD:=zd hb
 clear hk hw hb
 go_enter Tryz.func25,Tryz.ntmps25
 go_upto_region 1 with fail
 refine wp_forget (zY w x m a cap) (zd (three_new zR)) ?_
 intro W1 H1
 have q25:W1.cell? ⟨w.heap.size,25,none⟩=some (.slice a x.h.length cap):=zQ H1.out.1 25
 have f25:=zF H1.out.1 25
 have l1:w.heap.size<W1.heap.size:=zL H1.out.1
 go_upto_region 2 with (first|(at_builtin;refine unHd ?_))
 unfold Hd2
 refine wpList_app4 W1.heap.size 31 24 ti0 _ 5 48 zu31 hi hz0 hz1 hz2 rfl (by decide) rfl _ _ rfl _ 0 [] rfl (own_new (Ext.refl W1) rfl (by decide) rfl rfl) (by simp) _ x.h.length (x.h.flatMap Lt.cs) rfl
  ((HR.out.ext H1.out.2.2.2).ext (zR.alloc _)) HVV.out (lt_one x.h) (by unfold maxLen;omega) (by omega) ?_
 intro v' w2 ho2 hb2 hg2
 rw [Nat.zero_add,List.nil_append] at ho2
 replace hg2:(W1.alloc (.cells #[] 24)).grownBy w2 (some W1.heap.size):=hg2
 have blk : ∀ k,k<W1.heap.size→w2.heap[k]?=W1.heap[k]?:=fun k hk=>(hg2.block k (by simp;omega) (by simp;omega)).trans (((Ext.refl W1).alloc (.cells #[] 24)).block k hk)
 have hx2:Ext W1 w2:=⟨hg2.os,hg2.tape,hg2.output,zT (by simp) hg2.size,blk⟩
 obtain ⟨a2,c2,rfl,_,_⟩:=own_view ho2
 have HO2:=zd ho2
 have HX2:=zd hx2
 have hb:=heap_ext H1.out.1 hx2
 have q4:=zQ hb
 have f4:=zF hb
 have l4:w.heap.size<w2.heap.size:=zL hb
 have HB:=zd hb
 clear ho2 hb2 hg2 blk hx2 q25 f25 l1 hb
 unfold Ex.arr at q4
 go_upto_region 2 with fail
 have hlo : ∀ k∈rowB (.slice a2 x.h.length c2),w.heap.size+1+1<k:=fun k hk=>by
  have:=row_loZ HO2.out _ hk
  have:=zL H1.out.2.2.1
  omega
 have hle:w.heap.size+1+1<W1.heap.size:=zL H1.out.2.2.1
 refine wp_forget (zX w x m W1 a2 c2) ⟨zd (setCell_row (o:=25) HB.out (.slice a2 x.h.length c2)),zd ((cell_other (by omega)).trans (heap_ext H1.out.2.1 HX2.out)),zd ((cell_other (by omega)).trans (heap_ext H1.out.2.2.1 HX2.out)),zd (own_at HO2.out fun k hk=>cell_other (show k≠w.heap.size from by have:=hlo k hk;omega)),zd ((H1.out.2.2.2.trans HX2.out).setCell zN _)⟩ ?_
 rintro W2 ⟨KX,KM,KR,KO,KE⟩
 clear q4 f4 l4 HB HO2 HX2
 have hm1:=KM.out
 unfold Mv.arr at hm1
 have qm:=zQ hm1
 have lm:w.heap.size+1<W2.heap.size:=zL hm1
 clear hm1
 have q22:W2.cell? ⟨w.heap.size,22,none⟩=some (.bool false):=by rw [←HBD.out];exact zQ KX.out 22
 have q23:W2.cell? ⟨w.heap.size,23,none⟩=some (.bool x.b1):=zQ KX.out 23
 have q00:W2.cell? ⟨w.heap.size,0,none⟩=some (.int .u64 x.c):=zQ KX.out 0
 have lx:w.heap.size<W2.heap.size:=zL KX.out
 have hk:=HK.out
 have hw:=HW.out
 have hcm:=fun w' (hw':Ext W2 w')=>rx_comes0 x (.slice a2 x.h.length c2) ⟨1,x.c,m.t,l0⟩ m.lost (stepS x.s0 ⟨1,x.c,m.t,l0⟩) w' (Row.of_own (own_ext KO.out hw')) (own_nil_or KO.out) hn (by simpa [stepP] using stepP_len 0 x.s0 ⟨1,x.c,m.t,l0⟩) (fun w''=>rf_step _ _ _ _ _ _ _ _ _ _ _ _ _ _ _ _ _ w'')
 have HCM:=zd hcm
 clear hcm
 go_wp2_with (first|((with_reducible refine wpList_load_rowG ?_ 33 (.tmp 2) ?_ w.heap.size ?_ 33 (Ex.arr x (.slice a2 x.h.length c2)) (0,0) _ ?_ zu33 ?_ ?_ ?_);(·rfl);(·rfl);(·rfl);(·exact KX.out);(·rfl);(·exact info_ex))|(go_at_call 47;refine (HCM.out _ zR).mono ?_;rintro en w5 ⟨v5,rfl,ho5,hx5⟩;have HO5:=zd ho5;have HX5:=zd hx5;have R5:=zd (heap_ext KR.out hx5);have HV5:=zd ho5.one;clear ho5 hx5)|(refine wpList_store_row rfl 33 _ _ rfl (w.heap.size+1+1) _ rfl rfl 33 _ R5.out info_ex rfl (arr_one _ HV5.out) ?_))
 refine bodyPost_ret (results_row_tmp rfl _ _ (w.heap.size+1+1) 33 (Ex.arr _ v5) (0,0) _ rfl (setRow_heap _ _ _ _ _ _ R5.out) zu33 rfl info_ex) rfl ?_
 have he:=HYE.out
 rw [he]
 have hle2:w.heap.size+1+1<W2.heap.size:=zL KR.out
 exact ⟨_,rfl,own_base (own_at HO5.out fun k hk=>setRow_other _ _ _ _ (by have:=row_loZ HO5.out _ hk;omega)) (by omega),(KE.out.trans HX5.out).setRow (by omega) _⟩
theorem rx_step1_1 (x:Ex) (v:Value) (m:Mv) (w:World) (hR:Hrd w x v) (hv:v = .slice none 0 0∨∃ a n c,v = .slice (some a) n c) (hn:x.h.length≤100000)
 (hk:m.k=1) (hw:m.who=1) (hb:x.b1=false) :
 Calls Tryz.prog 25 #[.agg (x.arr v),.agg #[.int .i64 m.k,.int .i64 m.who,.string m.t,.int .i64 m.l.k,.int .i64 m.l.f,.int .u64 m.l.c,.string m.l.t,.bool m.l.b,.bool m.lost]] w (Stpd w (stepX x m).1 (stepX x m).2):=by
 obtain ⟨ti0,hi,hz0,hz1,hz2⟩:=info_parts info_letter
 have HYE:Hid (stepX x m=({ x with s1:=(stepA x.s1 ⟨1,x.c,m.t,l0⟩).1,h:=hearsS x.h m.lost ((stepA x.s1 ⟨1,x.c,m.t,l0⟩).2.map (·.l)) },true)):=zd (by
  unfold stepX
  rw [if_neg (by omega),if_neg (by omega),if_pos (.inr hw),if_neg (by omega),if_pos (.inl hk),if_neg (by rw [hw];simp [Ex.bad,hb])]
  unfold partyX evX
  simp only [hk,hw]
  rfl)
 have HR:=zd hR
 have HVV:=zd hv
 obtain ⟨a,cap,rfl,hm,_⟩:=row_view hR
 clear hR hv hm
 have HK:=zd hk
 have HW:=zd hw
 have HBD:=zd hb
 clear hk hw hb
 go_enter Tryz.func25,Tryz.ntmps25
 go_upto_region 1 with fail
 refine wp_forget (zY w x m a cap) (zd (three_new zR)) ?_
 intro W1 H1
 have q25:W1.cell? ⟨w.heap.size,25,none⟩=some (.slice a x.h.length cap):=zQ H1.out.1 25
 have f25:=zF H1.out.1 25
 have l1:w.heap.size<W1.heap.size:=zL H1.out.1
 go_upto_region 2 with (first|(at_builtin;refine unHd ?_))
 unfold Hd2
 refine wpList_app4 W1.heap.size 31 24 ti0 _ 5 48 zu31 hi hz0 hz1 hz2 rfl (by decide) rfl _ _ rfl _ 0 [] rfl (own_new (Ext.refl W1) rfl (by decide) rfl rfl) (by simp) _ x.h.length (x.h.flatMap Lt.cs) rfl
  ((HR.out.ext H1.out.2.2.2).ext (zR.alloc _)) HVV.out (lt_one x.h) (by unfold maxLen;omega) (by omega) ?_
 intro v' w2 ho2 hb2 hg2
 rw [Nat.zero_add,List.nil_append] at ho2
 replace hg2:(W1.alloc (.cells #[] 24)).grownBy w2 (some W1.heap.size):=hg2
 have blk : ∀ k,k<W1.heap.size→w2.heap[k]?=W1.heap[k]?:=fun k hk=>(hg2.block k (by simp;omega) (by simp;omega)).trans (((Ext.refl W1).alloc (.cells #[] 24)).block k hk)
 have hx2:Ext W1 w2:=⟨hg2.os,hg2.tape,hg2.output,zT (by simp) hg2.size,blk⟩
 obtain ⟨a2,c2,rfl,_,_⟩:=own_view ho2
 have HO2:=zd ho2
 have HX2:=zd hx2
 have hb:=heap_ext H1.out.1 hx2
 have q4:=zQ hb
 have f4:=zF hb
 have l4:w.heap.size<w2.heap.size:=zL hb
 have HB:=zd hb
 clear ho2 hb2 hg2 blk hx2 q25 f25 l1 hb
 unfold Ex.arr at q4
 go_upto_region 2 with fail
 have hlo : ∀ k∈rowB (.slice a2 x.h.length c2),w.heap.size+1+1<k:=fun k hk=>by
  have:=row_loZ HO2.out _ hk
  have:=zL H1.out.2.2.1
  omega
 have hle:w.heap.size+1+1<W1.heap.size:=zL H1.out.2.2.1
 refine wp_forget (zX w x m W1 a2 c2) ⟨zd (setCell_row (o:=25) HB.out (.slice a2 x.h.length c2)),zd ((cell_other (by omega)).trans (heap_ext H1.out.2.1 HX2.out)),zd ((cell_other (by omega)).trans (heap_ext H1.out.2.2.1 HX2.out)),zd (own_at HO2.out fun k hk=>cell_other (show k≠w.heap.size from by have:=hlo k hk;omega)),zd ((H1.out.2.2.2.trans HX2.out).setCell zN _)⟩ ?_
 rintro W2 ⟨KX,KM,KR,KO,KE⟩
 clear q4 f4 l4 HB HO2 HX2
 have hm1:=KM.out
 unfold Mv.arr at hm1
 have qm:=zQ hm1
 have lm:w.heap.size+1<W2.heap.size:=zL hm1
 clear hm1
 have q22:W2.cell? ⟨w.heap.size,22,none⟩=some (.bool x.b0):=zQ KX.out 22
 have q23:W2.cell? ⟨w.heap.size,23,none⟩=some (.bool false):=by rw [←HBD.out];exact zQ KX.out 23
 have q00:W2.cell? ⟨w.heap.size,0,none⟩=some (.int .u64 x.c):=zQ KX.out 0
 have lx:w.heap.size<W2.heap.size:=zL KX.out
 have hk:=HK.out
 have hw:=HW.out
 have hcm:=fun w' (hw':Ext W2 w')=>rx_comes1 x (.slice a2 x.h.length c2) ⟨1,x.c,m.t,l0⟩ m.lost (stepA x.s1 ⟨1,x.c,m.t,l0⟩) w' (Row.of_own (own_ext KO.out hw')) (own_nil_or KO.out) hn (by simpa [stepP] using stepP_len 1 x.s1 ⟨1,x.c,m.t,l0⟩) (fun w''=>rb_step _ _ _ _ _ _ _ _ _ _ _ _ _ _ _ _ _ w'')
 have HCM:=zd hcm
 clear hcm
 go_wp2_with (first|((with_reducible refine wpList_load_rowG ?_ 33 (.tmp 2) ?_ w.heap.size ?_ 33 (Ex.arr x (.slice a2 x.h.length c2)) (0,0) _ ?_ zu33 ?_ ?_ ?_);(·rfl);(·rfl);(·rfl);(·exact KX.out);(·rfl);(·exact info_ex))|(go_at_call 47;refine (HCM.out _ zR).mono ?_;rintro en w5 ⟨v5,rfl,ho5,hx5⟩;have HO5:=zd ho5;have HX5:=zd hx5;have R5:=zd (heap_ext KR.out hx5);have HV5:=zd ho5.one;clear ho5 hx5)|(refine wpList_store_row rfl 33 _ _ rfl (w.heap.size+1+1) _ rfl rfl 33 _ R5.out info_ex rfl (arr_one _ HV5.out) ?_))
 refine bodyPost_ret (results_row_tmp rfl _ _ (w.heap.size+1+1) 33 (Ex.arr _ v5) (0,0) _ rfl (setRow_heap _ _ _ _ _ _ R5.out) zu33 rfl info_ex) rfl ?_
 have he:=HYE.out
 rw [he]
 have hle2:w.heap.size+1+1<W2.heap.size:=zL KR.out
 exact ⟨_,rfl,own_base (own_at HO5.out fun k hk=>setRow_other _ _ _ _ (by have:=row_loZ HO5.out _ hk;omega)) (by omega),(KE.out.trans HX5.out).setRow (by omega) _⟩
theorem rx_step3_0 (x:Ex) (v:Value) (m:Mv) (w:World) (hR:Hrd w x v) (hv:v = .slice none 0 0∨∃ a n c,v = .slice (some a) n c) (hn:x.h.length≤100000)
 (hk:m.k=3) (hw:m.who=0) (hb:x.b0=false) :
 Calls Tryz.prog 25 #[.agg (x.arr v),.agg #[.int .i64 m.k,.int .i64 m.who,.string m.t,.int .i64 m.l.k,.int .i64 m.l.f,.int .u64 m.l.c,.string m.l.t,.bool m.l.b,.bool m.lost]] w (Stpd w (stepX x m).1 (stepX x m).2):=by
 obtain ⟨ti0,hi,hz0,hz1,hz2⟩:=info_parts info_letter
 have HYE:Hid (stepX x m=({ x with s0:=(stepS x.s0 ⟨3,x.c,{ data:=#[] },l0⟩).1,h:=hearsS x.h m.lost ((stepS x.s0 ⟨3,x.c,{ data:=#[] },l0⟩).2.map (·.l)) },true)):=zd (by
  unfold stepX
  rw [if_neg (by omega),if_neg (by omega),if_pos (.inl hw),if_neg (by omega),if_pos (.inr (.inl hk)),if_neg (by rw [hw];simp [Ex.bad,hb])]
  unfold partyX evX
  simp only [hk,hw]
  rfl)
 have HR:=zd hR
 have HVV:=zd hv
 obtain ⟨a,cap,rfl,hm,_⟩:=row_view hR
 clear hR hv hm
 have HK:=zd hk
 have HW:=zd hw
 have HBD:=zd hb
 clear hk hw hb
 go_enter Tryz.func25,Tryz.ntmps25
 go_upto_region 1 with fail
 refine wp_forget (zY w x m a cap) (zd (three_new zR)) ?_
 intro W1 H1
 have q25:W1.cell? ⟨w.heap.size,25,none⟩=some (.slice a x.h.length cap):=zQ H1.out.1 25
 have f25:=zF H1.out.1 25
 have l1:w.heap.size<W1.heap.size:=zL H1.out.1
 go_upto_region 2 with (first|(at_builtin;refine unHd ?_))
 unfold Hd2
 refine wpList_app4 W1.heap.size 31 24 ti0 _ 5 48 zu31 hi hz0 hz1 hz2 rfl (by decide) rfl _ _ rfl _ 0 [] rfl (own_new (Ext.refl W1) rfl (by decide) rfl rfl) (by simp) _ x.h.length (x.h.flatMap Lt.cs) rfl
  ((HR.out.ext H1.out.2.2.2).ext (zR.alloc _)) HVV.out (lt_one x.h) (by unfold maxLen;omega) (by omega) ?_
 intro v' w2 ho2 hb2 hg2
 rw [Nat.zero_add,List.nil_append] at ho2
 replace hg2:(W1.alloc (.cells #[] 24)).grownBy w2 (some W1.heap.size):=hg2
 have blk : ∀ k,k<W1.heap.size→w2.heap[k]?=W1.heap[k]?:=fun k hk=>(hg2.block k (by simp;omega) (by simp;omega)).trans (((Ext.refl W1).alloc (.cells #[] 24)).block k hk)
 have hx2:Ext W1 w2:=⟨hg2.os,hg2.tape,hg2.output,zT (by simp) hg2.size,blk⟩
 obtain ⟨a2,c2,rfl,_,_⟩:=own_view ho2
 have HO2:=zd ho2
 have HX2:=zd hx2
 have hb:=heap_ext H1.out.1 hx2
 have q4:=zQ hb
 have f4:=zF hb
 have l4:w.heap.size<w2.heap.size:=zL hb
 have HB:=zd hb
 clear ho2 hb2 hg2 blk hx2 q25 f25 l1 hb
 unfold Ex.arr at q4
 go_upto_region 2 with fail
 have hlo : ∀ k∈rowB (.slice a2 x.h.length c2),w.heap.size+1+1<k:=fun k hk=>by
  have:=row_loZ HO2.out _ hk
  have:=zL H1.out.2.2.1
  omega
 have hle:w.heap.size+1+1<W1.heap.size:=zL H1.out.2.2.1
 refine wp_forget (zX w x m W1 a2 c2) ⟨zd (setCell_row (o:=25) HB.out (.slice a2 x.h.length c2)),zd ((cell_other (by omega)).trans (heap_ext H1.out.2.1 HX2.out)),zd ((cell_other (by omega)).trans (heap_ext H1.out.2.2.1 HX2.out)),zd (own_at HO2.out fun k hk=>cell_other (show k≠w.heap.size from by have:=hlo k hk;omega)),zd ((H1.out.2.2.2.trans HX2.out).setCell zN _)⟩ ?_
 rintro W2 ⟨KX,KM,KR,KO,KE⟩
 clear q4 f4 l4 HB HO2 HX2
 have hm1:=KM.out
 unfold Mv.arr at hm1
 have qm:=zQ hm1
 have lm:w.heap.size+1<W2.heap.size:=zL hm1
 clear hm1
 have q22:W2.cell? ⟨w.heap.size,22,none⟩=some (.bool false):=by rw [←HBD.out];exact zQ KX.out 22
 have q23:W2.cell? ⟨w.heap.size,23,none⟩=some (.bool x.b1):=zQ KX.out 23
 have q00:W2.cell? ⟨w.heap.size,0,none⟩=some (.int .u64 x.c):=zQ KX.out 0
 have lx:w.heap.size<W2.heap.size:=zL KX.out
 have hk:=HK.out
 have hw:=HW.out
 have hcm:=fun w' (hw':Ext W2 w')=>rx_comes0 x (.slice a2 x.h.length c2) ⟨3,x.c,{ data:=#[] },l0⟩ m.lost (stepS x.s0 ⟨3,x.c,{ data:=#[] },l0⟩) w' (Row.of_own (own_ext KO.out hw')) (own_nil_or KO.out) hn (by simpa [stepP] using stepP_len 0 x.s0 ⟨3,x.c,{ data:=#[] },l0⟩) (fun w''=>rf_step _ _ _ _ _ _ _ _ _ _ _ _ _ _ _ _ _ w'')
 have HCM:=zd hcm
 clear hcm
 go_wp2_with (first|((with_reducible refine wpList_load_rowG ?_ 33 (.tmp 2) ?_ w.heap.size ?_ 33 (Ex.arr x (.slice a2 x.h.length c2)) (0,0) _ ?_ zu33 ?_ ?_ ?_);(·rfl);(·rfl);(·rfl);(·exact KX.out);(·rfl);(·exact info_ex))|(go_at_call 47;refine (HCM.out _ zR).mono ?_;rintro en w5 ⟨v5,rfl,ho5,hx5⟩;have HO5:=zd ho5;have HX5:=zd hx5;have R5:=zd (heap_ext KR.out hx5);have HV5:=zd ho5.one;clear ho5 hx5)|(refine wpList_store_row rfl 33 _ _ rfl (w.heap.size+1+1) _ rfl rfl 33 _ R5.out info_ex rfl (arr_one _ HV5.out) ?_))
 refine bodyPost_ret (results_row_tmp rfl _ _ (w.heap.size+1+1) 33 (Ex.arr _ v5) (0,0) _ rfl (setRow_heap _ _ _ _ _ _ R5.out) zu33 rfl info_ex) rfl ?_
 have he:=HYE.out
 rw [he]
 have hle2:w.heap.size+1+1<W2.heap.size:=zL KR.out
 exact ⟨_,rfl,own_base (own_at HO5.out fun k hk=>setRow_other _ _ _ _ (by have:=row_loZ HO5.out _ hk;omega)) (by omega),(KE.out.trans HX5.out).setRow (by omega) _⟩
theorem rx_step3_1 (x:Ex) (v:Value) (m:Mv) (w:World) (hR:Hrd w x v) (hv:v = .slice none 0 0∨∃ a n c,v = .slice (some a) n c) (hn:x.h.length≤100000)
 (hk:m.k=3) (hw:m.who=1) (hb:x.b1=false) :
 Calls Tryz.prog 25 #[.agg (x.arr v),.agg #[.int .i64 m.k,.int .i64 m.who,.string m.t,.int .i64 m.l.k,.int .i64 m.l.f,.int .u64 m.l.c,.string m.l.t,.bool m.l.b,.bool m.lost]] w (Stpd w (stepX x m).1 (stepX x m).2):=by
 obtain ⟨ti0,hi,hz0,hz1,hz2⟩:=info_parts info_letter
 have HYE:Hid (stepX x m=({ x with s1:=(stepA x.s1 ⟨3,x.c,{ data:=#[] },l0⟩).1,h:=hearsS x.h m.lost ((stepA x.s1 ⟨3,x.c,{ data:=#[] },l0⟩).2.map (·.l)) },true)):=zd (by
  unfold stepX
  rw [if_neg (by omega),if_neg (by omega),if_pos (.inr hw),if_neg (by omega),if_pos (.inr (.inl hk)),if_neg (by rw [hw];simp [Ex.bad,hb])]
  unfold partyX evX
  simp only [hk,hw]
  rfl)
 have HR:=zd hR
 have HVV:=zd hv
 obtain ⟨a,cap,rfl,hm,_⟩:=row_view hR
 clear hR hv hm
 have HK:=zd hk
 have HW:=zd hw
 have HBD:=zd hb
 clear hk hw hb
 go_enter Tryz.func25,Tryz.ntmps25
 go_upto_region 1 with fail
 refine wp_forget (zY w x m a cap) (zd (three_new zR)) ?_
 intro W1 H1
 have q25:W1.cell? ⟨w.heap.size,25,none⟩=some (.slice a x.h.length cap):=zQ H1.out.1 25
 have f25:=zF H1.out.1 25
 have l1:w.heap.size<W1.heap.size:=zL H1.out.1
 go_upto_region 2 with (first|(at_builtin;refine unHd ?_))
 unfold Hd2
 refine wpList_app4 W1.heap.size 31 24 ti0 _ 5 48 zu31 hi hz0 hz1 hz2 rfl (by decide) rfl _ _ rfl _ 0 [] rfl (own_new (Ext.refl W1) rfl (by decide) rfl rfl) (by simp) _ x.h.length (x.h.flatMap Lt.cs) rfl
  ((HR.out.ext H1.out.2.2.2).ext (zR.alloc _)) HVV.out (lt_one x.h) (by unfold maxLen;omega) (by omega) ?_
 intro v' w2 ho2 hb2 hg2
 rw [Nat.zero_add,List.nil_append] at ho2
 replace hg2:(W1.alloc (.cells #[] 24)).grownBy w2 (some W1.heap.size):=hg2
 have blk : ∀ k,k<W1.heap.size→w2.heap[k]?=W1.heap[k]?:=fun k hk=>(hg2.block k (by simp;omega) (by simp;omega)).trans (((Ext.refl W1).alloc (.cells #[] 24)).block k hk)
 have hx2:Ext W1 w2:=⟨hg2.os,hg2.tape,hg2.output,zT (by simp) hg2.size,blk⟩
 obtain ⟨a2,c2,rfl,_,_⟩:=own_view ho2
 have HO2:=zd ho2
 have HX2:=zd hx2
 have hb:=heap_ext H1.out.1 hx2
 have q4:=zQ hb
 have f4:=zF hb
 have l4:w.heap.size<w2.heap.size:=zL hb
 have HB:=zd hb
 clear ho2 hb2 hg2 blk hx2 q25 f25 l1 hb
 unfold Ex.arr at q4
 go_upto_region 2 with fail
 have hlo : ∀ k∈rowB (.slice a2 x.h.length c2),w.heap.size+1+1<k:=fun k hk=>by
  have:=row_loZ HO2.out _ hk
  have:=zL H1.out.2.2.1
  omega
 have hle:w.heap.size+1+1<W1.heap.size:=zL H1.out.2.2.1
 refine wp_forget (zX w x m W1 a2 c2) ⟨zd (setCell_row (o:=25) HB.out (.slice a2 x.h.length c2)),zd ((cell_other (by omega)).trans (heap_ext H1.out.2.1 HX2.out)),zd ((cell_other (by omega)).trans (heap_ext H1.out.2.2.1 HX2.out)),zd (own_at HO2.out fun k hk=>cell_other (show k≠w.heap.size from by have:=hlo k hk;omega)),zd ((H1.out.2.2.2.trans HX2.out).setCell zN _)⟩ ?_
 rintro W2 ⟨KX,KM,KR,KO,KE⟩
 clear q4 f4 l4 HB HO2 HX2
 have hm1:=KM.out
 unfold Mv.arr at hm1
 have qm:=zQ hm1
 have lm:w.heap.size+1<W2.heap.size:=zL hm1
 clear hm1
 have q22:W2.cell? ⟨w.heap.size,22,none⟩=some (.bool x.b0):=zQ KX.out 22
 have q23:W2.cell? ⟨w.heap.size,23,none⟩=some (.bool false):=by rw [←HBD.out];exact zQ KX.out 23
 have q00:W2.cell? ⟨w.heap.size,0,none⟩=some (.int .u64 x.c):=zQ KX.out 0
 have lx:w.heap.size<W2.heap.size:=zL KX.out
 have hk:=HK.out
 have hw:=HW.out
 have hcm:=fun w' (hw':Ext W2 w')=>rx_comes1 x (.slice a2 x.h.length c2) ⟨3,x.c,{ data:=#[] },l0⟩ m.lost (stepA x.s1 ⟨3,x.c,{ data:=#[] },l0⟩) w' (Row.of_own (own_ext KO.out hw')) (own_nil_or KO.out) hn (by simpa [stepP] using stepP_len 1 x.s1 ⟨3,x.c,{ data:=#[] },l0⟩) (fun w''=>rb_step _ _ _ _ _ _ _ _ _ _ _ _ _ _ _ _ _ w'')
 have HCM:=zd hcm
 clear hcm
 go_wp2_with (first|((with_reducible refine wpList_load_rowG ?_ 33 (.tmp 2) ?_ w.heap.size ?_ 33 (Ex.arr x (.slice a2 x.h.length c2)) (0,0) _ ?_ zu33 ?_ ?_ ?_);(·rfl);(·rfl);(·rfl);(·exact KX.out);(·rfl);(·exact info_ex))|(go_at_call 47;refine (HCM.out _ zR).mono ?_;rintro en w5 ⟨v5,rfl,ho5,hx5⟩;have HO5:=zd ho5;have HX5:=zd hx5;have R5:=zd (heap_ext KR.out hx5);have HV5:=zd ho5.one;clear ho5 hx5)|(refine wpList_store_row rfl 33 _ _ rfl (w.heap.size+1+1) _ rfl rfl 33 _ R5.out info_ex rfl (arr_one _ HV5.out) ?_))
 refine bodyPost_ret (results_row_tmp rfl _ _ (w.heap.size+1+1) 33 (Ex.arr _ v5) (0,0) _ rfl (setRow_heap _ _ _ _ _ _ R5.out) zu33 rfl info_ex) rfl ?_
 have he:=HYE.out
 rw [he]
 have hle2:w.heap.size+1+1<W2.heap.size:=zL KR.out
 exact ⟨_,rfl,own_base (own_at HO5.out fun k hk=>setRow_other _ _ _ _ (by have:=row_loZ HO5.out _ hk;omega)) (by omega),(KE.out.trans HX5.out).setRow (by omega) _⟩
theorem rx_step2_0 (x:Ex) (v:Value) (m:Mv) (w:World) (hR:Hrd w x v) (hv:v = .slice none 0 0∨∃ a n c,v = .slice (some a) n c) (hn:x.h.length≤100000)
 (hk:m.k=2) (hw:m.who=0) (hb:x.b0=false) (hc:canS x m.l=true) :
 Calls Tryz.prog 25 #[.agg (x.arr v),.agg #[.int .i64 m.k,.int .i64 m.who,.string m.t,.int .i64 m.l.k,.int .i64 m.l.f,.int .u64 m.l.c,.string m.l.t,.bool m.l.b,.bool m.lost]] w (Stpd w (stepX x m).1 (stepX x m).2):=by
 obtain ⟨ti0,hi,hz0,hz1,hz2⟩:=info_parts info_letter
 have HYE:Hid (stepX x m=({ x with s0:=(stepS x.s0 ⟨2,0,{ data:=#[] },m.l⟩).1,h:=hearsS x.h m.lost ((stepS x.s0 ⟨2,0,{ data:=#[] },m.l⟩).2.map (·.l)) },true)):=zd (by
  unfold stepX
  rw [if_neg (by omega),if_neg (by omega),if_pos (.inl hw),if_neg (by omega),if_pos (.inr (.inr ⟨hk,hc⟩)),if_neg (by rw [hw];simp [Ex.bad,hb])]
  unfold partyX evX
  simp only [hk,hw]
  rfl)
 have HR:=zd hR
 have HVV:=zd hv
 obtain ⟨a,cap,rfl,hm,_⟩:=row_view hR
 clear hR hv hm
 have HK:=zd hk
 have HW:=zd hw
 have HBD:=zd hb
 clear hk hw hb
 have HCN:=zd hc
 clear hc
 go_enter Tryz.func25,Tryz.ntmps25
 go_upto_region 1 with fail
 refine wp_forget (zY w x m a cap) (zd (three_new zR)) ?_
 intro W1 H1
 have q25:W1.cell? ⟨w.heap.size,25,none⟩=some (.slice a x.h.length cap):=zQ H1.out.1 25
 have f25:=zF H1.out.1 25
 have l1:w.heap.size<W1.heap.size:=zL H1.out.1
 go_upto_region 2 with (first|(at_builtin;refine unHd ?_))
 unfold Hd2
 refine wpList_app4 W1.heap.size 31 24 ti0 _ 5 48 zu31 hi hz0 hz1 hz2 rfl (by decide) rfl _ _ rfl _ 0 [] rfl (own_new (Ext.refl W1) rfl (by decide) rfl rfl) (by simp) _ x.h.length (x.h.flatMap Lt.cs) rfl
  ((HR.out.ext H1.out.2.2.2).ext (zR.alloc _)) HVV.out (lt_one x.h) (by unfold maxLen;omega) (by omega) ?_
 intro v' w2 ho2 hb2 hg2
 rw [Nat.zero_add,List.nil_append] at ho2
 replace hg2:(W1.alloc (.cells #[] 24)).grownBy w2 (some W1.heap.size):=hg2
 have blk : ∀ k,k<W1.heap.size→w2.heap[k]?=W1.heap[k]?:=fun k hk=>(hg2.block k (by simp;omega) (by simp;omega)).trans (((Ext.refl W1).alloc (.cells #[] 24)).block k hk)
 have hx2:Ext W1 w2:=⟨hg2.os,hg2.tape,hg2.output,zT (by simp) hg2.size,blk⟩
 obtain ⟨a2,c2,rfl,_,_⟩:=own_view ho2
 have HO2:=zd ho2
 have HX2:=zd hx2
 have hb:=heap_ext H1.out.1 hx2
 have q4:=zQ hb
 have f4:=zF hb
 have l4:w.heap.size<w2.heap.size:=zL hb
 have HB:=zd hb
 clear ho2 hb2 hg2 blk hx2 q25 f25 l1 hb
 unfold Ex.arr at q4
 go_upto_region 2 with fail
 have hlo : ∀ k∈rowB (.slice a2 x.h.length c2),w.heap.size+1+1<k:=fun k hk=>by
  have:=row_loZ HO2.out _ hk
  have:=zL H1.out.2.2.1
  omega
 have hle:w.heap.size+1+1<W1.heap.size:=zL H1.out.2.2.1
 refine wp_forget (zX w x m W1 a2 c2) ⟨zd (setCell_row (o:=25) HB.out (.slice a2 x.h.length c2)),zd ((cell_other (by omega)).trans (heap_ext H1.out.2.1 HX2.out)),zd ((cell_other (by omega)).trans (heap_ext H1.out.2.2.1 HX2.out)),zd (own_at HO2.out fun k hk=>cell_other (show k≠w.heap.size from by have:=hlo k hk;omega)),zd ((H1.out.2.2.2.trans HX2.out).setCell zN _)⟩ ?_
 rintro W2 ⟨KX,KM,KR,KO,KE⟩
 clear q4 f4 l4 HB HO2 HX2
 have hm1:=KM.out
 unfold Mv.arr at hm1
 have qm:=zQ hm1
 have lm:w.heap.size+1<W2.heap.size:=zL hm1
 clear hm1
 have q22:W2.cell? ⟨w.heap.size,22,none⟩=some (.bool false):=by rw [←HBD.out];exact zQ KX.out 22
 have q23:W2.cell? ⟨w.heap.size,23,none⟩=some (.bool x.b1):=zQ KX.out 23
 have q00:W2.cell? ⟨w.heap.size,0,none⟩=some (.int .u64 x.c):=zQ KX.out 0
 have lx:w.heap.size<W2.heap.size:=zL KX.out
 have hk:=HK.out
 have hw:=HW.out
 have hcan:=fun w' (hw:Ext W2 w')=>rx_can x (.slice a2 x.h.length c2) m.l w' (Row.of_own (own_ext KO.out hw))
 rw [HCN.out] at hcan
 have HCan:=zd hcan
 clear hcan
 go_upto_region 10 with (first|((with_reducible refine wpList_load_rowG ?_ 33 (.tmp 2) ?_ w.heap.size ?_ 33 (Ex.arr x (.slice a2 x.h.length c2)) (0,0) _ ?_ zu33 ?_ ?_ ?_);(·rfl);(·rfl);(·rfl);(·exact KX.out);(·rfl);(·exact info_ex))|(go_at_call 46;refine (HCan.out _ zR).mono ?_;rintro en w3 ⟨rfl,hx3⟩;have KX3:=zd (heap_ext KX.out hx3);have KM3:=zd (heap_ext KM.out hx3);have KR3:=zd (heap_ext KR.out hx3);have KO3:=zd (own_ext KO.out hx3);have KE3:=zd (KE.out.trans hx3);clear hx3))
 clear q22 q23 q00 lx qm lm
 have hm1:=KM3.out
 unfold Mv.arr at hm1
 have qm:=zQ hm1
 have lm:w.heap.size+1<w3.heap.size:=zL hm1
 clear hm1
 have hcm:=fun w' (hw':Ext w3 w')=>rx_comes0 x (.slice a2 x.h.length c2) ⟨2,0,{ data:=#[] },m.l⟩ m.lost (stepS x.s0 ⟨2,0,{ data:=#[] },m.l⟩) w' (Row.of_own (own_ext KO3.out hw')) (own_nil_or KO3.out) hn (by simpa [stepP] using stepP_len 0 x.s0 ⟨2,0,{ data:=#[] },m.l⟩) (fun w''=>rf_step _ _ _ _ _ _ _ _ _ _ _ _ _ _ _ _ _ w'')
 have HCM:=zd hcm
 clear hcm
 go_wp2_with (first|((with_reducible refine wpList_load_rowG ?_ 33 (.tmp 2) ?_ w.heap.size ?_ 33 (Ex.arr x (.slice a2 x.h.length c2)) (0,0) _ ?_ zu33 ?_ ?_ ?_);(·rfl);(·rfl);(·rfl);(·exact KX3.out);(·rfl);(·exact info_ex))|(go_at_call 47;refine (HCM.out _ zR).mono ?_;rintro en w5 ⟨v5,rfl,ho5,hx5⟩;have HO5:=zd ho5;have HX5:=zd hx5;have R5:=zd (heap_ext KR3.out hx5);have HV5:=zd ho5.one;clear ho5 hx5)|(refine wpList_store_row rfl 33 _ _ rfl (w.heap.size+1+1) _ rfl rfl 33 _ R5.out info_ex rfl (arr_one _ HV5.out) ?_))
 refine bodyPost_ret (results_row_tmp rfl _ _ (w.heap.size+1+1) 33 (Ex.arr _ v5) (0,0) _ rfl (setRow_heap _ _ _ _ _ _ R5.out) zu33 rfl info_ex) rfl ?_
 have he:=HYE.out
 rw [he]
 have hle2:w.heap.size+1+1<w3.heap.size:=zL KR3.out
 exact ⟨_,rfl,own_base (own_at HO5.out fun k hk=>setRow_other _ _ _ _ (by have:=row_loZ HO5.out _ hk;omega)) (by omega),(KE3.out.trans HX5.out).setRow (by omega) _⟩
theorem rx_step2_1 (x:Ex) (v:Value) (m:Mv) (w:World) (hR:Hrd w x v) (hv:v = .slice none 0 0∨∃ a n c,v = .slice (some a) n c) (hn:x.h.length≤100000)
 (hk:m.k=2) (hw:m.who=1) (hb:x.b1=false) (hc:canS x m.l=true) :
 Calls Tryz.prog 25 #[.agg (x.arr v),.agg #[.int .i64 m.k,.int .i64 m.who,.string m.t,.int .i64 m.l.k,.int .i64 m.l.f,.int .u64 m.l.c,.string m.l.t,.bool m.l.b,.bool m.lost]] w (Stpd w (stepX x m).1 (stepX x m).2):=by
 obtain ⟨ti0,hi,hz0,hz1,hz2⟩:=info_parts info_letter
 have HYE:Hid (stepX x m=({ x with s1:=(stepA x.s1 ⟨2,0,{ data:=#[] },m.l⟩).1,h:=hearsS x.h m.lost ((stepA x.s1 ⟨2,0,{ data:=#[] },m.l⟩).2.map (·.l)) },true)):=zd (by
  unfold stepX
  rw [if_neg (by omega),if_neg (by omega),if_pos (.inr hw),if_neg (by omega),if_pos (.inr (.inr ⟨hk,hc⟩)),if_neg (by rw [hw];simp [Ex.bad,hb])]
  unfold partyX evX
  simp only [hk,hw]
  rfl)
 have HR:=zd hR
 have HVV:=zd hv
 obtain ⟨a,cap,rfl,hm,_⟩:=row_view hR
 clear hR hv hm
 have HK:=zd hk
 have HW:=zd hw
 have HBD:=zd hb
 clear hk hw hb
 have HCN:=zd hc
 clear hc
 go_enter Tryz.func25,Tryz.ntmps25
 go_upto_region 1 with fail
 refine wp_forget (zY w x m a cap) (zd (three_new zR)) ?_
 intro W1 H1
 have q25:W1.cell? ⟨w.heap.size,25,none⟩=some (.slice a x.h.length cap):=zQ H1.out.1 25
 have f25:=zF H1.out.1 25
 have l1:w.heap.size<W1.heap.size:=zL H1.out.1
 go_upto_region 2 with (first|(at_builtin;refine unHd ?_))
 unfold Hd2
 refine wpList_app4 W1.heap.size 31 24 ti0 _ 5 48 zu31 hi hz0 hz1 hz2 rfl (by decide) rfl _ _ rfl _ 0 [] rfl (own_new (Ext.refl W1) rfl (by decide) rfl rfl) (by simp) _ x.h.length (x.h.flatMap Lt.cs) rfl
  ((HR.out.ext H1.out.2.2.2).ext (zR.alloc _)) HVV.out (lt_one x.h) (by unfold maxLen;omega) (by omega) ?_
 intro v' w2 ho2 hb2 hg2
 rw [Nat.zero_add,List.nil_append] at ho2
 replace hg2:(W1.alloc (.cells #[] 24)).grownBy w2 (some W1.heap.size):=hg2
 have blk : ∀ k,k<W1.heap.size→w2.heap[k]?=W1.heap[k]?:=fun k hk=>(hg2.block k (by simp;omega) (by simp;omega)).trans (((Ext.refl W1).alloc (.cells #[] 24)).block k hk)
 have hx2:Ext W1 w2:=⟨hg2.os,hg2.tape,hg2.output,zT (by simp) hg2.size,blk⟩
 obtain ⟨a2,c2,rfl,_,_⟩:=own_view ho2
 have HO2:=zd ho2
 have HX2:=zd hx2
 have hb:=heap_ext H1.out.1 hx2
 have q4:=zQ hb
 have f4:=zF hb
 have l4:w.heap.size<w2.heap.size:=zL hb
 have HB:=zd hb
 clear ho2 hb2 hg2 blk hx2 q25 f25 l1 hb
 unfold Ex.arr at q4
 go_upto_region 2 with fail
 have hlo : ∀ k∈rowB (.slice a2 x.h.length c2),w.heap.size+1+1<k:=fun k hk=>by
  have:=row_loZ HO2.out _ hk
  have:=zL H1.out.2.2.1
  omega
 have hle:w.heap.size+1+1<W1.heap.size:=zL H1.out.2.2.1
 refine wp_forget (zX w x m W1 a2 c2) ⟨zd (setCell_row (o:=25) HB.out (.slice a2 x.h.length c2)),zd ((cell_other (by omega)).trans (heap_ext H1.out.2.1 HX2.out)),zd ((cell_other (by omega)).trans (heap_ext H1.out.2.2.1 HX2.out)),zd (own_at HO2.out fun k hk=>cell_other (show k≠w.heap.size from by have:=hlo k hk;omega)),zd ((H1.out.2.2.2.trans HX2.out).setCell zN _)⟩ ?_
 rintro W2 ⟨KX,KM,KR,KO,KE⟩
 clear q4 f4 l4 HB HO2 HX2
 have hm1:=KM.out
 unfold Mv.arr at hm1
 have qm:=zQ hm1
 have lm:w.heap.size+1<W2.heap.size:=zL hm1
 clear hm1
 have q22:W2.cell? ⟨w.heap.size,22,none⟩=some (.bool x.b0):=zQ KX.out 22
 have q23:W2.cell? ⟨w.heap.size,23,none⟩=some (.bool false):=by rw [←HBD.out];exact zQ KX.out 23
 have q00:W2.cell? ⟨w.heap.size,0,none⟩=some (.int .u64 x.c):=zQ KX.out 0
 have lx:w.heap.size<W2.heap.size:=zL KX.out
 have hk:=HK.out
 have hw:=HW.out
 have hcan:=fun w' (hw:Ext W2 w')=>rx_can x (.slice a2 x.h.length c2) m.l w' (Row.of_own (own_ext KO.out hw))
 rw [HCN.out] at hcan
 have HCan:=zd hcan
 clear hcan
 go_upto_region 10 with (first|((with_reducible refine wpList_load_rowG ?_ 33 (.tmp 2) ?_ w.heap.size ?_ 33 (Ex.arr x (.slice a2 x.h.length c2)) (0,0) _ ?_ zu33 ?_ ?_ ?_);(·rfl);(·rfl);(·rfl);(·exact KX.out);(·rfl);(·exact info_ex))|(go_at_call 46;refine (HCan.out _ zR).mono ?_;rintro en w3 ⟨rfl,hx3⟩;have KX3:=zd (heap_ext KX.out hx3);have KM3:=zd (heap_ext KM.out hx3);have KR3:=zd (heap_ext KR.out hx3);have KO3:=zd (own_ext KO.out hx3);have KE3:=zd (KE.out.trans hx3);clear hx3))
 clear q22 q23 q00 lx qm lm
 have hm1:=KM3.out
 unfold Mv.arr at hm1
 have qm:=zQ hm1
 have lm:w.heap.size+1<w3.heap.size:=zL hm1
 clear hm1
 have hcm:=fun w' (hw':Ext w3 w')=>rx_comes1 x (.slice a2 x.h.length c2) ⟨2,0,{ data:=#[] },m.l⟩ m.lost (stepA x.s1 ⟨2,0,{ data:=#[] },m.l⟩) w' (Row.of_own (own_ext KO3.out hw')) (own_nil_or KO3.out) hn (by simpa [stepP] using stepP_len 1 x.s1 ⟨2,0,{ data:=#[] },m.l⟩) (fun w''=>rb_step _ _ _ _ _ _ _ _ _ _ _ _ _ _ _ _ _ w'')
 have HCM:=zd hcm
 clear hcm
 go_wp2_with (first|((with_reducible refine wpList_load_rowG ?_ 33 (.tmp 2) ?_ w.heap.size ?_ 33 (Ex.arr x (.slice a2 x.h.length c2)) (0,0) _ ?_ zu33 ?_ ?_ ?_);(·rfl);(·rfl);(·rfl);(·exact KX3.out);(·rfl);(·exact info_ex))|(go_at_call 47;refine (HCM.out _ zR).mono ?_;rintro en w5 ⟨v5,rfl,ho5,hx5⟩;have HO5:=zd ho5;have HX5:=zd hx5;have R5:=zd (heap_ext KR3.out hx5);have HV5:=zd ho5.one;clear ho5 hx5)|(refine wpList_store_row rfl 33 _ _ rfl (w.heap.size+1+1) _ rfl rfl 33 _ R5.out info_ex rfl (arr_one _ HV5.out) ?_))
 refine bodyPost_ret (results_row_tmp rfl _ _ (w.heap.size+1+1) 33 (Ex.arr _ v5) (0,0) _ rfl (setRow_heap _ _ _ _ _ _ R5.out) zu33 rfl info_ex) rfl ?_
 have he:=HYE.out
 rw [he]
 have hle2:w.heap.size+1+1<w3.heap.size:=zL KR3.out
 exact ⟨_,rfl,own_base (own_at HO5.out fun k hk=>setRow_other _ _ _ _ (by have:=row_loZ HO5.out _ hk;omega)) (by omega),(KE3.out.trans HX5.out).setRow (by omega) _⟩
theorem rx_step4 (x:Ex) (v:Value) (m:Mv) (w:World) (hR:Hrd w x v) (hv:v = .slice none 0 0∨∃ a n c,v = .slice (some a) n c) (hn:x.h.length≤100000)
 (hk:m.k=4) (hc:canS x m.l=true) :
 Calls Tryz.prog 25 #[.agg (x.arr v),.agg #[.int .i64 m.k,.int .i64 m.who,.string m.t,.int .i64 m.l.k,.int .i64 m.l.f,.int .u64 m.l.c,.string m.l.t,.bool m.l.b,.bool m.lost]] w (Stpd w (stepX x m).1 (stepX x m).2):=by
 obtain ⟨ti0,hi,hz0,hz1,hz2⟩:=info_parts info_letter
 have HYE:Hid (stepX x m=(askX x m,true)):=zd (by
  unfold stepX
  rw [if_pos hk,if_pos hc])
 have HLB:Hid (m.l.k=3→m.l.b=false):=zd (fun h3=>by
  have h0:lchk m.l=0:=by
   unfold canS at hc
   by_cases h:lchk m.l≠0∨m.l.c≠x.c
   ·rw [if_pos h] at hc;cases hc
   ·exact Classical.not_not.1 fun h'=>h (.inl h')
  cases hb:m.l.b
  ·rfl
  ·have:=(lchk_size h0).2.2.2.2 hb
   omega)
 have HR:=zd hR
 have HVV:=zd hv
 obtain ⟨a,cap,rfl,hm,_⟩:=row_view hR
 clear hR hv hm
 have HK:=zd hk
 clear hk
 have HCN:=zd hc
 clear hc
 go_enter Tryz.func25,Tryz.ntmps25
 go_upto_region 1 with fail
 refine wp_forget (zY w x m a cap) (zd (three_new zR)) ?_
 intro W1 H1
 have q25:W1.cell? ⟨w.heap.size,25,none⟩=some (.slice a x.h.length cap):=zQ H1.out.1 25
 have f25:=zF H1.out.1 25
 have l1:w.heap.size<W1.heap.size:=zL H1.out.1
 go_upto_region 2 with (first|(at_builtin;refine unHd ?_))
 unfold Hd2
 refine wpList_app4 W1.heap.size 31 24 ti0 _ 5 48 zu31 hi hz0 hz1 hz2 rfl (by decide) rfl _ _ rfl _ 0 [] rfl (own_new (Ext.refl W1) rfl (by decide) rfl rfl) (by simp) _ x.h.length (x.h.flatMap Lt.cs) rfl
  ((HR.out.ext H1.out.2.2.2).ext (zR.alloc _)) HVV.out (lt_one x.h) (by unfold maxLen;omega) (by omega) ?_
 intro v' w2 ho2 hb2 hg2
 rw [Nat.zero_add,List.nil_append] at ho2
 replace hg2:(W1.alloc (.cells #[] 24)).grownBy w2 (some W1.heap.size):=hg2
 have blk : ∀ k,k<W1.heap.size→w2.heap[k]?=W1.heap[k]?:=fun k hk=>(hg2.block k (by simp;omega) (by simp;omega)).trans (((Ext.refl W1).alloc (.cells #[] 24)).block k hk)
 have hx2:Ext W1 w2:=⟨hg2.os,hg2.tape,hg2.output,zT (by simp) hg2.size,blk⟩
 obtain ⟨a2,c2,rfl,_,_⟩:=own_view ho2
 have HO2:=zd ho2
 have HX2:=zd hx2
 have hb:=heap_ext H1.out.1 hx2
 have q4:=zQ hb
 have f4:=zF hb
 have l4:w.heap.size<w2.heap.size:=zL hb
 have HB:=zd hb
 clear ho2 hb2 hg2 blk hx2 q25 f25 l1 hb
 unfold Ex.arr at q4
 go_upto_region 2 with fail
 have hlo : ∀ k∈rowB (.slice a2 x.h.length c2),w.heap.size+1+1<k:=fun k hk=>by
  have:=row_loZ HO2.out _ hk
  have:=zL H1.out.2.2.1
  omega
 have hle:w.heap.size+1+1<W1.heap.size:=zL H1.out.2.2.1
 refine wp_forget (fun w'=>Hid (ExAt w' w.heap.size x (.slice a2 x.h.length c2))∧Hid (w'.heap[w.heap.size+1]?=some (.cells m.arr 52 (0,0)))∧Hid (w'.heap[w.heap.size+1+1]?=some (.cells ((zeX []).arr (.slice none 0 0)) 33 (0,0)))∧Hid (Own w' W1.heap.size x.h (.slice a2 x.h.length c2))∧Hid (Ext w w')∧Hid (W1.heap.size≤w'.heap.size)) ⟨zd (setCell_row (o:=25) HB.out (.slice a2 x.h.length c2)),zd ((cell_other (by omega)).trans (heap_ext H1.out.2.1 HX2.out)),zd ((cell_other (by omega)).trans (heap_ext H1.out.2.2.1 HX2.out)),zd (own_at HO2.out fun k hk=>cell_other (show k≠w.heap.size from by have:=hlo k hk;omega)),zd ((H1.out.2.2.2.trans HX2.out).setCell zN _),zd (by simpa [World.setCell] using HX2.out.size)⟩ ?_
 rintro W2 ⟨KX,KM,KR,KO,KE,KW⟩
 clear q4 f4 l4 HB HO2 HX2
 have hm1:=KM.out
 unfold Mv.arr at hm1
 have qm:=zQ hm1
 have lm:w.heap.size+1<W2.heap.size:=zL hm1
 clear hm1
 have q00:W2.cell? ⟨w.heap.size,0,none⟩=some (.int .u64 x.c):=zQ KX.out 0
 have lx:w.heap.size<W2.heap.size:=zL KX.out
 have hk:=HK.out
 have hcan:=fun w' (hw:Ext W2 w')=>rx_can x (.slice a2 x.h.length c2) m.l w' (Row.of_own (own_ext KO.out hw))
 rw [HCN.out] at hcan
 have HCan:=zd hcan
 clear hcan
 go_upto_region 10 with (first|((with_reducible refine wpList_load_rowG ?_ 33 (.tmp 2) ?_ w.heap.size ?_ 33 (Ex.arr x (.slice a2 x.h.length c2)) (0,0) _ ?_ zu33 ?_ ?_ ?_);(·rfl);(·rfl);(·rfl);(·exact KX.out);(·rfl);(·exact info_ex))|(go_at_call 46;refine (HCan.out _ zR).mono ?_;rintro en w3 ⟨rfl,hx3⟩;have KX3:=zd (heap_ext KX.out hx3);have KM3:=zd (heap_ext KM.out hx3);have KR3:=zd (heap_ext KR.out hx3);have KO3:=zd (own_ext KO.out hx3);have KE3:=zd (KE.out.trans hx3);have KW3:=zd (zT KW.out hx3.size);clear hx3))
 clear q00 lx qm lm
 have hm1:=KM3.out
 unfold Mv.arr at hm1
 have qm:=zQ hm1
 have lm:w.heap.size+1<w3.heap.size:=zL hm1
 clear hm1
 have HLE:Hid (W1.heap.size≤w3.heap.size):=KW3
 have hcm:=fun w' (hw':Ext w3 w')=>rx_asks x (.slice a2 x.h.length c2) m w' (Row.of_own (own_ext KO3.out hw')) (own_nil_or KO3.out) hn HLB.out
 have HCM:=zd hcm
 clear hcm
 go_wp2_with (first|((with_reducible refine wpList_load_rowG ?_ 33 (.tmp 2) ?_ w.heap.size ?_ 33 (Ex.arr x (.slice a2 x.h.length c2)) (0,0) _ ?_ zu33 ?_ ?_ ?_);(·rfl);(·rfl);(·rfl);(·exact KX3.out);(·rfl);(·exact info_ex))|(go_at_call 48;refine (HCM.out _ zR).mono ?_;rintro en w5 ⟨v5,rfl,ho5',hx5⟩;have ho5:Own w5 W1.heap.size (askX x m).h v5:=ho5'.elim (fun h=>own_base h (HLE.out)) (fun h=>by rw [h.1,h.2];exact own_ext KO3.out hx5);clear ho5';have HO5:=zd ho5;have HX5:=zd hx5;have R5:=zd (heap_ext KR3.out hx5);have HV5:=zd ho5.one;clear ho5 hx5)|(refine wpList_store_row rfl 33 _ _ rfl (w.heap.size+1+1) _ rfl rfl 33 _ R5.out info_ex rfl (arr_one _ HV5.out) ?_))
 refine bodyPost_ret (results_row_tmp rfl _ _ (w.heap.size+1+1) 33 (Ex.arr _ v5) (0,0) _ rfl (setRow_heap _ _ _ _ _ _ R5.out) zu33 rfl info_ex) rfl ?_
 have he:=HYE.out
 rw [he]
 have hle2:w.heap.size+1+1<w3.heap.size:=zL KR3.out
 exact ⟨_,rfl,own_base (own_at HO5.out fun k hk=>setRow_other _ _ _ _ (by have:=row_loZ HO5.out _ hk;omega)) (by omega),(KE3.out.trans HX5.out).setRow (by omega) _⟩
end Go.Proofs.YtlnmhocehgmbbaaGreatDoor
namespace Go.Proofs.YtlnmhocehgmbbaaGreatDoor
theorem rx_step (x:Ex) (v:Value) (m:Mv) (w:World) (hR:Hrd w x v) (hv:v = .slice none 0 0∨∃ a n c,v = .slice (some a) n c) (hn:x.h.length≤100000) :
 Calls Tryz.prog 25 #[.agg (x.arr v),.agg m.arr] w (Stpd w (stepX x m).1 (stepX x m).2):=by
 show Calls Tryz.prog 25 #[.agg (x.arr v),.agg #[.int .i64 m.k,.int .i64 m.who,.string m.t,.int .i64 m.l.k,.int .i64 m.l.f,.int .u64 m.l.c,.string m.l.t,.bool m.l.b,.bool m.lost]] w _
 by_cases h6:m.k=6
 ·exact rx_step6 x v m w hR hv hn h6
 by_cases h4:m.k=4
 ·cases hc:canS x m.l
  ·exact rx_stepC x v m w hR hv hn (.inr h4) hc
  ·exact rx_step4 x v m w hR hv hn h4 hc
 by_cases hN:m.k<1∨6<m.k
 ·exact rx_stepN x v m w hR hv hn (hN.elim .inl fun h=>.inr (.inl h))
 by_cases hw0:m.who=0
 ·by_cases h5:m.k=5
  ·exact rx_step50 x v m w hR hv hn h5 hw0
  have hk:m.k=1∨m.k=2∨m.k=3:=by omega
  cases hb:x.bad m.who
  ·have hb0:x.b0=false:=by rw [hw0] at hb;simpa [Ex.bad] using hb
   rcases hk with hk|hk|hk
   ·exact rx_step1_0 x v m w hR hv hn hk hw0 hb0
   ·cases hc:canS x m.l
    ·exact rx_stepC x v m w hR hv hn (.inl ⟨hk,.inl hw0,hb⟩) hc
    ·exact rx_step2_0 x v m w hR hv hn hk hw0 hb0 hc
   ·exact rx_step3_0 x v m w hR hv hn hk hw0 hb0
  ·exact rx_stepB x v m w hR hv hn hk (.inl hw0) hb
 by_cases hw1:m.who=1
 ·by_cases h5:m.k=5
  ·exact rx_step51 x v m w hR hv hn h5 hw1
  have hk:m.k=1∨m.k=2∨m.k=3:=by omega
  cases hb:x.bad m.who
  ·have hb0:x.b1=false:=by rw [hw1] at hb;simpa [Ex.bad] using hb
   rcases hk with hk|hk|hk
   ·exact rx_step1_1 x v m w hR hv hn hk hw1 hb0
   ·cases hc:canS x m.l
    ·exact rx_stepC x v m w hR hv hn (.inl ⟨hk,.inr hw1,hb⟩) hc
    ·exact rx_step2_1 x v m w hR hv hn hk hw1 hb0 hc
   ·exact rx_step3_1 x v m w hR hv hn hk hw1 hb0
  ·exact rx_stepB x v m w hR hv hn hk (.inr hw1) hb
 exact rx_stepN x v m w hR hv hn (.inr (.inr ⟨h4,h6,hw0,hw1⟩))
end Go.Proofs.YtlnmhocehgmbbaaGreatDoor

/- No condition. -/
import Derived.Test.YtlnmhocehgmbbaaGreatDoorWY28
set_option linter.all false
set_option maxRecDepth 100000
set_option maxHeartbeats 6400000
namespace Go.Proofs.YtlnmhocehgmbbaaGreatDoor
open Go.RowKit
attribute [local go_sem ↓] eql_lEq eql_sEq eql_eEq eql_oEq neq_lEq neq_sEq neq_eEq neq_oEq
attribute [local go_sem] ExtOf.cell ExtOf.frozen ExtOf.lt ExtOf.le
attribute [local go_sem high] ExtOf.cell2 ExtOf.frozen2 ExtOf.lt2 ExtOf.cell3 ExtOf.frozen3 ExtOf.lt3
theorem info_stL (s:St):(Tryz.prog.info? 26).map (·.size)=some ([.int .i64 s.r,.int .u64 s.c,.string s.t,.int .i64 s.ph,.int .i64 s.p.k,.int .i64 s.p.f,.int .u64 s.p.c,.string s.p.t,.bool s.p.b]:List Value).length:=by kernel_rfl
theorem four_new {w:World} {A B C D:Obj} : ((((w.alloc A).alloc B).alloc C).alloc D).heap[w.heap.size]?=some A∧((((w.alloc A).alloc B).alloc C).alloc D).heap[w.heap.size+1]?=some B∧((((w.alloc A).alloc B).alloc C).alloc D).heap[w.heap.size+1+1]?=some C∧((((w.alloc A).alloc B).alloc C).alloc D).heap[w.heap.size+1+1+1]?=some D∧Ext w ((((w.alloc A).alloc B).alloc C).alloc D):=by
 have h:=three_new (w:=w) (A:=A) (B:=B) (C:=C) (zR.alloc D)
 exact ⟨h.1,h.2.1,h.2.2.1,heap_new (by simp),h.2.2.2⟩
theorem info_ev8:(Tryz.prog.info? 102).map (·.size)=some 8:=by kernel_rfl
theorem ou_cellsZ {w:World} {g:Nat} {L:List Ou} {k:Nat} {x:Ou} (h : ∀ j u,(L.flatMap Ou.cs)[j]?=some u→w.cell? ⟨g,j,none⟩=some u) (hx:L[k]?=some x) :
 w.cell? ⟨g,k*6,none⟩=some (.int .i64 x.to)∧w.cell? ⟨g,k*6+1,none⟩=some (.int .i64 x.l.k)∧w.cell? ⟨g,k*6+2,none⟩=some (.int .i64 x.l.f)∧w.cell? ⟨g,k*6+3,none⟩=some (.int .u64 x.l.c)∧w.cell? ⟨g,k*6+4,none⟩=some (.string x.l.t)∧w.cell? ⟨g,k*6+5,none⟩=some (.bool x.l.b):=by
 have f:=fun j hj=>flat_get Ou.cs 6 (fun _=>rfl) L k x hx j hj
 exact ⟨h _ _ (f 0 (by omega)),h _ _ (f 1 (by omega)),h _ _ (f 2 (by omega)),h _ _ (f 3 (by omega)),h _ _ (f 4 (by omega)),h _ _ (f 5 (by omega))⟩
theorem put_s0 (x:Ex) (v:Value) (s:St):putA (x.arr v) 1 s.cs=({ x with s0:=s } : Ex).arr v:=by
 apply Array.ext'
 simp [putA,Ex.arr,St.cs]
theorem put_s1 (x:Ex) (v:Value) (s:St):putA (x.arr v) 10 s.cs=({ x with s1:=s } : Ex).arr v:=by
 apply Array.ext'
 simp [putA,Ex.arr,St.cs]
theorem rx_comes0 (x:Ex) (v:Value) (e:Ev) (lost:Bool) (R:St×List Ou) (w:World) (hR:Hrd w x v) (hv:v = .slice none 0 0∨∃ a n c,v = .slice (some a) n c) (hn:x.h.length≤100000) (hR2:R.2.length≤1)
 (hS : ∀ w',Calls Tryz.prog 75 #[.agg #[.int .i64 x.s0.r,.int .u64 x.s0.c,.string x.s0.t,.int .i64 x.s0.ph,.int .i64 x.s0.p.k,.int .i64 x.s0.p.f,.int .u64 x.s0.p.c,.string x.s0.p.t,.bool x.s0.p.b],.agg #[.int .i64 e.k,.int .u64 e.c,.string e.t,.int .i64 e.l.k,.int .i64 e.l.f,.int .u64 e.l.c,.string e.l.t,.bool e.l.b]] w' (Stepped w' R)) :
 Calls Tryz.prog 47 #[.agg (x.arr v),.int .i64 0,.agg #[.int .i64 e.k,.int .u64 e.c,.string e.t,.int .i64 e.l.k,.int .i64 e.l.f,.int .u64 e.l.c,.string e.l.t,.bool e.l.b],.bool lost] w (HearsP w { x with s0:=R.1,h:=hearsS x.h lost (R.2.map (·.l)) }):=by
 obtain ⟨ti0,hi,hz0,hz1,hz2⟩:=info_parts info_letter
 have HR:=zd hR
 have HVV:=zd hv
 have HS:=zd hS
 clear hR hv hS
 go_enter Tryz.func47,Tryz.ntmps47
 go_upto_region 3 with fail
 refine wp_forget (fun w'=>Hid (ExAt w' w.heap.size x v∧w'.heap[w.heap.size+1]?=some (.cells #[.int .i64 e.k,.int .u64 e.c,.string e.t,.int .i64 e.l.k,.int .i64 e.l.f,.int .u64 e.l.c,.string e.l.t,.bool e.l.b] 102 (0,0))∧w'.heap[w.heap.size+1+1]?=some (.cells ((zeX []).arr (.slice none 0 0)) 33 (0,0))∧w'.heap[w.heap.size+1+1+1]?=some (.cells #[.int .i64 0,.int .u64 0,.string { data:=#[] },.int .i64 0,.int .i64 0,.int .i64 0,.int .u64 0,.string { data:=#[] },.bool false] 26 (0,0))∧Ext w w')) (zd four_new) ?_
 intro W1 H1
 go_upto_region 6 with (first|((with_reducible refine wpList_load_midG 26 (.tmp 17) ?_ w.heap.size 1 ?_ ?_ [.int .i64 x.s0.r,.int .u64 x.s0.c,.string x.s0.t,.int .i64 x.s0.ph,.int .i64 x.s0.p.k,.int .i64 x.s0.p.f,.int .u64 x.s0.p.c,.string x.s0.p.t,.bool x.s0.p.b] _ ?_ zu26 ?_ ?_ ?_);(·rfl);(·rfl);(·kernel_rfl);(·exact range_of_row H1.out.1 1 9 _ rfl);(·rfl);(·exact info_stL _))|((with_reducible refine wpList_load_rowG ?_ 102 (.tmp 6) ?_ (w.heap.size+1) ?_ 102 #[.int .i64 e.k,.int .u64 e.c,.string e.t,.int .i64 e.l.k,.int .i64 e.l.f,.int .u64 e.l.c,.string e.l.t,.bool e.l.b] (0,0) _ ?_ zu102 ?_ ?_ ?_);(·rfl);(·rfl);(·rfl);(·exact H1.out.2.1);(·rfl);(·exact info_ev8))|(go_at_call 75;refine (HS.out _).mono ?_;rintro en w2 ⟨v',rfl,ho,hx⟩;have HO:=zd ho;have HX:=zd hx;have H3:=zd (heap_ext H1.out.2.2.2.1 hx);clear ho hx)|(refine wpList_store_row rfl 26 _ _ rfl (w.heap.size+1+1+1) _ rfl rfl 26 _ H3.out info_state rfl (by simp [Value.oneCell',St.cs]) ?_))
 have hlo : ∀ k∈rowB v',w.heap.size+1+1+1<k:=fun k hk=>by
  have:=row_loZ HO.out _ hk
  have:=zL H1.out.2.2.2.1
  omega
 have HXA:=zd (heap_ext H1.out.1 HX.out)
 have HSR:=zd (setRow_heap _ _ _ R.1.cs.toArray _ _ H3.out)
 have HXB:Hid ((w2.setRow (w.heap.size+1+1+1) R.1.cs.toArray).heap[w.heap.size]?=some (.cells (x.arr v) 33 (0,0))):=zd ((setRow_other _ _ _ _ (by omega)).trans HXA.out)
 go_upto_region 7 with (first|((with_reducible refine wpList_load_rowG ?_ 26 (.tmp 9) ?_ (w.heap.size+1+1+1) ?_ 26 R.1.cs.toArray (0,0) _ ?_ zu26 ?_ ?_ ?_);(·rfl);(·rfl);(·rfl);(·exact HSR.out);(·rfl);(·exact info_state))|((with_reducible refine wpList_store_mid ?_ 26 (.tmp 34) (.tmp 32) ?_ w.heap.size 1 R.1.cs.toArray ?_ ?_ ?_ ?_ ?_ ?_);(·rfl);(·rfl);(·rfl);(·rfl);(·exact there_row HXB.out (by exact Nat.le_of_ble_eq_true rfl));(·exact info_state);(·simp [Value.oneCell',St.cs])))
 refine wp_forget (fun w'=>Hid (ExAt w' w.heap.size { x with s0:=R.1 } v)∧Hid (w'.heap[w.heap.size+1+1]?=some (.cells ((zeX []).arr (.slice none 0 0)) 33 (0,0)))∧Hid (w'.ownsRow W1.heap.size 126 6 v' R.2.length (R.2.flatMap Ou.cs))∧Hid (Ext w w')) ⟨zd (by have:=puts_row R.1.cs _ w.heap.size 1 _ HXB.out;rw [put_s0] at this;exact this),zd (((puts_other _ _ _ (by omega)).trans (setRow_other _ _ _ _ (by omega))).trans (heap_ext H1.out.2.2.1 HX.out)),zd (own_at HO.out fun k hk=>(puts_other _ _ _ (by have:=hlo k hk;omega)).trans (setRow_other _ _ _ _ (by have:=hlo k hk;omega))),zd (Ext.setCells zN _ _ ((H1.out.2.2.2.2.trans HX.out).setRow (by omega) _))⟩ ?_
 rintro W2 ⟨K1,K3,KO,KE⟩
 obtain ⟨oa,oc,rfl,_,hov⟩:=own_view KO.out
 have HOV:=zd hov
 clear HXA HSR HXB HO HX H3 hov hlo
 go_upto_region 9 with fail
 go_loopg [11,12] R.2.length (fun g t11 t12 wr=>∃ (i:Nat) (v11:Value),v11=t11∧t12 = .int .i64 (i:Int)∧i+g=R.2.length∧Hid (Ext W2 wr)∧Hid (Own wr W2.heap.size ((R.2.take i).map (·.l)) v11))
 case atStart=>exact ⟨0,_,rfl,rfl,by omega,zd zR,zd (World.ownsRow_nil _ _ _ _)⟩
 case round=>
  obtain ⟨i,v11,rfl,rfl,hg,HE4,HH2⟩:=hrel
  rename World=>w4
  by_cases hlt:i<R.2.length
  case neg=>
   have hlt' : ¬(i:Int)<(R.2.length:Int):=by omega
   rw [List.take_of_length_le (by omega)] at HH2
   have HC:=fun w' (hw:Ext w4 w')=>rx_hears { x with s0:=R.1 } v v11 (R.2.map fun o:Ou=>o.l) lost w' (Row.ext HR.out ((KE.out.trans HE4.out).trans hw)) HVV.out (Row.of_own (HH2.out.ext hw)) hn (by rw [List.length_map];omega)
   have HCC:=zd HC
   have K14:=zd (heap_ext K1.out HE4.out)
   clear HC
   go_wp2_with (first|((with_reducible refine wpList_load_rowG ?_ 33 (.tmp 4) ?_ w.heap.size ?_ 33 (({ x with s0:=R.1 } : Ex).arr v) (0,0) _ ?_ zu33 ?_ ?_ ?_);(·rfl);(·rfl);(·rfl);(·exact K14.out);(·rfl);(·exact info_ex))|(go_at_call 77;refine (HCC.out _ zR).mono ?_;rintro en w5 ⟨v5,rfl,ho5,hx5⟩;have HO5:=zd ho5;have HX5:=zd hx5;have hr2:=heap_ext (heap_ext K3.out HE4.out) hx5;have HR2:=zd hr2;have HV5:=zd ho5.one;clear ho5 hx5 hr2)|(refine wpList_store_row rfl 33 _ _ rfl (w.heap.size+1+1) _ rfl rfl 33 _ HR2.out info_ex rfl (arr_one _ HV5.out) ?_))
   refine bodyPost_ret (results_cell_row rfl _ _ (w.heap.size+1+1) 33 (Ex.arr _ v5) (0,0) _ rfl (setRow_heap _ _ _ _ _ _ HR2.out) zu33 rfl info_ex) rfl ?_
   have hle:w.heap.size+1+1<w4.heap.size:=zL (heap_ext K3.out HE4.out)
   exact ⟨_,rfl,own_base (own_at HO5.out fun k hk=>setRow_other _ _ _ _ (by have:=row_loZ HO5.out _ hk;omega)) (by omega),((KE.out.trans HE4.out).trans HX5.out).setRow (by omega) _⟩
  have hlt':(i:Int)<(R.2.length:Int):=by omega
  have i0:i=0:=by omega
  obtain ⟨z,hz⟩ : ∃ z,R.2[i]?=some z:=⟨_,zG hlt⟩
  obtain ⟨g0,rfl,_,hgl,hcell⟩:=HOV.out (by omega)
  obtain ⟨q0,q1,q2,q3,q4,q5⟩:=ou_cellsZ (fun j u hj=>cell_keep (hcell j u hj) HE4.out) hz
  have hgl1:g0<w4.heap.size:=zU hgl HE4.out.size
  have HZ:=zd hz
  have hlen:((R.2.take i).map (·.l)).length≤1:=by rw [List.length_map,List.length_take];omega
  clear hgl hcell hz
  have hsh:(R.2.take (i+1)).map (·.l)=(R.2.take i).map (·.l)++[z.l]:=by rw [List.take_add_one,HZ.out,List.map_append];rfl
  have HSH:=zd hsh
  clear hsh i0
  generalize (R.2.take i).map (·.l)=H at HH2 hlen HSH
  go_wp2_with (at_builtin;refine wpList_app W2.heap.size 31 24 ti0 _ 5 48 zu31 hi hz0 hz1 hz2 rfl (by decide) rfl _ _ rfl _ H.length (H.flatMap Lt.cs) rfl (own_ext HH2.out (zR.alloc _)) (zT HE4.out.size ((Ext.refl w4).alloc _).size) w4.heap.size 1 1 #[.int .i64 z.l.k,.int .i64 z.l.f,.int .u64 z.l.c,.string z.l.t,.bool z.l.b] rfl (heap_new rfl) rfl (by simp [Value.oneCell']) (by unfold maxLen;omega) (by omega) ?_;intro v9 w9 k1 k2 k3;have HK1:=zd k1;have HE9:=zd (ext_append (HE4.out.alloc _) (own_ext HH2.out (zR.alloc _)) zN k3);clear k1 k2 k3)
  go_roundg (gk - 1)
  case rel=>
   refine ⟨i+1,_,rfl,rfl,by omega,HE9,zd ?_⟩
   rw [HSH.out]
   have:=HK1.out
   show World.ownsRow _ _ _ _ _ (H++[z.l]).length ((H++[z.l]).flatMap Lt.cs)
   rw [List.length_append,List.flatMap_append]
   exact this
  case measure=>omega
theorem rx_comes1 (x:Ex) (v:Value) (e:Ev) (lost:Bool) (R:St×List Ou) (w:World) (hR:Hrd w x v) (hv:v = .slice none 0 0∨∃ a n c,v = .slice (some a) n c) (hn:x.h.length≤100000) (hR2:R.2.length≤1)
 (hS : ∀ w',Calls Tryz.prog 76 #[.agg #[.int .i64 x.s1.r,.int .u64 x.s1.c,.string x.s1.t,.int .i64 x.s1.ph,.int .i64 x.s1.p.k,.int .i64 x.s1.p.f,.int .u64 x.s1.p.c,.string x.s1.p.t,.bool x.s1.p.b],.agg #[.int .i64 e.k,.int .u64 e.c,.string e.t,.int .i64 e.l.k,.int .i64 e.l.f,.int .u64 e.l.c,.string e.l.t,.bool e.l.b]] w' (Stepped w' R)) :
 Calls Tryz.prog 47 #[.agg (x.arr v),.int .i64 1,.agg #[.int .i64 e.k,.int .u64 e.c,.string e.t,.int .i64 e.l.k,.int .i64 e.l.f,.int .u64 e.l.c,.string e.l.t,.bool e.l.b],.bool lost] w (HearsP w { x with s1:=R.1,h:=hearsS x.h lost (R.2.map (·.l)) }):=by
 obtain ⟨ti0,hi,hz0,hz1,hz2⟩:=info_parts info_letter
 have HR:=zd hR
 have HVV:=zd hv
 have HS:=zd hS
 clear hR hv hS
 go_enter Tryz.func47,Tryz.ntmps47
 go_upto_region 3 with fail
 refine wp_forget (fun w'=>Hid (ExAt w' w.heap.size x v∧w'.heap[w.heap.size+1]?=some (.cells #[.int .i64 e.k,.int .u64 e.c,.string e.t,.int .i64 e.l.k,.int .i64 e.l.f,.int .u64 e.l.c,.string e.l.t,.bool e.l.b] 102 (0,0))∧w'.heap[w.heap.size+1+1]?=some (.cells ((zeX []).arr (.slice none 0 0)) 33 (0,0))∧w'.heap[w.heap.size+1+1+1]?=some (.cells #[.int .i64 0,.int .u64 0,.string { data:=#[] },.int .i64 0,.int .i64 0,.int .i64 0,.int .u64 0,.string { data:=#[] },.bool false] 26 (0,0))∧Ext w w')) (zd four_new) ?_
 intro W1 H1
 go_upto_region 6 with (first|((with_reducible refine wpList_load_midG 26 (.tmp 25) ?_ w.heap.size 10 ?_ ?_ [.int .i64 x.s1.r,.int .u64 x.s1.c,.string x.s1.t,.int .i64 x.s1.ph,.int .i64 x.s1.p.k,.int .i64 x.s1.p.f,.int .u64 x.s1.p.c,.string x.s1.p.t,.bool x.s1.p.b] _ ?_ zu26 ?_ ?_ ?_);(·rfl);(·rfl);(·kernel_rfl);(·exact range_of_row H1.out.1 10 9 _ rfl);(·rfl);(·exact info_stL _))|((with_reducible refine wpList_load_rowG ?_ 102 (.tmp 6) ?_ (w.heap.size+1) ?_ 102 #[.int .i64 e.k,.int .u64 e.c,.string e.t,.int .i64 e.l.k,.int .i64 e.l.f,.int .u64 e.l.c,.string e.l.t,.bool e.l.b] (0,0) _ ?_ zu102 ?_ ?_ ?_);(·rfl);(·rfl);(·rfl);(·exact H1.out.2.1);(·rfl);(·exact info_ev8))|(go_at_call 76;refine (HS.out _).mono ?_;rintro en w2 ⟨v',rfl,ho,hx⟩;have HO:=zd ho;have HX:=zd hx;have H3:=zd (heap_ext H1.out.2.2.2.1 hx);clear ho hx)|(refine wpList_store_row rfl 26 _ _ rfl (w.heap.size+1+1+1) _ rfl rfl 26 _ H3.out info_state rfl (by simp [Value.oneCell',St.cs]) ?_))
 have hlo : ∀ k∈rowB v',w.heap.size+1+1+1<k:=fun k hk=>by
  have:=row_loZ HO.out _ hk
  have:=zL H1.out.2.2.2.1
  omega
 have HXA:=zd (heap_ext H1.out.1 HX.out)
 have HSR:=zd (setRow_heap _ _ _ R.1.cs.toArray _ _ H3.out)
 have HXB:Hid ((w2.setRow (w.heap.size+1+1+1) R.1.cs.toArray).heap[w.heap.size]?=some (.cells (x.arr v) 33 (0,0))):=zd ((setRow_other _ _ _ _ (by omega)).trans HXA.out)
 go_upto_region 7 with (first|((with_reducible refine wpList_load_rowG ?_ 26 (.tmp 9) ?_ (w.heap.size+1+1+1) ?_ 26 R.1.cs.toArray (0,0) _ ?_ zu26 ?_ ?_ ?_);(·rfl);(·rfl);(·rfl);(·exact HSR.out);(·rfl);(·exact info_state))|((with_reducible refine wpList_store_mid ?_ 26 (.tmp 34) (.tmp 32) ?_ w.heap.size 10 R.1.cs.toArray ?_ ?_ ?_ ?_ ?_ ?_);(·rfl);(·rfl);(·rfl);(·rfl);(·exact there_row HXB.out (by exact Nat.le_of_ble_eq_true rfl));(·exact info_state);(·simp [Value.oneCell',St.cs])))
 refine wp_forget (fun w'=>Hid (ExAt w' w.heap.size { x with s1:=R.1 } v)∧Hid (w'.heap[w.heap.size+1+1]?=some (.cells ((zeX []).arr (.slice none 0 0)) 33 (0,0)))∧Hid (w'.ownsRow W1.heap.size 126 6 v' R.2.length (R.2.flatMap Ou.cs))∧Hid (Ext w w')) ⟨zd (by have:=puts_row R.1.cs _ w.heap.size 10 _ HXB.out;rw [put_s1] at this;exact this),zd (((puts_other _ _ _ (by omega)).trans (setRow_other _ _ _ _ (by omega))).trans (heap_ext H1.out.2.2.1 HX.out)),zd (own_at HO.out fun k hk=>(puts_other _ _ _ (by have:=hlo k hk;omega)).trans (setRow_other _ _ _ _ (by have:=hlo k hk;omega))),zd (Ext.setCells zN _ _ ((H1.out.2.2.2.2.trans HX.out).setRow (by omega) _))⟩ ?_
 rintro W2 ⟨K1,K3,KO,KE⟩
 obtain ⟨oa,oc,rfl,_,hov⟩:=own_view KO.out
 have HOV:=zd hov
 clear HXA HSR HXB HO HX H3 hov hlo
 go_upto_region 9 with fail
 go_loopg [11,12] R.2.length (fun g t11 t12 wr=>∃ (i:Nat) (v11:Value),v11=t11∧t12 = .int .i64 (i:Int)∧i+g=R.2.length∧Hid (Ext W2 wr)∧Hid (Own wr W2.heap.size ((R.2.take i).map (·.l)) v11))
 case atStart=>exact ⟨0,_,rfl,rfl,by omega,zd zR,zd (World.ownsRow_nil _ _ _ _)⟩
 case round=>
  obtain ⟨i,v11,rfl,rfl,hg,HE4,HH2⟩:=hrel
  rename World=>w4
  by_cases hlt:i<R.2.length
  case neg=>
   have hlt' : ¬(i:Int)<(R.2.length:Int):=by omega
   rw [List.take_of_length_le (by omega)] at HH2
   have HC:=fun w' (hw:Ext w4 w')=>rx_hears { x with s1:=R.1 } v v11 (R.2.map fun o:Ou=>o.l) lost w' (Row.ext HR.out ((KE.out.trans HE4.out).trans hw)) HVV.out (Row.of_own (HH2.out.ext hw)) hn (by rw [List.length_map];omega)
   have HCC:=zd HC
   have K14:=zd (heap_ext K1.out HE4.out)
   clear HC
   go_wp2_with (first|((with_reducible refine wpList_load_rowG ?_ 33 (.tmp 4) ?_ w.heap.size ?_ 33 (({ x with s1:=R.1 } : Ex).arr v) (0,0) _ ?_ zu33 ?_ ?_ ?_);(·rfl);(·rfl);(·rfl);(·exact K14.out);(·rfl);(·exact info_ex))|(go_at_call 77;refine (HCC.out _ zR).mono ?_;rintro en w5 ⟨v5,rfl,ho5,hx5⟩;have HO5:=zd ho5;have HX5:=zd hx5;have hr2:=heap_ext (heap_ext K3.out HE4.out) hx5;have HR2:=zd hr2;have HV5:=zd ho5.one;clear ho5 hx5 hr2)|(refine wpList_store_row rfl 33 _ _ rfl (w.heap.size+1+1) _ rfl rfl 33 _ HR2.out info_ex rfl (arr_one _ HV5.out) ?_))
   refine bodyPost_ret (results_cell_row rfl _ _ (w.heap.size+1+1) 33 (Ex.arr _ v5) (0,0) _ rfl (setRow_heap _ _ _ _ _ _ HR2.out) zu33 rfl info_ex) rfl ?_
   have hle:w.heap.size+1+1<w4.heap.size:=zL (heap_ext K3.out HE4.out)
   exact ⟨_,rfl,own_base (own_at HO5.out fun k hk=>setRow_other _ _ _ _ (by have:=row_loZ HO5.out _ hk;omega)) (by omega),((KE.out.trans HE4.out).trans HX5.out).setRow (by omega) _⟩
  have hlt':(i:Int)<(R.2.length:Int):=by omega
  have i0:i=0:=by omega
  obtain ⟨z,hz⟩ : ∃ z,R.2[i]?=some z:=⟨_,zG hlt⟩
  obtain ⟨g0,rfl,_,hgl,hcell⟩:=HOV.out (by omega)
  obtain ⟨q0,q1,q2,q3,q4,q5⟩:=ou_cellsZ (fun j u hj=>cell_keep (hcell j u hj) HE4.out) hz
  have hgl1:g0<w4.heap.size:=zU hgl HE4.out.size
  have HZ:=zd hz
  have hlen:((R.2.take i).map (·.l)).length≤1:=by rw [List.length_map,List.length_take];omega
  clear hgl hcell hz
  have hsh:(R.2.take (i+1)).map (·.l)=(R.2.take i).map (·.l)++[z.l]:=by rw [List.take_add_one,HZ.out,List.map_append];rfl
  have HSH:=zd hsh
  clear hsh i0
  generalize (R.2.take i).map (·.l)=H at HH2 hlen HSH
  go_wp2_with (at_builtin;refine wpList_app W2.heap.size 31 24 ti0 _ 5 48 zu31 hi hz0 hz1 hz2 rfl (by decide) rfl _ _ rfl _ H.length (H.flatMap Lt.cs) rfl (own_ext HH2.out (zR.alloc _)) (zT HE4.out.size ((Ext.refl w4).alloc _).size) w4.heap.size 1 1 #[.int .i64 z.l.k,.int .i64 z.l.f,.int .u64 z.l.c,.string z.l.t,.bool z.l.b] rfl (heap_new rfl) rfl (by simp [Value.oneCell']) (by unfold maxLen;omega) (by omega) ?_;intro v9 w9 k1 k2 k3;have HK1:=zd k1;have HE9:=zd (ext_append (HE4.out.alloc _) (own_ext HH2.out (zR.alloc _)) zN k3);clear k1 k2 k3)
  go_roundg (gk - 1)
  case rel=>
   refine ⟨i+1,_,rfl,rfl,by omega,HE9,zd ?_⟩
   rw [HSH.out]
   have:=HK1.out
   show World.ownsRow _ _ _ _ _ (H++[z.l]).length ((H++[z.l]).flatMap Lt.cs)
   rw [List.length_append,List.flatMap_append]
   exact this
  case measure=>omega
def Vd.csL (v:Vd):List Value:=[.int .u64 v.c,.int .i64 v.k,.string v.t]
theorem put_v (x:Ex) (v:Value) (s:Vd):putA (x.arr v) 19 s.csL=({ x with v:=s } : Ex).arr v:=by
 apply Array.ext'
 simp [putA,Ex.arr,Vd.csL]
def AskP (w:World) (x:Ex) (v:Value) (y:Ex) (e:Ending) (w':World):Prop:=∃ v',e = .returned (.agg (y.arr v'))∧(Own w' w.heap.size y.h v'∨(v'=v∧y=x))∧Ext w w'
theorem rx_asks0 (x:Ex) (v:Value) (l:Lt) (lost:Bool) (w:World) (hv:v.oneCell'=true) (hno : ¬((l.k=3∨l.k=4)∧l.b=false)) :
 Calls Tryz.prog 48 #[.agg (x.arr v),.agg #[.int .i64 l.k,.int .i64 l.f,.int .u64 l.c,.string l.t,.bool l.b],.bool lost] w (AskP w x v x):=by
 obtain ⟨k,f,c,t,b⟩:=l
 simp only at hno ⊢
 have HVV:=zd hv
 clear hv
 have hc:Hid ((k != 3)=true∧(k != 4)=true)∨b=true:=by
  by_cases h3:k=3
  ·cases b
   ·exact absurd ⟨.inl h3,rfl⟩ hno
   ·exact .inr rfl
  by_cases h4:k=4
  ·cases b
   ·exact absurd ⟨.inr h4,rfl⟩ hno
   ·exact .inr rfl
  exact .inl (zd ⟨by simpa using h3,by simpa using h4⟩)
 clear hno
 go_enter Tryz.func48,Tryz.ntmps48
 go_upto_region 1 with fail
 refine wp_forget (fun w'=>Hid (ExAt w' w.heap.size x v∧LtAt w' (w.heap.size+1) ⟨k,f,c,t,b⟩∧w'.heap[w.heap.size+1+1]?=some (.cells ((zeX []).arr (.slice none 0 0)) 33 (0,0))∧Ext w w')) (zd (three_new zR)) ?_
 intro W1 H1
 have q2:=zQ H1.out.2.1
 have l2:w.heap.size+1<W1.heap.size:=zL H1.out.2.1
 rcases hc with hc|rfl
 ·have h3:=hc.out.1
  have h4:=hc.out.2
  go_wp2_with (first|((with_reducible refine wpList_load_rowG ?_ 33 (.tmp 3) ?_ w.heap.size ?_ 33 (Ex.arr x v) (0,0) _ ?_ zu33 ?_ ?_ ?_);(·rfl);(·rfl);(·rfl);(·exact H1.out.1);(·rfl);(·exact info_ex))|(refine wpList_store_row rfl 33 _ _ rfl (w.heap.size+1+1) _ rfl rfl 33 _ H1.out.2.2.1 info_ex rfl (arr_one _ HVV.out) ?_))
  refine bodyPost_ret (results_cell_row rfl _ _ (w.heap.size+1+1) 33 (Ex.arr _ v) (0,0) _ rfl (setRow_heap _ _ _ _ _ _ H1.out.2.2.1) zu33 rfl info_ex) rfl ?_
  exact ⟨_,rfl,.inr ⟨rfl,rfl⟩,H1.out.2.2.2.setRow (by omega) _⟩
 by_cases h3:(k != 3)=true
 ·by_cases h4:(k != 4)=true
  ·go_wp2_with (first|((with_reducible refine wpList_load_rowG ?_ 33 (.tmp 3) ?_ w.heap.size ?_ 33 (Ex.arr x v) (0,0) _ ?_ zu33 ?_ ?_ ?_);(·rfl);(·rfl);(·rfl);(·exact H1.out.1);(·rfl);(·exact info_ex))|(refine wpList_store_row rfl 33 _ _ rfl (w.heap.size+1+1) _ rfl rfl 33 _ H1.out.2.2.1 info_ex rfl (arr_one _ HVV.out) ?_))
   refine bodyPost_ret (results_cell_row rfl _ _ (w.heap.size+1+1) 33 (Ex.arr _ v) (0,0) _ rfl (setRow_heap _ _ _ _ _ _ H1.out.2.2.1) zu33 rfl info_ex) rfl ?_
   exact ⟨_,rfl,.inr ⟨rfl,rfl⟩,H1.out.2.2.2.setRow (by omega) _⟩
  ·go_wp2_with (first|((with_reducible refine wpList_load_rowG ?_ 33 (.tmp 3) ?_ w.heap.size ?_ 33 (Ex.arr x v) (0,0) _ ?_ zu33 ?_ ?_ ?_);(·rfl);(·rfl);(·rfl);(·exact H1.out.1);(·rfl);(·exact info_ex))|(refine wpList_store_row rfl 33 _ _ rfl (w.heap.size+1+1) _ rfl rfl 33 _ H1.out.2.2.1 info_ex rfl (arr_one _ HVV.out) ?_))
   refine bodyPost_ret (results_cell_row rfl _ _ (w.heap.size+1+1) 33 (Ex.arr _ v) (0,0) _ rfl (setRow_heap _ _ _ _ _ _ H1.out.2.2.1) zu33 rfl info_ex) rfl ?_
   exact ⟨_,rfl,.inr ⟨rfl,rfl⟩,H1.out.2.2.2.setRow (by omega) _⟩
 ·go_wp2_with (first|((with_reducible refine wpList_load_rowG ?_ 33 (.tmp 3) ?_ w.heap.size ?_ 33 (Ex.arr x v) (0,0) _ ?_ zu33 ?_ ?_ ?_);(·rfl);(·rfl);(·rfl);(·exact H1.out.1);(·rfl);(·exact info_ex))|(refine wpList_store_row rfl 33 _ _ rfl (w.heap.size+1+1) _ rfl rfl 33 _ H1.out.2.2.1 info_ex rfl (arr_one _ HVV.out) ?_))
  refine bodyPost_ret (results_cell_row rfl _ _ (w.heap.size+1+1) 33 (Ex.arr _ v) (0,0) _ rfl (setRow_heap _ _ _ _ _ _ H1.out.2.2.1) zu33 rfl info_ex) rfl ?_
  exact ⟨_,rfl,.inr ⟨rfl,rfl⟩,H1.out.2.2.2.setRow (by omega) _⟩
theorem rv_saysL (V:Vd) (w:World):Calls Tryz.prog 68 #[.agg #[.int .u64 V.c,.int .i64 V.k,.string V.t]] w fun e w'=>e = .returned (.tuple #[.agg #[.int .i64 ((saysS V).getD l0).k,.int .i64 ((saysS V).getD l0).f,.int .u64 ((saysS V).getD l0).c,.string ((saysS V).getD l0).t,.bool ((saysS V).getD l0).b],.bool (saysS V).isSome])∧Ext w w':=rv_says V.c V.k V.t w
theorem rx_asks1 (x y:Ex) (v:Value) (l:Lt) (lost:Bool) (w:World) (hR:Hrd w x v) (hv:v = .slice none 0 0∨∃ a n c,v = .slice (some a) n c) (hn:x.h.length≤100000) (hk:l.k=3∨l.k=4) (hb:l.b=false) (hy:y = { x with v:=askV x l }) :
 Calls Tryz.prog 48 #[.agg (x.arr v),.agg #[.int .i64 l.k,.int .i64 l.f,.int .u64 l.c,.string l.t,.bool l.b],.bool lost] w (HearsP w { y with h:=hearS x.h lost (tellS x.c y.v) }):=by
 obtain ⟨k,f,c,t,b⟩:=l
 simp only at hk hb ⊢
 subst hb
 have HRY:Hid (Hrd w y v):=zd (by unfold Hrd;rw [hy];exact hR)
 have HVV:=zd hv
 have hyc:y.c=x.c:=by rw [hy]
 have hyh:y.h=x.h:=by rw [hy]
 have hnY:y.h.length≤100000:=by rw [hyh];exact hn
 have hsy:=rv_saysL y.v
 have hone:v.oneCell'=true:=by rcases hv with h|⟨_,_,_,h⟩<;>(rw [h];rfl)
 clear hR hv
 obtain ⟨ll,hll⟩ : ∃ ll,tellS x.c y.v=ll:=⟨_,rfl⟩
 rw [show hearS x.h lost (tellS x.c y.v)=hearsS y.h lost [ll] by rw [hll,hyh];rfl]
 have HP:Hid (x.v.k=0∧x.full=false∧y = { x with v:=if k=4 then ⟨x.c,2,t⟩ else ⟨x.c,1,{ data:=#[] }⟩ })∨(Hid ((x.v.k == 0)=false)∧Hid (y=x))∨(Hid (x.v.k=0∧x.full=true)∧Hid (y=x)):=by
  unfold askV at hy
  simp only [and_true] at hy
  by_cases h0:x.v.k=0
  ·cases hf:x.full
   ·rw [if_pos ⟨h0,hf⟩] at hy
    exact .inl (zd ⟨h0,rfl,by rw [hy,hf]⟩)
   ·rw [if_neg (by rw [hf];simp)] at hy
    exact .inr (.inr ⟨zd ⟨h0,rfl⟩,zd hy⟩)
  ·rw [if_neg (fun h=>h0 h.1)] at hy
   exact .inr (.inl ⟨zd (by simpa using h0),zd hy⟩)
 have HLL:Hid (saysS y.v=some ll∨(saysS y.v=none∧ll=⟨7,0,y.c,{ data:=#[] },false⟩)):=zd (by
  unfold tellS at hll
  rcases hs:saysS y.v with _|z
  ·rw [hs] at hll;exact .inr ⟨rfl,by rw [hyc];exact hll.symm⟩
  ·rw [hs] at hll;exact .inl (by rw [←hll];rfl))
 have HSY:=zd hsy
 clear hll hyc hyh hy hsy hn
 go_enter Tryz.func48,Tryz.ntmps48
 go_upto_region 1 with fail
 refine wp_forget (fun w'=>Hid (ExAt w' w.heap.size x v∧LtAt w' (w.heap.size+1) ⟨k,f,c,t,false⟩∧w'.heap[w.heap.size+1+1]?=some (.cells ((zeX []).arr (.slice none 0 0)) 33 (0,0))∧Ext w w')) (zd (three_new zR)) ?_
 intro W1 H1
 have q2:=zQ H1.out.2.1
 have l2:w.heap.size+1<W1.heap.size:=zL H1.out.2.1
 have q20:W1.cell? ⟨w.heap.size,20,none⟩=some (.int .i64 x.v.k):=zQ H1.out.1 20
 have q24:W1.cell? ⟨w.heap.size,24,none⟩=some (.bool x.full):=zQ H1.out.1 24
 have q00:W1.cell? ⟨w.heap.size,0,none⟩=some (.int .u64 x.c):=zQ H1.out.1 0
 have l1:w.heap.size<W1.heap.size:=zL H1.out.1
 rcases HP with HP|⟨HP,HY⟩|⟨HP,HY⟩
 case inl=>
  have hp:=HP.out.1
  have hf:=HP.out.2.1
  have HY0:=zd HP.out.2.2
  clear HP
  rcases hk with rfl|rfl
  all_goals
   go_upto_region 5 with ((with_reducible refine wpList_store_mid ?_ 29 (.tmp 34) (.tmp 33) ?_ w.heap.size 19 #[.int .u64 x.c,.int .i64 1,.string { data:=#[] }] ?_ ?_ ?_ ?_ ?_ ?_);(·rfl);(·rfl);(·rfl);(·rfl);(·exact there_row H1.out.1 (by exact Nat.le_of_ble_eq_true rfl));(·exact info_vdA);(·simp [Value.oneCell']))
   refine wp_forget (fun w'=>Hid (ExAt w' w.heap.size { x with v:=⟨x.c,1,{ data:=#[] }⟩ } v)∧Hid (w'.heap[w.heap.size+1+1]?=some (.cells ((zeX []).arr (.slice none 0 0)) 33 (0,0)))∧Hid (LtAt w' (w.heap.size+1) ⟨_,f,c,t,false⟩)∧Hid (Ext w w')) ⟨zd (by have:=puts_row (Vd.csL ⟨x.c,1,{ data:=#[] }⟩) _ w.heap.size 19 _ H1.out.1;rw [put_v] at this;exact this),zd ((puts_other _ _ _ (by omega)).trans H1.out.2.2.1),zd ((puts_other _ _ _ (by omega)).trans H1.out.2.1),zd (Ext.setCells zN _ _ H1.out.2.2.2)⟩ ?_
   rintro W2 ⟨HB1,HZ1,HL1,HE1⟩
   clear q2 l2 q20 q24 q00 l1 H1 hp hf
   have q2:=zQ HL1.out
   have l2:w.heap.size+1<W2.heap.size:=zL HL1.out
   have q00:W2.cell? ⟨w.heap.size,0,none⟩=some (.int .u64 x.c):=zQ HB1.out 0
   have l1:w.heap.size<W2.heap.size:=zL HB1.out
  ·go_upto_region 7 with fail
   have HY:Hid (y = { x with v:=⟨x.c,1,{ data:=#[] }⟩ }):=zd (by have:=HY0.out;simpa using this)
   have HB:Hid (ExAt W2 w.heap.size y v):=zd (by rw [HY.out];exact HB1.out)
   have HZ:=HZ1
   have HE:=HE1
   clear q2 l2 q00 l1 HY0 HB1 HZ1 HE1
   have q0:=(zQ HB.out 0).trans (show (y.arr v)[0]?=some (.int .u64 y.c) from rfl)
   have l9:=zL HB.out
   rcases HLL.out with hs|⟨hs,hl⟩
   all_goals
    have hsy:=HSY.out
    rw [hs] at hsy
    have HSX:=zd hsy
    clear hsy hs
    try have hl2:=zd hl
    try clear hl
    go_upto_region 10 with (first|((with_reducible refine wpList_load_midG 29 (.tmp 45) ?_ w.heap.size 19 ?_ ?_ [.int .u64 y.v.c,.int .i64 y.v.k,.string y.v.t] _ ?_ zu29 ?_ ?_ ?_);(·rfl);(·rfl);(·kernel_rfl);(·exact range_of_row HB.out 19 3 _ rfl);(·rfl);(·exact info_vdA))|(go_at_call 68;refine (HSX.out _).mono ?_;rintro en w3 ⟨rfl,hx3⟩;have E3:=zd (HE.out.trans hx3);have B3:=zd (heap_ext HB.out hx3);have R3:=zd (heap_ext HZ.out hx3);have p0:=cell_keep q0 hx3;have l3:=zU l9 hx3.size;clear hx3 q0 l9))
    refine wp_forget (fun w'=>∃ g7,Hid (g7=w3.heap.size)∧Hid (LtAt w' g7 ll)∧Hid (Ext w3 w')) ⟨_,zd rfl,zd (by first|exact heap_new rfl|(rw [hl2.out];exact heap_new rfl)),zd (zR.alloc _)⟩ ?_
    rintro W5 ⟨g7,hg7,H7,E5⟩
    rw [←hg7.out]
    clear hg7 p0 l3
    have q7:=zQ H7.out
    have l7:g7<W5.heap.size:=zL H7.out
    have B5:=zd (heap_ext B3.out E5.out)
    have R5:=zd (heap_ext R3.out E5.out)
    have E6:=zd (E3.out.trans E5.out)
    have HC:=fun w' (hw:Ext (W5.alloc (.cells #[.int .i64 ll.k,.int .i64 ll.f,.int .u64 ll.c,.string ll.t,.bool ll.b] 24)) w')=>rx_hears y v (.slice (some ⟨W5.heap.size,0,none⟩) 1 1) [ll] lost w' (Row.ext HRY.out ((E6.out.alloc _).trans hw)) HVV.out (Row.of_own (own_ext (own_new (size:=5) (n:=1) (e:=24) (xs:=ll.cs) (Ext.refl W5) rfl (by decide) rfl rfl) hw)) hnY (by simp)
    have HCC:=zd HC
    clear HC
    go_wp2_with (first|((with_reducible refine wpList_load_rowG ?_ 33 (.tmp 3) ?_ w.heap.size ?_ 33 (y.arr v) (0,0) _ ?_ zu33 ?_ ?_ ?_);(·rfl);(·rfl);(·rfl);(·exact B5.out);(·rfl);(·exact info_ex))|(go_at_call 77;refine (HCC.out _ zR).mono ?_;rintro en w8 ⟨v8,rfl,ho8,hx8⟩;have HO8:=zd ho8;have HX8:=zd hx8;have R8:=zd (heap_ext R5.out (((Ext.refl W5).alloc _).trans hx8));have HV8:=zd ho8.one;clear ho8 hx8)|(refine wpList_store_row rfl 33 _ _ rfl (w.heap.size+1+1) _ rfl rfl 33 _ R8.out info_ex rfl (arr_one _ HV8.out) ?_))
    refine bodyPost_ret (results_cell_row rfl _ _ (w.heap.size+1+1) 33 (Ex.arr _ v8) (0,0) _ rfl (setRow_heap _ _ _ _ _ _ R8.out) zu33 rfl info_ex) rfl ?_
    have hle:w.heap.size+1+1<(W5.alloc (.cells #[.int .i64 ll.k,.int .i64 ll.f,.int .u64 ll.c,.string ll.t,.bool ll.b] 24)).heap.size:=zU (zL R5.out) ((Ext.refl W5).alloc _).size
    exact ⟨_,rfl,own_base (own_at HO8.out fun k hk=>setRow_other _ _ _ _ (by have:=row_loZ HO8.out _ hk;omega)) (by omega),((E6.out.alloc _).trans HX8.out).setRow (by omega) _⟩
  ·go_upto_region 7 with ((with_reducible refine wpList_store_mid ?_ 29 (.tmp 43) (.tmp 42) ?_ w.heap.size 19 #[.int .u64 x.c,.int .i64 2,.string t] ?_ ?_ ?_ ?_ ?_ ?_);(·rfl);(·rfl);(·rfl);(·rfl);(·exact there_row HB1.out (by exact Nat.le_of_ble_eq_true rfl));(·exact info_vdA);(·simp [Value.oneCell']))
   have HY:Hid (y = { x with v:=⟨x.c,2,t⟩ }):=zd (by have:=HY0.out;simpa using this)
   refine wp_forget (fun w'=>Hid (ExAt w' w.heap.size y v)∧Hid (w'.heap[w.heap.size+1+1]?=some (.cells ((zeX []).arr (.slice none 0 0)) 33 (0,0)))∧Hid (Ext w w')) ⟨zd (by have:=puts_row (Vd.csL ⟨x.c,2,t⟩) _ w.heap.size 19 _ HB1.out;rw [put_v] at this;rw [HY.out];exact this),zd ((puts_other _ _ _ (by omega)).trans HZ1.out),zd (Ext.setCells zN _ _ HE1.out)⟩ ?_
   rintro W3 ⟨HB,HZ,HE⟩
   clear q2 l2 q00 l1 HY0 HB1 HZ1 HE1 HL1
   have q0:=(zQ HB.out 0).trans (show (y.arr v)[0]?=some (.int .u64 y.c) from rfl)
   have l9:=zL HB.out
   rcases HLL.out with hs|⟨hs,hl⟩
   all_goals
    have hsy:=HSY.out
    rw [hs] at hsy
    have HSX:=zd hsy
    clear hsy hs
    try have hl2:=zd hl
    try clear hl
    go_upto_region 10 with (first|((with_reducible refine wpList_load_midG 29 (.tmp 45) ?_ w.heap.size 19 ?_ ?_ [.int .u64 y.v.c,.int .i64 y.v.k,.string y.v.t] _ ?_ zu29 ?_ ?_ ?_);(·rfl);(·rfl);(·kernel_rfl);(·exact range_of_row HB.out 19 3 _ rfl);(·rfl);(·exact info_vdA))|(go_at_call 68;refine (HSX.out _).mono ?_;rintro en w3 ⟨rfl,hx3⟩;have E3:=zd (HE.out.trans hx3);have B3:=zd (heap_ext HB.out hx3);have R3:=zd (heap_ext HZ.out hx3);have p0:=cell_keep q0 hx3;have l3:=zU l9 hx3.size;clear hx3 q0 l9))
    refine wp_forget (fun w'=>∃ g7,Hid (g7=w3.heap.size)∧Hid (LtAt w' g7 ll)∧Hid (Ext w3 w')) ⟨_,zd rfl,zd (by first|exact heap_new rfl|(rw [hl2.out];exact heap_new rfl)),zd (zR.alloc _)⟩ ?_
    rintro W5 ⟨g7,hg7,H7,E5⟩
    rw [←hg7.out]
    clear hg7 p0 l3
    have q7:=zQ H7.out
    have l7:g7<W5.heap.size:=zL H7.out
    have B5:=zd (heap_ext B3.out E5.out)
    have R5:=zd (heap_ext R3.out E5.out)
    have E6:=zd (E3.out.trans E5.out)
    have HC:=fun w' (hw:Ext (W5.alloc (.cells #[.int .i64 ll.k,.int .i64 ll.f,.int .u64 ll.c,.string ll.t,.bool ll.b] 24)) w')=>rx_hears y v (.slice (some ⟨W5.heap.size,0,none⟩) 1 1) [ll] lost w' (Row.ext HRY.out ((E6.out.alloc _).trans hw)) HVV.out (Row.of_own (own_ext (own_new (size:=5) (n:=1) (e:=24) (xs:=ll.cs) (Ext.refl W5) rfl (by decide) rfl rfl) hw)) hnY (by simp)
    have HCC:=zd HC
    clear HC
    go_wp2_with (first|((with_reducible refine wpList_load_rowG ?_ 33 (.tmp 3) ?_ w.heap.size ?_ 33 (y.arr v) (0,0) _ ?_ zu33 ?_ ?_ ?_);(·rfl);(·rfl);(·rfl);(·exact B5.out);(·rfl);(·exact info_ex))|(go_at_call 77;refine (HCC.out _ zR).mono ?_;rintro en w8 ⟨v8,rfl,ho8,hx8⟩;have HO8:=zd ho8;have HX8:=zd hx8;have R8:=zd (heap_ext R5.out (((Ext.refl W5).alloc _).trans hx8));have HV8:=zd ho8.one;clear ho8 hx8)|(refine wpList_store_row rfl 33 _ _ rfl (w.heap.size+1+1) _ rfl rfl 33 _ R8.out info_ex rfl (arr_one _ HV8.out) ?_))
    refine bodyPost_ret (results_cell_row rfl _ _ (w.heap.size+1+1) 33 (Ex.arr _ v8) (0,0) _ rfl (setRow_heap _ _ _ _ _ _ R8.out) zu33 rfl info_ex) rfl ?_
    have hle:w.heap.size+1+1<(W5.alloc (.cells #[.int .i64 ll.k,.int .i64 ll.f,.int .u64 ll.c,.string ll.t,.bool ll.b] 24)).heap.size:=zU (zL R5.out) ((Ext.refl W5).alloc _).size
    exact ⟨_,rfl,own_base (own_at HO8.out fun k hk=>setRow_other _ _ _ _ (by have:=row_loZ HO8.out _ hk;omega)) (by omega),((E6.out.alloc _).trans HX8.out).setRow (by omega) _⟩
 case inr.inl=>
  have hp:=HP.out
  rcases hk with rfl|rfl
  all_goals
   go_upto_region 7 with fail
   have HB:Hid (ExAt W1 w.heap.size y v):=zd (by rw [HY.out];exact H1.out.1)
   have HZ:=zd H1.out.2.2.1
   have HE:=zd H1.out.2.2.2
   clear q2 l2 q20 q24 q00 l1 H1
   have q0:=(zQ HB.out 0).trans (show (y.arr v)[0]?=some (.int .u64 y.c) from rfl)
   have l9:=zL HB.out
   rcases HLL.out with hs|⟨hs,hl⟩
   all_goals
    have hsy:=HSY.out
    rw [hs] at hsy
    have HSX:=zd hsy
    clear hsy hs
    try have hl2:=zd hl
    try clear hl
    go_upto_region 10 with (first|((with_reducible refine wpList_load_midG 29 (.tmp 45) ?_ w.heap.size 19 ?_ ?_ [.int .u64 y.v.c,.int .i64 y.v.k,.string y.v.t] _ ?_ zu29 ?_ ?_ ?_);(·rfl);(·rfl);(·kernel_rfl);(·exact range_of_row HB.out 19 3 _ rfl);(·rfl);(·exact info_vdA))|(go_at_call 68;refine (HSX.out _).mono ?_;rintro en w3 ⟨rfl,hx3⟩;have E3:=zd (HE.out.trans hx3);have B3:=zd (heap_ext HB.out hx3);have R3:=zd (heap_ext HZ.out hx3);have p0:=cell_keep q0 hx3;have l3:=zU l9 hx3.size;clear hx3 q0 l9))
    refine wp_forget (fun w'=>∃ g7,Hid (g7=w3.heap.size)∧Hid (LtAt w' g7 ll)∧Hid (Ext w3 w')) ⟨_,zd rfl,zd (by first|exact heap_new rfl|(rw [hl2.out];exact heap_new rfl)),zd (zR.alloc _)⟩ ?_
    rintro W5 ⟨g7,hg7,H7,E5⟩
    rw [←hg7.out]
    clear hg7 p0 l3
    have q7:=zQ H7.out
    have l7:g7<W5.heap.size:=zL H7.out
    have B5:=zd (heap_ext B3.out E5.out)
    have R5:=zd (heap_ext R3.out E5.out)
    have E6:=zd (E3.out.trans E5.out)
    have HC:=fun w' (hw:Ext (W5.alloc (.cells #[.int .i64 ll.k,.int .i64 ll.f,.int .u64 ll.c,.string ll.t,.bool ll.b] 24)) w')=>rx_hears y v (.slice (some ⟨W5.heap.size,0,none⟩) 1 1) [ll] lost w' (Row.ext HRY.out ((E6.out.alloc _).trans hw)) HVV.out (Row.of_own (own_ext (own_new (size:=5) (n:=1) (e:=24) (xs:=ll.cs) (Ext.refl W5) rfl (by decide) rfl rfl) hw)) hnY (by simp)
    have HCC:=zd HC
    clear HC
    go_wp2_with (first|((with_reducible refine wpList_load_rowG ?_ 33 (.tmp 3) ?_ w.heap.size ?_ 33 (y.arr v) (0,0) _ ?_ zu33 ?_ ?_ ?_);(·rfl);(·rfl);(·rfl);(·exact B5.out);(·rfl);(·exact info_ex))|(go_at_call 77;refine (HCC.out _ zR).mono ?_;rintro en w8 ⟨v8,rfl,ho8,hx8⟩;have HO8:=zd ho8;have HX8:=zd hx8;have R8:=zd (heap_ext R5.out (((Ext.refl W5).alloc _).trans hx8));have HV8:=zd ho8.one;clear ho8 hx8)|(refine wpList_store_row rfl 33 _ _ rfl (w.heap.size+1+1) _ rfl rfl 33 _ R8.out info_ex rfl (arr_one _ HV8.out) ?_))
    refine bodyPost_ret (results_cell_row rfl _ _ (w.heap.size+1+1) 33 (Ex.arr _ v8) (0,0) _ rfl (setRow_heap _ _ _ _ _ _ R8.out) zu33 rfl info_ex) rfl ?_
    have hle:w.heap.size+1+1<(W5.alloc (.cells #[.int .i64 ll.k,.int .i64 ll.f,.int .u64 ll.c,.string ll.t,.bool ll.b] 24)).heap.size:=zU (zL R5.out) ((Ext.refl W5).alloc _).size
    exact ⟨_,rfl,own_base (own_at HO8.out fun k hk=>setRow_other _ _ _ _ (by have:=row_loZ HO8.out _ hk;omega)) (by omega),((E6.out.alloc _).trans HX8.out).setRow (by omega) _⟩
 case inr.inr=>
  have hp:=HP.out.1
  have hf:=HP.out.2
  rcases hk with rfl|rfl
  all_goals
   go_upto_region 7 with fail
   have HB:Hid (ExAt W1 w.heap.size y v):=zd (by rw [HY.out];exact H1.out.1)
   have HZ:=zd H1.out.2.2.1
   have HE:=zd H1.out.2.2.2
   clear q2 l2 q20 q24 q00 l1 H1
   have q0:=(zQ HB.out 0).trans (show (y.arr v)[0]?=some (.int .u64 y.c) from rfl)
   have l9:=zL HB.out
   rcases HLL.out with hs|⟨hs,hl⟩
   all_goals
    have hsy:=HSY.out
    rw [hs] at hsy
    have HSX:=zd hsy
    clear hsy hs
    try have hl2:=zd hl
    try clear hl
    go_upto_region 10 with (first|((with_reducible refine wpList_load_midG 29 (.tmp 45) ?_ w.heap.size 19 ?_ ?_ [.int .u64 y.v.c,.int .i64 y.v.k,.string y.v.t] _ ?_ zu29 ?_ ?_ ?_);(·rfl);(·rfl);(·kernel_rfl);(·exact range_of_row HB.out 19 3 _ rfl);(·rfl);(·exact info_vdA))|(go_at_call 68;refine (HSX.out _).mono ?_;rintro en w3 ⟨rfl,hx3⟩;have E3:=zd (HE.out.trans hx3);have B3:=zd (heap_ext HB.out hx3);have R3:=zd (heap_ext HZ.out hx3);have p0:=cell_keep q0 hx3;have l3:=zU l9 hx3.size;clear hx3 q0 l9))
    refine wp_forget (fun w'=>∃ g7,Hid (g7=w3.heap.size)∧Hid (LtAt w' g7 ll)∧Hid (Ext w3 w')) ⟨_,zd rfl,zd (by first|exact heap_new rfl|(rw [hl2.out];exact heap_new rfl)),zd (zR.alloc _)⟩ ?_
    rintro W5 ⟨g7,hg7,H7,E5⟩
    rw [←hg7.out]
    clear hg7 p0 l3
    have q7:=zQ H7.out
    have l7:g7<W5.heap.size:=zL H7.out
    have B5:=zd (heap_ext B3.out E5.out)
    have R5:=zd (heap_ext R3.out E5.out)
    have E6:=zd (E3.out.trans E5.out)
    have HC:=fun w' (hw:Ext (W5.alloc (.cells #[.int .i64 ll.k,.int .i64 ll.f,.int .u64 ll.c,.string ll.t,.bool ll.b] 24)) w')=>rx_hears y v (.slice (some ⟨W5.heap.size,0,none⟩) 1 1) [ll] lost w' (Row.ext HRY.out ((E6.out.alloc _).trans hw)) HVV.out (Row.of_own (own_ext (own_new (size:=5) (n:=1) (e:=24) (xs:=ll.cs) (Ext.refl W5) rfl (by decide) rfl rfl) hw)) hnY (by simp)
    have HCC:=zd HC
    clear HC
    go_wp2_with (first|((with_reducible refine wpList_load_rowG ?_ 33 (.tmp 3) ?_ w.heap.size ?_ 33 (y.arr v) (0,0) _ ?_ zu33 ?_ ?_ ?_);(·rfl);(·rfl);(·rfl);(·exact B5.out);(·rfl);(·exact info_ex))|(go_at_call 77;refine (HCC.out _ zR).mono ?_;rintro en w8 ⟨v8,rfl,ho8,hx8⟩;have HO8:=zd ho8;have HX8:=zd hx8;have R8:=zd (heap_ext R5.out (((Ext.refl W5).alloc _).trans hx8));have HV8:=zd ho8.one;clear ho8 hx8)|(refine wpList_store_row rfl 33 _ _ rfl (w.heap.size+1+1) _ rfl rfl 33 _ R8.out info_ex rfl (arr_one _ HV8.out) ?_))
    refine bodyPost_ret (results_cell_row rfl _ _ (w.heap.size+1+1) 33 (Ex.arr _ v8) (0,0) _ rfl (setRow_heap _ _ _ _ _ _ R8.out) zu33 rfl info_ex) rfl ?_
    have hle:w.heap.size+1+1<(W5.alloc (.cells #[.int .i64 ll.k,.int .i64 ll.f,.int .u64 ll.c,.string ll.t,.bool ll.b] 24)).heap.size:=zU (zL R5.out) ((Ext.refl W5).alloc _).size
    exact ⟨_,rfl,own_base (own_at HO8.out fun k hk=>setRow_other _ _ _ _ (by have:=row_loZ HO8.out _ hk;omega)) (by omega),((E6.out.alloc _).trans HX8.out).setRow (by omega) _⟩
end Go.Proofs.YtlnmhocehgmbbaaGreatDoor

/- No condition. -/
import Derived.Test.YtlnmhocehgmbbaaGreatDoorSL34
set_option linter.all false
set_option maxRecDepth 100000
set_option maxHeartbeats 6400000
namespace Go.Proofs.YtlnmhocehgmbbaaGreatDoor
open Go.RowKit
attribute [local go_sem ↓] eql_lEq eql_sEq eql_eEq eql_oEq neq_lEq neq_sEq neq_eEq neq_oEq eql_vEq neq_vEq eql_nil eql_mEq
attribute [local go_sem] ExtOf.cell ExtOf.frozen ExtOf.lt ExtOf.le
attribute [local go_sem high] ExtOf.cell2 ExtOf.frozen2 ExtOf.lt2 ExtOf.cell3 ExtOf.frozen3 ExtOf.lt3
section
variable {P:Program} {md:Region.Mode} {ops:Array Oper}
theorem wpAnyT_allocs3 {t n i1 i2 i3:Nat} {o1 o2 o3:Oper} {C:World→Prop} {Q:Exit→Act→World→Prop} {l L3:Array Bool} {a:Act} {w:World} (t1 t2 t3:TypeId) (z1 z2 z3:Array Value) (d1 d2 d3:Tmp) (h12:d1≠d2) (h13:d1≠d3) (h23:d2≠d3)
 (hr:Region.ready md ops l=[i1,i2,i3])
 (r1:Region.ready md ops (l.setIfInBounds i1 true)=[i2,i3]) (r2:Region.ready md ops (l.setIfInBounds i2 true)=[i1,i3]) (r3:Region.ready md ops (l.setIfInBounds i3 true)=[i1,i2])
 (r12:Region.ready md ops ((l.setIfInBounds i1 true).setIfInBounds i2 true)=[i3]) (r13:Region.ready md ops ((l.setIfInBounds i1 true).setIfInBounds i3 true)=[i2])
 (r21:Region.ready md ops ((l.setIfInBounds i2 true).setIfInBounds i1 true)=[i3]) (r23:Region.ready md ops ((l.setIfInBounds i2 true).setIfInBounds i3 true)=[i1])
 (r31:Region.ready md ops ((l.setIfInBounds i3 true).setIfInBounds i1 true)=[i2]) (r32:Region.ready md ops ((l.setIfInBounds i3 true).setIfInBounds i2 true)=[i1])
 (l1:((l.setIfInBounds i1 true).setIfInBounds i2 true).setIfInBounds i3 true=L3) (l1':((l.setIfInBounds i1 true).setIfInBounds i3 true).setIfInBounds i2 true=L3)
 (l2:((l.setIfInBounds i2 true).setIfInBounds i1 true).setIfInBounds i3 true=L3) (l2':((l.setIfInBounds i2 true).setIfInBounds i3 true).setIfInBounds i1 true=L3)
 (l3:((l.setIfInBounds i3 true).setIfInBounds i1 true).setIfInBounds i2 true=L3) (l3':((l.setIfInBounds i3 true).setIfInBounds i2 true).setIfInBounds i1 true=L3)
 (ho1:ops[i1]?=some o1) (ho2:ops[i2]?=some o2) (ho3:ops[i3]?=some o3) (hg1:o1.guard=none) (hg2:o2.guard=none) (hg3:o3.guard=none) (hd1:o1.dst=some d1) (hd2:o2.dst=some d2) (hd3:o3.dst=some d3)
 (e1 : ∀ (a:Act) (w:World),(execOp a.eval o1).run P w = .ok (.value (.pointer (some ⟨w.heap.size,0,none⟩))) (w.alloc (.cells z1 t1)))
 (e2 : ∀ (a:Act) (w:World),(execOp a.eval o2).run P w = .ok (.value (.pointer (some ⟨w.heap.size,0,none⟩))) (w.alloc (.cells z2 t2)))
 (e3 : ∀ (a:Act) (w:World),(execOp a.eval o3).run P w = .ok (.value (.pointer (some ⟨w.heap.size,0,none⟩))) (w.alloc (.cells z3 t3)))
 (hC : ∀ w',Ext w w'→C w')
 (h : ∀ g1 g2 g3 w',w.heap.size≤g1→w.heap.size≤g2→w.heap.size≤g3→g1≠g2→g1≠g3→g2≠g3→w'.heap[g1]?=some (.cells z1 t1 (0,0))→w'.heap[g2]?=some (.cells z2 t2 (0,0))→w'.heap[g3]?=some (.cells z3 t3 (0,0))→Ext w w'→
   wpAnyT P md ops t C Q n L3 (((a.put (some d1) (.pointer (some ⟨g1,0,none⟩))).put (some d2) (.pointer (some ⟨g2,0,none⟩))).put (some d3) (.pointer (some ⟨g3,0,none⟩))) w'):wpAnyT P md ops t C Q (n+3) l a w:=by
 intro wx hwx
 refine ⟨fun h=>absurd (hr.symm.trans h) (by simp),fun j hj=>?_⟩
 rw [hr] at hj
 have fst : ∀ {w1 w2:World} {z:Array Value} {ty:TypeId} {g:Nat},Ext w w1→(w1.alloc (.cells z ty)).heap.size≤g→w.heap.size≤w1.heap.size∧w.heap.size≤g∧w1.heap.size≠g:=fun e hg=>by
  have:=e.size
  simp at hg
  omega
 rcases List.mem_cons.1 hj with rfl|hj
 ·refine wpOp_of_list ho1 (wpList_alloc1 hg1 e1 ⟨fun _=>hC _ (hwx.alloc _),?_⟩)
  refine wpAnyT_allocs t2 t3 z2 z3 d2 d3 h23 r1 r12 r13 l1 l1' ho2 ho3 hg2 hg3 hd2 hd3 e2 e3 (fun w' e=>hC _ ((hwx.alloc _).trans e)) ?_
  intro g2 g3 w' a2 a3 hne k2 k3 e
  rw [hd1]
  have f2:=fst (w2:=w') hwx a2
  have f3:=fst (w2:=w') hwx a3
  exact h _ g2 g3 w' f2.1 f2.2.1 f3.2.1 f2.2.2 f3.2.2 hne (heap_ext (heap_new rfl) e) k2 k3 ((hwx.alloc _).trans e)
 rcases List.mem_cons.1 hj with rfl|hj
 ·refine wpOp_of_list ho2 (wpList_alloc1 hg2 e2 ⟨fun _=>hC _ (hwx.alloc _),?_⟩)
  refine wpAnyT_allocs t1 t3 z1 z3 d1 d3 h13 r2 r21 r23 l2 l2' ho1 ho3 hg1 hg3 hd1 hd3 e1 e3 (fun w' e=>hC _ ((hwx.alloc _).trans e)) ?_
  intro g1 g3 w' a1 a3 hne k1 k3 e
  rw [hd2,put_comm a d2 d1 _ _ (Ne.symm h12)]
  have f1:=fst (w2:=w') hwx a1
  have f3:=fst (w2:=w') hwx a3
  exact h g1 _ g3 w' f1.2.1 f1.1 f3.2.1 (Ne.symm f1.2.2) hne f3.2.2 k1 (heap_ext (heap_new rfl) e) k3 ((hwx.alloc _).trans e)
 ·rw [List.mem_singleton] at hj
  subst hj
  refine wpOp_of_list ho3 (wpList_alloc1 hg3 e3 ⟨fun _=>hC _ (hwx.alloc _),?_⟩)
  refine wpAnyT_allocs t1 t2 z1 z2 d1 d2 h12 r3 r31 r32 l3 l3' ho1 ho2 hg1 hg2 hd1 hd2 e1 e2 (fun w' e=>hC _ ((hwx.alloc _).trans e)) ?_
  intro g1 g2 w' a1 a2 hne k1 k2 e
  rw [hd3,put_comm a d3 d1 _ _ (Ne.symm h13),put_comm _ d3 d2 _ _ (Ne.symm h23)]
  have f1:=fst (w2:=w') hwx a1
  have f2:=fst (w2:=w') hwx a2
  exact h g1 g2 _ w' f1.2.1 f2.2.1 f1.1 hne (Ne.symm f1.2.2) (Ne.symm f2.2.2) k1 k2 (heap_ext (heap_new rfl) e) ((hwx.alloc _).trans e)
end
def seA (x:Ex) (v:Value) (r:Rg) (tv:Value) (q:Wi) (mv:Value):Array Value:=((x.arr v).toList++((r.arr tv).toList++(q.arr.toList++([mv]:List Value)))).toArray
theorem se_range {w:World} {g:Nat} {x:Ex} {v:Value} {r:Rg} {tv:Value} {q:Wi} {mv:Value} (h:w.heap[g]?=some (.cells (seA x v r tv q mv) 64 (0,0))) :
 w.rangeAt g 0 (x.arr v).toList∧w.rangeAt g 26 (r.arr tv).toList∧w.rangeAt g 30 q.arr.toList∧w.cell? ⟨g,35,none⟩=some mv∧g<w.heap.size:=
 ⟨range_of_row h 0 26 _ rfl,range_of_row h 26 4 _ rfl,range_of_row h 30 5 _ rfl,zQ h 35,(zL h)⟩
theorem info_rgA (r:Rg) (tv:Value):(Tryz.prog.info? 36).map (·.size)=some (r.arr tv).size:=by
 rw [show (r.arr tv).size=4 from rfl]
 kernel_rfl
def wiZ:Array Value:=#[.int .i64 0,.int .i64 0,.int .i64 0,.int .i64 0,.int .i64 0]
theorem wi_one (q:Wi):q.arr.all (·.oneCell')=true:=by simp [Wi.arr,Value.oneCell']
theorem own_nil_or' {w:World} {B n:Nat} {e:TypeId} {size:Nat} {xs:List Value} {v:Value} (o:w.ownsRow B e size v n xs):v = .slice none 0 0∨∃ a n c,v = .slice (some a) n c:=by
 rcases o.2 with ⟨hv,_⟩|⟨g,cap,cur,hv,_⟩
 ·exact .inl hv
 ·exact .inr ⟨_,_,_,hv⟩
theorem moves_ok {evs:St→List Ev} {x:Ex} {r:Rg} {m:Mv} (h:m∈movesR evs x r):(stepX x m).2=true:=by
 unfold movesR at h
 obtain ⟨c,_,hz⟩:=mem_moves.1 (List.mem_filter.1 h).1
 rcases hz with ⟨rfl,he⟩|⟨_,rfl,he⟩
 ·exact he.1
 ·exact he.1
structure ZAt (w0 w:World) (g:Nat) (z:Ex) (v:Value):Prop where
 hx:ExAt w g z v
 hr:Hrd w z v
 hv:v = .slice none 0 0∨∃ a n c,v = .slice (some a) n c
 e:Ext w0 w
theorem ZAt.ext {w0 w w':World} {g:Nat} {z:Ex} {v:Value} (h:ZAt w0 w g z v) (e:Ext w w'):ZAt w0 w' g z v:=⟨h.hx.ext e,h.hr.ext e,h.hv,h.e.trans e⟩
theorem zat_end {w8 wy w7 Wb Wf:World} {gz B:Nat} {z z2:Ex} {vz vz2:Value} (h:ZAt w8 wy gz z vz) (e5:Ext wy Wb) (e57:Ext w7 Wb) (ho:Own w7 B z2.h vz2) (hg:w8.heap.size≤gz) (ef:Ext (Wb.setRow gz (z2.arr vz2)) Wf):ZAt w8 Wf gz z2 vz2:=
 ⟨heap_ext (setRow_heap _ _ _ (z2.arr vz2) _ _ (heap_ext h.hx e5)) ef,Row.of_own (own_ext (own_setRow (own_ext ho e57) (heap_ext h.hx e5) (by decide) _) ef),own_nil_or' ho,((h.e.trans e5).setRow hg _).trans ef⟩
theorem any_next2 {L:List Mv} {k:Nat} {z m:Mv} (h:L[k]?=some z):decide (m∈L.take (k+1))=(decide (m∈L.take k) || decide (z=m)):=by
 rw [List.take_add_one,h]
 simp only [Option.toList_some,List.mem_append,List.mem_singleton,Bool.decide_or,eq_comm]
theorem lw_short (x:Ex) (v:Value) (r:Rg) (tv:Value) (q:Wi) (l:List Mv) (mv:Value) (w:World) (hR:Hrd w x v) (hv:v = .slice none 0 0∨∃ a n c,v = .slice (some a) n c) (hT:Row w 1 tv r.t.length (r.t.map Value.string)) (htv:tv = .slice none 0 0∨∃ a n c,tv = .slice (some a) n c) (hM:Row w 9 mv l.length (l.flatMap Mv.cs)) (hx:RngX x) (htab:TabW w) :
 Calls Tryz.prog 5 #[.agg (seA x v r tv q mv)] w fun e w'=>e = .returned (.bool true)∧Ext w w':=by
 have HR:=zd hR
 have HVV:=zd hv
 have HT:=zd hT
 have HTV:=zd htv
 have HX:=zd hx
 have HTAB:=zd htab
 have hv1:v.oneCell'=true:=by rcases hv with h|⟨_,_,_,h⟩<;>(rw [h];rfl)
 have htv1:tv.oneCell'=true:=by rcases htv with h|⟨_,_,_,h⟩<;>(rw [h];rfl)
 have HV1:=zd hv1
 have HTV1:=zd htv1
 obtain ⟨ma,mc,rfl,hml,hmw⟩:=row_view hM
 have HMW:=zd hmw
 unfold maxLen at hml
 clear hR hv hT htv hx htab hv1 htv1 hM hmw
 go_enter Tryz.func5,Tryz.ntmps5
 go_upto_region 1 with fail
 refine wp_forget (fun w'=>∃ gs,Hid (gs=w.heap.size)∧Hid (w'.heap[gs]?=some (.cells (seA x v r tv q (.slice ma l.length mc)) 64 (0,0)))∧Hid (Ext w w')) ⟨_,zd rfl,zd (one_new zR).1,zd (one_new zR).2⟩ ?_
 rintro W1 ⟨gs,hgs,HS1,HE1⟩
 rw [←hgs.out]
 clear hgs
 refine wp_region_mixR (af:=?af) [true,true,true,true,true,true,true,true,false,false,false,false,false,false,false] 120 #[true,true,true,true,true,true,true,true,false,false,false,false,false,false,false] (fun w'=>Ext W1 w') (by kernel_rfl) rfl (by kernel_rfl) (fun _ _ h e=>Ext.trans h e) zR.drew ?q ?r
 case q=>
  intro w' hw'
  obtain ⟨k1,k2,k3,k4,k5⟩:=se_range (heap_ext HS1.out hw')
  have K1:=zd k1
  have K2:=zd k2
  have K3:=zd k3
  clear k1 k2 k3
  simp only [pickT,if_true,if_false,Bool.false_eq_true]
  go_big_quiet_step (fail)
  (go_big_quiet_want;refine quiet_load_midA 33 _ rfl gs (0) rfl (x.arr v) (.struct _) K1.out zu33 rfl info_ex ?_;go_big_quiet_on;simp only [Act.put,List.setIfInBounds_toArray,List.set_cons_succ,List.set_cons_zero])
  go_big_quiet_step (fail)
  (go_big_quiet_want;refine quiet_load_midA 36 _ rfl gs (26) rfl (r.arr tv) (.struct _) K2.out zu36 rfl (info_rgA r _) ?_;go_big_quiet_on;simp only [Act.put,List.setIfInBounds_toArray,List.set_cons_succ,List.set_cons_zero])
  go_big_quiet_step (fail)
  (go_big_quiet_want;refine quiet_load_midA 62 _ rfl gs (30) rfl q.arr (.struct _) K3.out zu62 rfl (info_wish q) ?_;go_big_quiet_on;simp only [Act.put,List.setIfInBounds_toArray,List.set_cons_succ,List.set_cons_zero])
  repeat (go_big_quiet_step (fail))
  refine wpQuiet_nil ?_
  exact rfl
 case r=>
  refine wpAnyT_allocs3 (i1:=8) (i2:=9) (i3:=10) (L3:=#[true,true,true,true,true,true,true,true,true,true,true,false,false,false,false]) 33 36 62 exZ rgZ wiZ 3 4 5 (by decide) (by decide) (by decide) (by kernel_rfl) (by kernel_rfl) (by kernel_rfl) (by kernel_rfl) (by kernel_rfl) (by kernel_rfl) (by kernel_rfl) (by kernel_rfl) (by kernel_rfl) (by kernel_rfl) rfl rfl rfl rfl rfl rfl rfl rfl rfl rfl rfl rfl rfl rfl rfl (fun a w=>by simp [go_sem,exZ]) (fun a w=>by simp [go_sem,rgZ]) (fun a w=>by simp [go_sem,wiZ]) (fun w' e=>(Ext.refl W1).drew.trans e) ?_
  intro gx gr gw w2 l1 l2 l3 n12 n13 n23 hx2 hr2 hw2 x2
  have x2':Ext W1 w2:=(Ext.refl W1).drew.trans x2
  have l1':W1.heap.size≤gx:=l1
  have l2':W1.heap.size≤gr:=l2
  have l3':W1.heap.size≤gw:=l3
  simp only [Act.put,List.setIfInBounds_toArray,List.set_cons_succ,List.set_cons_zero]
  refine wpAnyT_one (i:=11) (by kernel_rfl) rfl ?_
  intro x3
  go_wp2_with (refine wpList_store_row rfl 33 _ _ rfl gx _ rfl rfl 33 _ (heap_ext hx2 x3.ext) info_ex rfl (arr_one x HV1.out) ?_)
  have e3:=(x2'.trans x3.ext).setRow l1' (x.arr v)
  refine ⟨fun _=>e3,?_⟩
  refine wpAnyT_one (i:=12) (by kernel_rfl) rfl ?_
  intro x4
  go_wp2_with (refine wpList_store_row rfl 36 _ _ rfl gr _ rfl rfl 36 _ (heap_ext ((setRow_other _ _ _ _ (Ne.symm n12)).trans (heap_ext hr2 x3.ext)) x4.ext) info_range rfl (rg_one r HTV1.out) ?_)
  have e4:=(e3.trans x4.ext).setRow l2' (r.arr tv)
  refine ⟨fun _=>e4,?_⟩
  have k1:=(setRow_other x4.val gr gx (r.arr tv) n12).trans (heap_ext (setRow_heap _ _ _ (x.arr v) _ _ (heap_ext hx2 x3.ext)) x4.ext)
  have k2:=setRow_heap _ _ _ (r.arr tv) _ _ (heap_ext ((setRow_other _ _ _ (x.arr v) (Ne.symm n12)).trans (heap_ext hr2 x3.ext)) x4.ext)
  have k3:=(setRow_other x4.val gr gw (r.arr tv) (Ne.symm n23)).trans (heap_ext ((setRow_other x3.val gx gw (x.arr v) (Ne.symm n13)).trans (heap_ext hw2 x3.ext)) x4.ext)
  generalize x4.val.setRow gr (r.arr tv)=W4 at e4 k1 k2 k3 ⊢
  clear x4 e3 x3 hx2 hr2 hw2 x2 x2' l1 l2 l3 w2
  refine wpAnyT_one (i:=13) (by kernel_rfl) rfl ?_
  intro x5
  go_wp2_with (refine wpList_store_row rfl 62 _ _ rfl gw _ rfl rfl 62 _ (heap_ext k3 x5.ext) (info_wish q) rfl (wi_one q) ?_)
  have e5:=(e4.trans x5.ext).setRow l3' q.arr
  refine ⟨fun _=>e5,?_⟩
  replace k1:=(setRow_other x5.val gw gx q.arr n13).trans (heap_ext k1 x5.ext)
  replace k2:=(setRow_other x5.val gw gr q.arr n23).trans (heap_ext k2 x5.ext)
  replace k3:=setRow_heap _ _ _ q.arr _ _ (heap_ext k3 x5.ext)
  generalize x5.val.setRow gw q.arr=W5 at e5 k1 k2 k3 ⊢
  refine wpAnyT_one (i:=14) (by kernel_rfl) rfl ?_
  intro x6
  go_wp2_with fail
  refine ⟨fun h=>absurd h (by decide),?_⟩
  refine wpAnyT_end (by kernel_rfl) fun x7=>?_
  have HXA:Hid (ExAt x7.val gx x v):=zd (heap_ext (heap_ext k1 x6.ext) x7.ext)
  have HRA:Hid (RgAt x7.val gr r tv):=zd (heap_ext (heap_ext k2 x6.ext) x7.ext)
  have HWA:Hid (x7.val.heap[gw]?=some (.cells q.arr 62 (0,0))):=zd (heap_ext (heap_ext k3 x6.ext) x7.ext)
  have HE2:Hid (Ext w x7.val):=zd (HE1.out.trans ((e5.trans x6.ext).trans x7.ext))
  generalize x7.val=W2 at HXA HRA HWA HE2 ⊢
  clear x7 x6 e5 x5 k1 k2 k3 e4 W4 W5 l1' l2' l3' n12 n13 n23 HS1 HE1
  have HLG:=zd (lw_largeX x v r tv W2 (HR.out.ext HE2.out) (HT.out.ext HE2.out))
  go_wp2_with (first|((with_reducible refine wpList_load_rowG ?_ 33 (.tmp 3) ?_ gx ?_ 33 (x.arr v) (0,0) _ ?_ zu33 ?_ ?_ ?_);(·rfl);(·rfl);(·rfl);(·exact HXA.out);(·rfl);(·exact info_ex))|((with_reducible refine wpList_load_rowG ?_ 36 (.tmp 4) ?_ gr ?_ 36 (r.arr tv) (0,0) _ ?_ zu36 ?_ ?_ ?_);(·rfl);(·rfl);(·rfl);(·exact HRA.out);(·rfl);(·exact info_range)))
  refine HLG.out.mono ?_
  rintro e w4 ⟨b,rfl,hb,hx4⟩
  have HE4:Hid (Ext w w4):=zd (HE2.out.trans hx4)
  have HX4:=zd hx4
  clear hx4 HLG
  rcases b
  case true=>
   clear hb
   go_wp2_with fail
   refine (lw_live _ (HTAB.out.ext HE4.out)).mono ?_
   rintro e w9 ⟨rfl,hx9⟩
   go_wp2_with fail
   go_ret
   exact ⟨rfl,HE4.out.trans hx9⟩
  obtain ⟨hxl,hrt,hrm⟩:=hb rfl
  clear hb
  by_cases hl60:(60:Int)<(l.length:Int)
  case pos=>
   go_wp2_with fail
   refine (lw_live _ (HTAB.out.ext HE4.out)).mono ?_
   rintro e w9 ⟨rfl,hx9⟩
   go_wp2_with fail
   go_ret
   exact ⟨rfl,HE4.out.trans hx9⟩
  have HOWN:=zd (lw_own x v r tv w4 (HR.out.ext HE4.out) HVV.out (by omega) (HT.out.ext HE4.out) HTV.out (by omega))
  go_upto_region 5 with (first|((with_reducible refine wpList_load_rowG ?_ 33 (.tmp 3) ?_ gx ?_ 33 (x.arr v) (0,0) _ ?_ zu33 ?_ ?_ ?_);(·rfl);(·rfl);(·rfl);(·exact (HXA.out.ext HX4.out));(·rfl);(·exact info_ex))|((with_reducible refine wpList_load_rowG ?_ 36 (.tmp 4) ?_ gr ?_ 36 (r.arr tv) (0,0) _ ?_ zu36 ?_ ?_ ?_);(·rfl);(·rfl);(·rfl);(·exact (HRA.out.ext HX4.out));(·rfl);(·exact info_range))|(go_at_call 10;refine HOWN.out.mono ?_;rintro e w5 ⟨v1,tv1,rfl,ho,ht,hx5⟩;have HO:=zd ho;have HT1:=zd ht;have HX5:=zd hx5;have hone:v1.oneCell'=true:=(by obtain ⟨sa,sn,hsv⟩:=own_sl ho;rw [hsv];rfl);have htone:tv1.oneCell'=true:=(by obtain ⟨sa,sn,hsv⟩:=own_sl ht;rw [hsv];rfl);clear ho ht hx5)|(refine wpList_store_row rfl 33 _ _ rfl w5.heap.size _ rfl rfl 33 _ (heap_ext (heap_new rfl) (zR.alloc _)) info_ex rfl (arr_one x hone) ?_)|(refine wpList_store_row rfl 36 _ _ rfl (w5.heap.size+1) _ rfl rfl 36 _ ((setRow_other _ _ _ _ (by omega)).trans (heap_new (by simp))) info_range rfl (rg_one r htone) ?_))
  have hsz5:w4.heap.size≤w5.heap.size:=HX5.out.size
  refine wp_forget (fun w'=>∃ g7 g8,Hid (g7=w5.heap.size)∧Hid (g8=w5.heap.size+1)∧Hid (ExAt w' g7 x v1)∧Hid (RgAt w' g8 r tv1)∧Hid (Ext w5 w')) ⟨_,_,zd rfl,zd rfl,zd ((setRow_other _ _ _ _ (by omega)).trans (setRow_heap _ _ _ (x.arr v1) _ _ (heap_ext (heap_new rfl) (zR.alloc _)))),zd (setRow_heap _ _ _ (r.arr tv1) _ _ ((setRow_other _ _ _ _ (by omega)).trans (heap_new (by simp)))),zd (((((Ext.refl w5).alloc _).alloc _).setRow (by omega) _).setRow (by omega) _)⟩ ?_
  rintro W6 ⟨g7,g8,e7,e8,HX7,HR8,HE6⟩
  rw [←e8.out,←e7.out]
  clear e7 e8 hsz5 hone htone
  have HEW6:Hid (Ext w W6):=zd (HE4.out.trans (HX5.out.trans HE6.out))
  have HG6:Hid (Ext W2 W6):=zd (HX4.out.trans (HX5.out.trans HE6.out))
  have HXA6:Hid (ExAt W6 gx x v):=zd (HXA.out.ext HG6.out)
  have HRA6:Hid (RgAt W6 gr r tv):=zd (HRA.out.ext HG6.out)
  have HWA6:Hid (W6.heap[gw]?=some (.cells q.arr 62 (0,0))):=zd (heap_ext HWA.out HG6.out)
  have HO6:=zd (HO.out.ext HE6.out)
  have HWY:=zd (ex_way (meetS q) q x v1 _ r tv1 W6 (fun gq w' hw hq=>ask_meet (meetS q) q w' (meet_meets w') gq hq) HO6.out (by omega) (Row.of_own (own_ext HT1.out HE6.out)) (by omega) (by omega) HX.out (HTAB.out.ext HEW6.out))
  have HLAW:=zd (way_law q r x)
  have hwl:=way_len q r x (by omega)
  generalize hwy:goG (mostR r) (meetS q) (movesR evsS · r) x=G at HWY HLAW hwl
  clear hwy
  go_upto_region 6 with (first|((with_reducible refine wpList_load_rowG ?_ 33 (.tmp 7) ?_ g7 ?_ 33 (x.arr v1) (0,0) _ ?_ zu33 ?_ ?_ ?_);(·rfl);(·rfl);(·rfl);(·exact HX7.out);(·rfl);(·exact info_ex))|((with_reducible refine wpList_load_rowG ?_ 36 (.tmp 8) ?_ g8 ?_ 36 (r.arr tv1) (0,0) _ ?_ zu36 ?_ ?_ ?_);(·rfl);(·rfl);(·rfl);(·exact HR8.out);(·rfl);(·exact info_range))|((with_reducible refine wpList_load_rowG ?_ 62 (.tmp 5) ?_ gw ?_ 62 q.arr (0,0) _ ?_ zu62 ?_ ?_ ?_);(·rfl);(·rfl);(·rfl);(·exact HWA6.out);(·rfl);(·exact (info_wish q)))|(go_at_call 19;refine HWY.out.mono ?_;rintro e w7 ⟨gv,rfl,ho7,hx7⟩;obtain ⟨S,hS⟩ : ∃ S,wayS G=S:=⟨_,rfl⟩;rw [hS] at ho7 ⊢;have HLAW2:=HLAW.out;rw [hS] at HLAW2 hwl;obtain ⟨ga,gc,rfl⟩:=own_sl ho7;have HO7:=zd ho7;have HX7':=zd hx7;have HLW:=zd HLAW2;clear ho7 hx7 HLAW2 HWY HLAW hS))
  have HEW7:Hid (Ext w w7):=zd (HEW6.out.trans HX7'.out)
  rcases HLW.out with ⟨h1,h2⟩|⟨h1,y,hrep,hmt,hsh⟩
  ·have h1':(S.2 != 0)=true:=by simpa using h1
   have h2':((S.1.length:Int) == 0)=true:=by rw [h2];rfl
   go_wp2_with fail
   refine (lw_live _ (HTAB.out.ext HEW7.out)).mono ?_
   rintro e w9 ⟨rfl,hx9⟩
   go_wp2_with fail
   go_ret
   exact ⟨rfl,HEW7.out.trans hx9⟩
  have h1':(S.2 != 0)=false:=by rw [h1];rfl
  have hne:((S.1.length:Int) != (S.1.length:Int))=false:=by simp
  have hrp:=ex_replay (meetS q) q x v1 _ S.1 (.slice ga S.1.length gc) w7 (meet_meets w7) (HO6.out.ext HX7'.out) (by have:=(zL HX7.out);have:=HX7'.out.size;have:=HE6.out.size;have:=HX5.out.size;omega) (by omega) (by omega) (Row.of_own HO7.out)
  rw [hrep] at hrp
  dsimp only at hrp
  rw [hmt] at hrp
  have HRP:=zd hrp
  have HSH:Hid (∀ (l:List Mv) (z:Ex),Goes (movesR evsS · r) x l z→l.length<S.1.length→meetS q z=false):=zd fun l z h k=>hsh h k
  clear hrp hrep hmt hsh h1 HLW
  go_upto_region 11 with (first|((with_reducible refine wpList_load_rowG ?_ 33 (.tmp 7) ?_ g7 ?_ 33 (x.arr v1) (0,0) _ ?_ zu33 ?_ ?_ ?_);(·rfl);(·rfl);(·rfl);(·exact (HX7.out.ext HX7'.out));(·rfl);(·exact info_ex))|((with_reducible refine wpList_load_rowG ?_ 62 (.tmp 5) ?_ gw ?_ 62 q.arr (0,0) _ ?_ zu62 ?_ ?_ ?_);(·rfl);(·rfl);(·rfl);(·exact (heap_ext HWA6.out HX7'.out));(·rfl);(·exact (info_wish q)))|(go_at_call 21;refine HRP.out.mono ?_;rintro e w8 ⟨rfl,hx8⟩))
  have HX8:=zd (HX7'.out.trans hx8)
  have HXA8:=zd (HXA6.out.ext HX8.out)
  clear hx8
  go_upto_region 12 with (first|((with_reducible refine wpList_load_rowG ?_ 33 (.tmp 3) ?_ gx ?_ 33 (x.arr v) (0,0) _ ?_ zu33 ?_ ?_ ?_);(·rfl);(·rfl);(·rfl);(·exact HXA8.out);(·rfl);(·exact info_ex))|(refine wpList_store_row rfl 33 _ _ rfl w8.heap.size _ rfl rfl 33 _ (heap_new rfl) info_ex rfl (arr_one x HV1.out) ?_))
  refine wp_forget (fun w'=>∃ gz,Hid (gz=w8.heap.size)∧Hid (ZAt w8 w' gz x v)) ⟨_,zd rfl,zd ⟨setRow_heap _ _ _ (x.arr v) _ _ (heap_new rfl),HR.out.ext ((HEW6.out.trans HX8.out).trans (((Ext.refl w8).alloc _).setRow zN _)),HVV.out,((Ext.refl w8).alloc _).setRow zN _⟩⟩ ?_
  rintro W9 ⟨gz,egz,HZ9⟩
  rw [←egz.out]
  have HGZ:Hid (w8.heap.size≤gz):=zd (by have:=egz.out;omega)
  have HEW8:Hid (Ext w w8):=zd (HEW6.out.trans HX8.out)
  have HRA8:=zd (HRA6.out.ext HX8.out)
  have HWA8:=zd (heap_ext HWA6.out HX8.out)
  clear egz HXA8 HXA6 HRA6 HWA6 HO7 HRP HO6 HX7 HR8 HXA HRA HWA HO HT1 HOWN HG6 HE6 HX5 HX4 HE4 HE2 HEW7 HX7' HX8 HEW6 h1' hne
  go_upto_region 13 with fail
  go_loopg [14] l.length (fun g ii wr=>∃ (i:Nat) (z:Ex) (vz:Value),ii = .int .i64 (i:Int)∧i+g=l.length∧i≤S.1.length∧z.h.length≤20+i∧Hid (ZAt w8 wr gz z vz)∧Hid (Goes (movesR evsS · r) x (l.take i) z))
  case atStart=>exact ⟨0,x,v,rfl,by omega,Nat.zero_le _,by omega,HZ9,zd (by simpa using Goes.nil x)⟩
  case round=>
   clear HZ9
   obtain ⟨i,z,vz,rfl,hg,his,hzl,HZ,HGO⟩:=hrel
   rename World=>Wr
   have HEWr:Hid (Ext w Wr):=zd (HEW8.out.trans HZ.out.e)
   by_cases hi1:i<l.length
   case neg=>
    have hi1' : ¬(i:Int)<(l.length:Int):=by omega
    go_wp2_with fail
    refine (lw_live _ (HTAB.out.ext HEWr.out)).mono ?_
    rintro e w9 ⟨rfl,hx9⟩
    go_wp2_with fail
    go_ret
    exact ⟨rfl,HEWr.out.trans hx9⟩
   have hi1':(i:Int)<(l.length:Int):=by omega
   by_cases hi2:i<S.1.length
   case neg=>
    have hi2' : ¬(i:Int)<(S.1.length:Int):=by omega
    go_wp2_with fail
    refine (lw_live _ (HTAB.out.ext HEWr.out)).mono ?_
    rintro e w9 ⟨rfl,hx9⟩
    go_wp2_with fail
    go_ret
    exact ⟨rfl,HEWr.out.trans hx9⟩
   have hi2':(i:Int)<(S.1.length:Int):=by omega
   have hmf:=HSH.out _ z HGO.out (by rw [List.length_take];omega)
   have hmc:=ex_meets z vz q Wr HZ.out.hr (by omega)
   rw [hmf] at hmc
   have HMC:=zd hmc
   clear hmc hmf
   go_upto_region 17 with (first|((with_reducible refine wpList_load_rowG ?_ 33 (.tmp 13) ?_ gz ?_ 33 (z.arr vz) (0,0) _ ?_ zu33 ?_ ?_ ?_);(·rfl);(·rfl);(·rfl);(·exact HZ.out.hx);(·rfl);(·exact info_ex))|((with_reducible refine wpList_load_rowG ?_ 62 (.tmp 5) ?_ gw ?_ 62 q.arr (0,0) _ ?_ zu62 ?_ ?_ ?_);(·rfl);(·rfl);(·rfl);(·exact (heap_ext HWA8.out HZ.out.e));(·rfl);(·exact (info_wish q)))|(go_at_call 23;refine HMC.out.mono ?_;rintro e wa ⟨rfl,hxa⟩))
   have HZa:=zd (HZ.out.ext hxa)
   clear hxa HZ HMC
   have HMV:=zd (rr_moves z vz r tv wa HZa.out.hr HZa.out.hv (by omega) (HT.out.ext (HEW8.out.trans HZa.out.e)) (by omega))
   have hml2:(movesR evsS z r).length≤10000:=by
    have h1:=movesS_len z r.t (by omega)
    rw [movesR_eq]
    exact zT (List.length_filter_le _ _) h1
   obtain ⟨C,hC⟩ : ∃ C,movesR evsS z r=C:=⟨_,rfl⟩
   rw [hC] at HMV hml2
   have HC:=zd hC
   clear hC
   go_upto_region 19 with (first|((with_reducible refine wpList_load_rowG ?_ 33 (.tmp 13) ?_ gz ?_ 33 (z.arr vz) (0,0) _ ?_ zu33 ?_ ?_ ?_);(·rfl);(·rfl);(·rfl);(·exact HZa.out.hx);(·rfl);(·exact info_ex))|((with_reducible refine wpList_load_rowG ?_ 36 (.tmp 4) ?_ gr ?_ 36 (r.arr tv) (0,0) _ ?_ zu36 ?_ ?_ ?_);(·rfl);(·rfl);(·rfl);(·exact (HRA8.out.ext HZa.out.e));(·rfl);(·exact info_range))|(go_at_call 15;refine HMV.out.mono ?_;rintro e wb ⟨cv,rfl,hob,hxb⟩;obtain ⟨ca,cc,rfl,hcm,hcw⟩:=row_view (Row.of_own hob);have HCW:=zd hcw;have HXb:=zd hxb;unfold maxLen at hcm;clear hob hxb hcw))
   have HZb:=zd (HZa.out.ext HXb.out)
   clear HZa HMV HXb HEWr
   obtain ⟨m,hm⟩ : ∃ m,l[i]?=some m:=⟨_,zG hi1⟩
   obtain ⟨gm,om,rfl,hgm,hmcell⟩:=HMW.out (by omega)
   have hgm:=hgm (by omega)
   have HMC:=zd (fun w' (hw:Ext w w')=>mv_cells (fun j u hj=>cell_keep (hmcell j u hj) hw) hm)
   have HGM:=zd hgm
   have HMM:=zd hm
   clear hmcell hgm hm
   refine wp_forget (fun w'=>wb=w') rfl ?_
   rintro _ rfl
   have HEb:Hid (Ext w wb):=zd (HEW8.out.trans HZb.out.e)
   go_upto_region 20 with fail
   go_loopg [15,17] C.length (fun g bb kk wr=>∃ (k:Nat) (y:ExtOf wb),bb = .bool (decide (m∈C.take k))∧kk = .int .i64 (k:Int)∧k+g=C.length∧wr=y.val)
   case atStart=>exact ⟨0,⟨wb,zR⟩,by simp,rfl,by omega,rfl⟩
   case round=>
    obtain ⟨k,y,rfl,rfl,hgk,rfl⟩:=hrel
    by_cases hk:k<C.length
    case pos=>
     have hk':(k:Int)<(C.length:Int):=by omega
     obtain ⟨c,hc⟩ : ∃ c,C[k]?=some c:=⟨_,zG hk⟩
     obtain ⟨gc2,oc,rfl,hgc2,hccell⟩:=HCW.out (by omega)
     have hgc2:=hgc2 (by omega)
     have hnx:=any_next2 (m:=m) hc
     obtain ⟨q0,q1,q2,q3,q4,q5,q6,q7,q8⟩:=mv_cells hccell hc
     obtain ⟨p0,p1,p2,p3,p4,p5,p6,p7,p8⟩:=HMC.out wb HEb.out
     have lgm:=zU HGM.out HEb.out.size
     generalize hb:decide (m∈C.take k)=b at hnx
     clear hccell hc hb
     rcases b
     case true=>
      have HNX:Hid (decide (m∈C.take (k+1))=true):=zd (by rw [hnx];rfl)
      clear hnx
      go_upto_region 22 with fail
      refine wp_region_ext (by kernel_rfl) (by kernel_rfl) ?_
      repeat (go_big_quiet_step (fail))
      refine wpQuiet_nil ?_
      rintro _ ⟨u,rfl⟩
      go_wp2_with fail
      go_roundg (gk - 1)
      case rel=>exact ⟨k+1,⟨_,y.ext.val u⟩,by rw [HNX.out],rfl,by omega,rfl⟩
      case measure=>omega
     case false=>
      by_cases he:c=m
      ·have he':mEq c.k c.who c.t c.l.k c.l.f c.l.c c.l.t c.l.b c.lost m.k m.who m.t m.l.k m.l.f m.l.c m.l.t m.l.b m.lost=true:=by rw [mEq_mv];simpa using he
       have HNX:Hid (decide (m∈C.take (k+1))=true):=zd (by rw [hnx,decide_eq_true he];rfl)
       clear hnx he
       go_upto_region 22 with fail
       refine wp_region_ext (by kernel_rfl) (by kernel_rfl) ?_
       repeat (go_big_quiet_step (fail))
       refine wpQuiet_nil ?_
       rintro _ ⟨u,rfl⟩
       go_wp2_with fail
       go_roundg (gk - 1)
       case rel=>exact ⟨k+1,⟨_,y.ext.val u⟩,by rw [HNX.out],rfl,by omega,rfl⟩
       case measure=>omega
      ·have he':mEq c.k c.who c.t c.l.k c.l.f c.l.c c.l.t c.l.b c.lost m.k m.who m.t m.l.k m.l.f m.l.c m.l.t m.l.b m.lost=false:=by rw [mEq_mv];simpa using he
       have HNX:Hid (decide (m∈C.take (k+1))=false):=zd (by rw [hnx,decide_eq_false he];rfl)
       clear hnx he
       go_upto_region 22 with fail
       refine wp_region_ext (by kernel_rfl) (by kernel_rfl) ?_
       repeat (go_big_quiet_step (fail))
       refine wpQuiet_nil ?_
       rintro _ ⟨u,rfl⟩
       go_wp2_with fail
       go_roundg (gk - 1)
       case rel=>exact ⟨k+1,⟨_,y.ext.val u⟩,by rw [HNX.out],rfl,by omega,rfl⟩
       case measure=>omega
    have hk' : ¬(k:Int)<(C.length:Int):=by omega
    rw [List.take_of_length_le (by omega)]
    have HZy:=zd (HZb.out.ext y.ext)
    have HEy:Hid (Ext w y.val):=zd (HEb.out.trans y.ext)
    rcases hin:decide (m∈C)
    case false=>
     go_wp2_with fail
     refine (lw_live _ (HTAB.out.ext HEy.out)).mono ?_
     rintro e w9 ⟨rfl,hx9⟩
     go_wp2_with fail
     go_ret
     exact ⟨rfl,HEy.out.trans hx9⟩
    have HIN:=zd (of_decide_eq_true hin)
    clear hin
    have hst:=fun w' (hw:Ext y.val w')=>rx_step z vz m w' (HZy.out.hr.ext hw) HZy.out.hv (by omega)
    have hsl:=step_len z m
    obtain ⟨sr,hsr⟩ : ∃ sr,stepX z m=sr:=⟨_,rfl⟩
    rw [hsr] at hst hsl
    obtain ⟨z2,ok⟩:=sr
    simp only at hst hsl
    have HST:=zd hst
    have HSR:=zd hsr
    clear hst hsr
    go_upto_region 24 with fail
    refine wp_region_mixR (af:=?af24) [true,true,true,true,true,false,false,false,false,false] 120 #[true,true,true,true,true,false,false,false,false,false] (Ext y.val) (by kernel_rfl) rfl (by kernel_rfl) (fun _ _ h e=>Ext.trans h e) zR.drew ?q24 ?r24
    case q24=>
     intro w' hw'
     obtain ⟨p0,p1,p2,p3,p4,p5,p6,p7,p8⟩:=HMC.out w' (HEy.out.trans hw')
     have lgm:=zU HGM.out (HEy.out.trans hw').size
     simp only [pickT,if_true,if_false,Bool.false_eq_true]
     (go_big_quiet_want;refine quiet_load_rowX 33 _ rfl _ rfl _ _ (0,0) _ (HZy.out.hx.ext hw') zu33 rfl info_ex ?_;go_big_quiet_on;simp only [Act.put,List.setIfInBounds_toArray,List.set_cons_succ,List.set_cons_zero])
     repeat (go_big_quiet_step (fail))
     refine wpQuiet_nil ?_
     exact rfl
    case r24=>
     refine wpAnyT_one (i:=5) (by kernel_rfl) rfl ?_
     intro x1
     go_wp2_with fail
     refine (HST.out _ ((Ext.refl y.val).drew.val x1)).mono ?_
     rintro e w7 ⟨vz2,rfl,hoz,hx7⟩
     have hz1:vz2.oneCell'=true:=by obtain ⟨sa,sn,hsv⟩:=own_sl hoz;rw [hsv];rfl
     have e7:Ext y.val w7:=((Ext.refl y.val).drew.val x1).trans hx7
     go_wp2_with fail
     refine ⟨fun _=>e7,?_⟩
     refine wpAnyT_one (i:=6) (by kernel_rfl) rfl ?_
     intro x2
     go_wp2_with fail
     refine ⟨fun _=>e7.val x2,?_⟩
     refine wpAnyT_two (i:=7) (i2:=8) (by kernel_rfl) rfl rfl ?_ ?_
     ·intro x3
      go_wp2_with fail
      refine ⟨fun _=>(e7.val x2).val x3,?_⟩
      refine wpAnyT_two (i:=8) (i2:=9) (by kernel_rfl) rfl rfl ?_ ?_
      ·intro x4
       go_wp2_with fail
       refine ⟨fun _=>((e7.val x2).val x3).val x4,?_⟩
       refine wpAnyT_one (i:=9) (by kernel_rfl) rfl ?_
       intro x5
       have eS:=(((e7.val x2).val x3).val x4).val x5
       go_wp2_with (refine wpList_store_row rfl 33 _ _ rfl gz _ rfl rfl 33 _ (heap_ext HZy.out.hx eS) info_ex rfl (arr_one z2 hz1) ?_)
       refine ⟨fun h=>absurd h (by decide),?_⟩
       refine wpAnyT_end (by kernel_rfl) fun x9=>?_
       have HZ2:=zd (zat_end HZy.out eS (((x2.ext.trans x3.ext).trans x4.ext).trans x5.ext) hoz HGZ.out (x9.ext))
       generalize x9.val=W12 at HZ2 ⊢
       go_wp2_with fail
       go_roundg (l.length - (i+1))
       case rel=>
        refine ⟨i+1,z2,vz2,by simp,by omega,by omega,by omega,HZ2,zd ?_⟩
        rw [List.take_add_one,HMM.out]
        have hmem:m∈movesR evsS z r:=by rw [HC.out];exact HIN.out
        have h3:=HGO.out.snoc hmem (moves_ok hmem)
        rw [HSR.out] at h3
        exact h3
       case measure=>omega
      ·intro x5
       have eS:=((e7.val x2).val x3).val x5
       go_wp2_with (refine wpList_store_row rfl 33 _ _ rfl gz _ rfl rfl 33 _ (heap_ext HZy.out.hx eS) info_ex rfl (arr_one z2 hz1) ?_)
       refine ⟨fun h=>absurd h (by decide),?_⟩
       refine wpAnyT_one (i:=8) (by kernel_rfl) rfl ?_
       intro x4
       go_wp2_with fail
       refine ⟨fun h=>absurd h (by decide),?_⟩
       refine wpAnyT_end (by kernel_rfl) fun x9=>?_
       have HZ2:=zd (zat_end HZy.out eS ((x2.ext.trans x3.ext).trans x5.ext) hoz HGZ.out (x4.ext.trans x9.ext))
       generalize x9.val=W12 at HZ2 ⊢
       go_wp2_with fail
       go_roundg (l.length - (i+1))
       case rel=>
        refine ⟨i+1,z2,vz2,by simp,by omega,by omega,by omega,HZ2,zd ?_⟩
        rw [List.take_add_one,HMM.out]
        have hmem:m∈movesR evsS z r:=by rw [HC.out];exact HIN.out
        have h3:=HGO.out.snoc hmem (moves_ok hmem)
        rw [HSR.out] at h3
        exact h3
       case measure=>omega
     ·intro x3
      go_wp2_with fail
      refine ⟨fun _=>(e7.val x2).val x3,?_⟩
      refine wpAnyT_one (i:=7) (by kernel_rfl) rfl ?_
      intro x4
      go_wp2_with fail
      refine ⟨fun _=>((e7.val x2).val x3).val x4,?_⟩
      refine wpAnyT_one (i:=9) (by kernel_rfl) rfl ?_
      intro x5
      have eS:=(((e7.val x2).val x3).val x4).val x5
      go_wp2_with (refine wpList_store_row rfl 33 _ _ rfl gz _ rfl rfl 33 _ (heap_ext HZy.out.hx eS) info_ex rfl (arr_one z2 hz1) ?_)
      refine ⟨fun h=>absurd h (by decide),?_⟩
      refine wpAnyT_end (by kernel_rfl) fun x9=>?_
      have HZ2:=zd (zat_end HZy.out eS (((x2.ext.trans x3.ext).trans x4.ext).trans x5.ext) hoz HGZ.out (x9.ext))
      generalize x9.val=W12 at HZ2 ⊢
      go_wp2_with fail
      go_roundg (l.length - (i+1))
      case rel=>
       refine ⟨i+1,z2,vz2,by simp,by omega,by omega,by omega,HZ2,zd ?_⟩
       rw [List.take_add_one,HMM.out]
       have hmem:m∈movesR evsS z r:=by rw [HC.out];exact HIN.out
       have h3:=HGO.out.snoc hmem (moves_ok hmem)
       rw [HSR.out] at h3
       exact h3
      case measure=>omega
end Go.Proofs.YtlnmhocehgmbbaaGreatDoor

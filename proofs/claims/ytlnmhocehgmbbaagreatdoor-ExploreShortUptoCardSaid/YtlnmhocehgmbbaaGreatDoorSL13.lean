/- No condition. -/
import Derived.Test.YtlnmhocehgmbbaaGreatDoorSL9
import Derived.Test.YtlnmhocehgmbbaaGreatDoorSL10
import Derived.Test.YtlnmhocehgmbbaaGreatDoorSL11
import Derived.Test.YtlnmhocehgmbbaaGreatDoorSL12
set_option linter.all false
set_option maxRecDepth 100000
set_option maxHeartbeats 3200000
namespace Go.Proofs.YtlnmhocehgmbbaaGreatDoor
open Go.RowKit
attribute [local go_sem ↓] eql_lEq eql_sEq eql_eEq eql_oEq neq_lEq neq_sEq neq_eEq neq_oEq eql_vEq neq_vEq eql_nil
attribute [local go_sem] ExtOf.cell ExtOf.frozen ExtOf.lt ExtOf.le
attribute [local go_sem high] ExtOf.cell2 ExtOf.frozen2 ExtOf.lt2 ExtOf.cell3 ExtOf.frozen3 ExtOf.lt3
theorem st_30 (x:Ex) (v:Value) (m:Mv) (w:World) (B0:Nat) (hO:Own w B0 x.h v) (hn:x.h.length≤100000) (h4:(m.k == 4)=false) (h6:(m.k == 6)=false) (h5:(m.k == 5)=false) (h1:(m.k == 1)=false) (h2:(m.k == 2)=false) (h3:(m.k == 3)=true) (hw:m.who=0) (hbad:x.b0=false):Calls Tryz.prog 42 #[.agg (x.arr v),.agg m.arr] w (Stpd w { x with s0:=(stepP 0 x.s0 ⟨3,x.c,{ data:=#[] },l0⟩).1,h:=hearsS x.h m.lost ((stepP 0 x.s0 ⟨3,x.c,{ data:=#[] },l0⟩).2.map (·.l)) } true):=by
 have HBad:=zd hbad
 clear hbad
 have hlen:=stepP_len 0 x.s0 ⟨3,x.c,{ data:=#[] },l0⟩
 have hT : ∀ w',Calls Tryz.prog 70 #[.int .i64 0,.agg #[.int .i64 x.s0.r,.int .u64 x.s0.c,.string x.s0.t,.int .i64 x.s0.ph,.int .i64 x.s0.p.k,.int .i64 x.s0.p.f,.int .u64 x.s0.p.c,.string x.s0.p.t,.bool x.s0.p.b],.agg #[.int .i64 3,.int .u64 x.c,.string { data:=#[] },.int .i64 0,.int .i64 0,.int .u64 0,.string { data:=#[] },.bool false]] w' (Stepped w' (stepP 0 x.s0 ⟨3,x.c,{ data:=#[] },l0⟩)):=fun w'=>mo_step 0 x.s0.r x.s0.c x.s0.t x.s0.ph x.s0.p.k x.s0.p.f x.s0.p.c x.s0.p.t x.s0.p.b 3 x.c { data:=#[] } 0 0 0 { data:=#[] } false w'
 generalize stepP 0 x.s0 ⟨3,x.c,{ data:=#[] },l0⟩=T at hT hlen ⊢
 obtain ⟨⟨r',c',t',ph',⟨k',f',c2',t2',fk'⟩⟩,O⟩:=T
 have HT:=zd hT
 clear hT
 obtain ⟨sa,sn,sc,hsv⟩:=own_slice hO
 have hv1:v.oneCell'=true:=by rw [hsv];rfl
 have HO:=zd hO
 clear hO hsv
 go_enter Tryz.func42,Tryz.ntmps42
 go_upto_region 1 with fail
 refine wp_forget (zP w x v m) (three_new zR) ?_
 rintro W1 ⟨h1,h2,h3,e1⟩
 have HX1:=zd h1
 have HM1:=zd h2
 have HR1:=zd h3
 have HE1:=zd e1
 clear h1 h2 h3 e1
 go_upto_region 2 with (first
  | (refine wpList_load_row rfl 33 _ rfl _ rfl _ _ (0,0) _ HX1.out zu33 rfl info_ex ?_)
  | (refine wpList_store_row rfl 33 _ _ rfl _ _ rfl rfl 33 _ (heap_new rfl) info_ex rfl (arr_one x hv1) ?_))
 refine wp_forget (fun w'=>ExAt w' W1.heap.size x v∧Ext W1 w'∧W1.heap.size<w'.heap.size) ⟨setRow_heap _ _ _ _ _ _ (heap_new rfl),((Ext.refl W1).alloc _).setRow zN _,by simp⟩ ?_
 rintro W2 ⟨h1,e1,h2⟩
 have hl1:w.heap.size+1+1<W1.heap.size:=zL HR1.out
 have qx2:W2.cell? ⟨w.heap.size,25,none⟩=some v:=by rw [zQ (HX1.out.ext e1) _];rfl
 have lx2:w.heap.size<W2.heap.size:=by omega
 have HY2:=zd h1
 have HE2:=zd e1
 clear h1 e1
 have h2':=h2
 go_upto_region 3 with (go_at_call 51;refine (sl_clone v B0 x.h W2 (HO.out.ext (HE1.out.trans HE2.out)) hn).mono ?_;rintro e W3 ⟨v1,rfl,hown,hx⟩;obtain ⟨s1a,s1n,s1c,rfl⟩:=own_slice hown;have HO3:=zd hown;have hy3:=HY2.out.ext hx;have HY3:=zd hy3;unfold ExAt Ex.arr at hy3;have qy3:=zQ hy3;have fy3:=zF hy3;have ly3:W1.heap.size<W3.heap.size:=(zL hy3);have HE3:=zd hx;clear hown hx hy3)
 refine wp_forget (fun w'=>ExAt w' W1.heap.size x (.slice s1a s1n s1c)∧Own w' W2.heap.size x.h (.slice s1a s1n s1c)∧Ext W1 w'∧W2.heap.size≤w'.heap.size) ⟨?a1,?a2,?a3,?a4⟩ ?ar
 case a1=>exact setCell_row (o:=25) HY3.out _
 case a2=>exact own_same HO3.out fun k hk _=>cell_other (o:=25) (show k≠W1.heap.size by omega)
 case a3=>exact (HE2.out.trans HE3.out).setCell zN _
 case a4=>simpa [World.setCell] using HE3.out.size
 rintro W4 ⟨h1,h3,h4,h5⟩
 have hx4:=HX1.out.ext h4
 unfold ExAt Ex.arr at hx4
 have qx4:=zQ hx4
 have lx4:w.heap.size<W4.heap.size:=by omega
 have HY4:=zd h1
 have HO4:=zd h3
 have HE4:=zd h4
 clear h1 h3 h4 hx4 qy3 fy3 ly3 HO3 HY3 HE3 qx2 lx2 HY2
 go_upto_region 4 with fail
 refine wp_forget (fun w'=>At4 w w' W2.heap.size W1.heap.size W4.heap.size x m v (.slice s1a s1n s1c) _) ⟨HX1.out.ext (HE4.out.alloc _),heap_ext HM1.out (HE4.out.alloc _),heap_ext HR1.out (HE4.out.alloc _),HY4.out.ext (zR.alloc _),HO4.out.ext (zR.alloc _),heap_new rfl,HE1.out.trans (HE4.out.alloc _),hl1,h2',h5,fun g hg=>(own_rowB HO4.out g hg).2,rfl⟩ ?_
 clear qx4 lx4 HX1 HM1 HR1 HY4 HO4 HE4 HE2 HE1
 rintro W5 A4
 have hx5:=A4.hx
 unfold ExAt Ex.arr at hx5
 have qx:=zQ hx5
 have hm5:=A4.hm
 unfold Mv.arr at hm5
 have qm:=zQ hm5
 have hy5:=A4.hy
 unfold ExAt Ex.arr at hy5
 have qy:=zQ hy5
 have fy:=zF hy5
 have lx:w.heap.size<W5.heap.size:=zL hx5
 have lm:w.heap.size+1<W5.heap.size:=zL hm5
 have ly:W1.heap.size<W5.heap.size:=zL hy5
 clear hx5 hm5 hy5
 have HA:=zd A4
 clear A4
 have he5:=HA.out.he
 have qe:=zQ he5
 have fe:=zF he5
 have le5:W4.heap.size<W5.heap.size:=zL he5
 clear he5
 go_upto_region 28 with fail
 refine wp_forget (fun w'=>At8 w w' W2.heap.size W1.heap.size W4.heap.size x m v (.slice s1a s1n s1c) _ #[.int .i64 3,.int .u64 x.c,.string { data:=#[] },.int .i64 0,.int .i64 0,.int .u64 0,.string { data:=#[] },.bool false]) (HA.out.to8 ((Keeps.refl _ _).setCell (.inl (.head _)) _ _) (setCell_row (o:=0) HA.out.he _)) ?_
 clear qx qm qy fy lx lm ly qe fe le5 HA
 rintro W8 A8
 have hx8:=A8.hx
 unfold ExAt Ex.arr at hx8
 have qx:=zQ hx8
 have hm8:=A8.hm
 unfold Mv.arr at hm8
 have qm:=zQ hm8
 have he8:=A8.he
 have qe:=zQ he8
 have lx:w.heap.size<W8.heap.size:=zL hx8
 have lm:w.heap.size+1<W8.heap.size:=zL hm8
 have le8:W4.heap.size<W8.heap.size:=zL he8
 have ly8:W1.heap.size<W8.heap.size:=zL A8.hy
 clear hx8 hm8 he8
 have hgB:W2.heap.size≤W8.heap.size:=by have:=A8.hge;omega
 have HA:=zd A8
 clear A8
 have hbad:=HBad.out
 go_wp2_with fail
 refine wp_region_mixF (af:=?af) #[.int .i64 0,.int .u64 0,.string { data:=#[] },.int .i64 0,.int .i64 0,.int .i64 0,.int .u64 0,.string { data:=#[] },.bool false] 26 [true,true,true,true,true,true,true,true,false,false,false,false,false,false,false] [false,false,false,false,false,false,false,false,false,true,true,true,false,false,true] 113 4 (C:=Ext W8) (by kernel_rfl) rfl (by kernel_rfl) (fun _ _ h e=>Ext.trans h e) zR.drew ?q ?r
 case q=>
  intro w' hw'
  obtain ⟨y,rfl⟩:=ext_of hw'
  simp only [pickT,if_true,if_false,Bool.false_eq_true]
  repeat (go_big_quiet_step (fail))
  exact rfl
 case r=>
  simp only [restL,if_true,if_false,Bool.false_eq_true]
  refine ⟨fun a w=>by simp [go_sem],?_⟩
  intro x1
  go_wp2_with fail
  refine (HT.out _).mono ?_
  rintro e w4 ⟨vo,rfl,hv,hx4⟩
  simp only [St.cs]
  go_wp2_with fail
  refine ⟨_,.inl ⟨rfl,fun w _=>⟨rfl,rfl⟩⟩,?_⟩
  refine ⟨_,.inl ⟨rfl,fun w _=>⟨rfl,rfl⟩⟩,?_⟩
  refine ⟨_,.inl ⟨rfl,fun w _=>⟨rfl,rfl⟩⟩,?_⟩
  intro x2 gT hgT hzT
  have e2:Ext W8 x2.val:=(((Ext.refl W8).drew.val x1).trans hx4).val x2
  intro x3
  go_wp2_with (refine wpList_store_row rfl 26 _ _ rfl gT _ rfl rfl 26 _ (heap_ext hzT x3.ext) info_state rfl (by simp [Value.oneCell']) ?_)
  refine ⟨(e2.val x3).setRow hgT _,?_⟩
  refine ⟨_,.inl ⟨rfl,fun w _=>⟨rfl,rfl⟩⟩,?_⟩
  intro x4
  have eT:x4.val.heap[gT]?=some (.cells #[.int .i64 r',.int .u64 c',.string t',.int .i64 ph',.int .i64 k',.int .i64 f',.int .u64 c2',.string t2',.bool fk'] 26 (0,0)):=heap_ext (setRow_heap _ _ _ _ _ _ (heap_ext hzT x3.ext)) x4.ext
  have eX:Ext W8 x4.val:=((e2.val x3).setRow hgT _).val x4
  have eO:x4.val.ownsRow W8.heap.size 126 6 vo O.length (O.flatMap Ou.cs):=own_base (own_ext (own_setRow (own_ext hv (x2.ext.trans x3.ext)) (heap_ext hzT x3.ext) (by decide) _) x4.ext) ((Ext.refl W8).drew.val x1).size
  generalize x4.val=W9 at eT eX eO ⊢
  clear x4 x3 x2 hzT hv hx4 e2 x1 qx qe lx le8 hbad HT
  have qT:=zQ eT
  have hy9:=HA.out.hy.ext eX
  have HY9:=zd hy9
  unfold ExAt Ex.arr at hy9
  have qy:=zQ hy9
  have fy:=zF hy9
  have hm9:=heap_ext HA.out.hm eX
  have HM9:=zd hm9
  unfold Mv.arr at hm9
  clear qm lm
  have qm:=zQ hm9
  have lm:w.heap.size+1<W9.heap.size:=zL hm9
  have ly:W1.heap.size<W9.heap.size:=zL hy9
  have lT:gT<W9.heap.size:=zL eT
  have HE9:=zd (HA.out.ext.trans eX)
  have HX9:=zd eX
  have HOut:=zd eO
  clear eT hy9 hm9 eX eO
  have hwy:w.heap.size+1+1<W1.heap.size:=HA.out.hgy
  have hyB:W1.heap.size<W2.heap.size:=HA.out.hB
  go_upto_region 32 with fail
  have hy909:=set9_0 HY9.out ⟨r',c',t',ph',⟨k',f',c2',t2',fk'⟩⟩
  have hb909:=set9_but W9 W1.heap.size 1 ⟨r',c',t',ph',⟨k',f',c2',t2',fk'⟩⟩
  refine wp_forget (fun w'=>Hid (ExAt w' W1.heap.size { x with s0:=⟨r',c',t',ph',⟨k',f',c2',t2',fk'⟩⟩ } (.slice s1a s1n s1c)∧Own w' W2.heap.size x.h (.slice s1a s1n s1c)∧w'.heap[w.heap.size+1]?=some (.cells m.arr 52 (0,0))∧w'.heap[w.heap.size+1+1]?=some (.cells _ 33 (0,0))∧w'.ownsRow W8.heap.size 126 6 vo O.length (O.flatMap Ou.cs)∧Ext w w'∧W8.heap.size≤w'.heap.size))
   (zd ⟨hy909,own_same (HA.out.ho.ext HX9.out) fun k hk _=>hb909.block k (show k≠W1.heap.size by omega),(hb909.block _ (by omega)).trans HM9.out,(hb909.block _ (by omega)).trans (heap_ext HA.out.hr HX9.out),own_same HOut.out fun k hk _=>hb909.block k (show k≠W1.heap.size by omega),hb909.ext HE9.out (by omega),zT HX9.out.size (Nat.le_of_eq hb909.size.symm)⟩) ?_
  clear hy909 hb909
  clear qT qy fy qm lm ly lT HY9 HM9 HE9 HX9 HOut
  rintro W10 HB
  obtain ⟨oa,ocap,rfl,hom,hov⟩:=own_view HB.out.2.2.2.2.1
  have HV:=zd hov
  clear hov
  unfold maxLen at hom
  rcases O with _|⟨o,_|⟨o2,O2⟩⟩
  ·simp only [List.length_nil]
   go_wp2_with fail
   go_loopg [102] 0 (fun g ii wr=>ii = .int .i64 0∧wr=W10)
   case atStart=>exact ⟨rfl,rfl⟩
   case round=>
    obtain ⟨rfl,rfl⟩:=hrel
    go_wp2_with (first|(refine wpList_load_row rfl 33 _ rfl _ rfl _ _ (0,0) _ (HB.out.1) zu33 rfl info_ex ?_)|(refine wpList_store_row rfl 33 _ _ rfl _ _ rfl rfl 33 _ (HB.out.2.2.2.1) info_ex rfl (arr_one ({ x with s0:=⟨r',c',t',ph',⟨k',f',c2',t2',fk'⟩⟩ }) rfl) ?_))
    refine bodyPost_ret (results_row_tmp rfl _ _ _ 33 _ (0,0) _ rfl (setRow_heap _ _ _ _ _ _ HB.out.2.2.2.1) zu33 rfl info_ex) rfl ?_
    exact ⟨_,rfl,own_setRow (own_base (b':=w.heap.size) HB.out.2.1 (by omega)) HB.out.2.2.2.1 (by decide) _,Ext.setRow HB.out.2.2.2.2.2.1 (by omega) _⟩
  ·obtain ⟨g,rfl,hgb,hgl,hcell⟩:=HV.out (by simp)
   simp only [List.flatMap_cons,List.flatMap_nil,List.append_nil,Ou.cs] at hcell
   have q0:=hcell 0 _ rfl
   have q1:=hcell 1 _ rfl
   have q2:=hcell 2 _ rfl
   have q3:=hcell 3 _ rfl
   have q4:=hcell 4 _ rfl
   have q5:=hcell 5 _ rfl
   clear hcell
   simp only [List.length_cons,List.length_nil,Nat.zero_add]
   have hm10:=HB.out.2.2.1
   have HM:=zd hm10
   clear hm10
   have hbsz:W2.heap.size≤W10.heap.size:=zT hgB HB.out.2.2.2.2.2.2
   go_wp2_with fail
   go_loopg [102] 1 (fun gg ii wr=>(gg=1∧ii = .int .i64 0∧wr=W10)∨(gg=0∧ii = .int .i64 1∧∃ a3 n3 c3,Hid (ExAt wr W1.heap.size { x with s0:=⟨r',c',t',ph',⟨k',f',c2',t2',fk'⟩⟩,h:=hearS x.h m.lost o.l } (.slice a3 n3 c3)∧Own wr W2.heap.size (hearS x.h m.lost o.l) (.slice a3 n3 c3)∧wr.heap[w.heap.size+1+1]?=some (.cells _ 33 (0,0))∧Ext w wr)))
   case atStart=>exact .inl ⟨rfl,rfl,rfl⟩
   case round=>
    obtain ⟨rfl,rfl,rfl⟩|⟨rfl,rfl,a3,n3,c3,HD⟩:=hrel
    ·go_wp2_with (first
      | (refine wpList_load_row rfl 52 _ rfl _ rfl _ _ (0,0) _ (heap_ext HM.out (zR.alloc _)) zu52 rfl info_mv ?_)
      | (go_at_call 71;refine (mo_hears W2.heap.size W1.heap.size _ { x with s0:=⟨r',c',t',ph',⟨k',f',c2',t2',fk'⟩⟩ } (.slice s1a s1n s1c) m o.l _ (HB.out.1.ext ((zR.alloc _).alloc _)) (HB.out.2.1.ext ((zR.alloc _).alloc _)) (heap_new (by simp)) hyB (zT hbsz ((zR.alloc _).alloc _).size) hn).mono ?_;rintro e W11 ⟨rfl,hH⟩;have HH:=zd hH;clear hH))
     obtain ⟨v3,hy3,ho3,hk3,hr3⟩:=HH.out
     obtain ⟨a3,n3,c3,rfl⟩:=own_slice ho3
     go_roundg 0
     case rel=>
      refine .inr ⟨rfl,rfl,a3,n3,c3,zd ⟨hy3,ho3,?_,?_⟩⟩
      ·refine (hk3.block _ (zU (zL HB.out.2.2.2.1) ((zR.alloc _).alloc _).size) ?_).trans (heap_ext HB.out.2.2.2.1 ((zR.alloc _).alloc _))
       simp only [List.mem_cons,not_or]
       exact ⟨by omega,fun hm=>by have:=(own_rowB HB.out.2.1 _ hm).1;omega⟩
      ·refine keeps_ext ((HB.out.2.2.2.2.2.1.alloc _).alloc _) hk3 ?_
       intro g' hg'
       simp only [List.mem_cons] at hg'
       exact hg'.elim (fun h=>by omega) (fun h=>by have:=(own_rowB HB.out.2.1 _ h).1;omega)
     case measure=>omega
    ·go_wp2_with (first|(refine wpList_load_row rfl 33 _ rfl _ rfl _ _ (0,0) _ (HD.out.1) zu33 rfl info_ex ?_)|(refine wpList_store_row rfl 33 _ _ rfl _ _ rfl rfl 33 _ (HD.out.2.2.1) info_ex rfl (arr_one (({ x with s0:=⟨r',c',t',ph',⟨k',f',c2',t2',fk'⟩⟩,h:=hearS x.h m.lost o.l })) rfl) ?_))
     refine bodyPost_ret (results_row_tmp rfl _ _ _ 33 _ (0,0) _ rfl (setRow_heap _ _ _ _ _ _ HD.out.2.2.1) zu33 rfl info_ex) rfl ?_
     exact ⟨_,rfl,own_setRow (own_base (b':=w.heap.size) HD.out.2.1 (by omega)) HD.out.2.2.1 (by decide) _,Ext.setRow HD.out.2.2.2 (by omega) _⟩
  ·simp at hlen
theorem st_31 (x:Ex) (v:Value) (m:Mv) (w:World) (B0:Nat) (hO:Own w B0 x.h v) (hn:x.h.length≤100000) (h4:(m.k == 4)=false) (h6:(m.k == 6)=false) (h5:(m.k == 5)=false) (h1:(m.k == 1)=false) (h2:(m.k == 2)=false) (h3:(m.k == 3)=true) (hw:m.who=1) (hbad:x.b1=false):Calls Tryz.prog 42 #[.agg (x.arr v),.agg m.arr] w (Stpd w { x with s1:=(stepP 1 x.s1 ⟨3,x.c,{ data:=#[] },l0⟩).1,h:=hearsS x.h m.lost ((stepP 1 x.s1 ⟨3,x.c,{ data:=#[] },l0⟩).2.map (·.l)) } true):=by
 have HBad:=zd hbad
 clear hbad
 have hlen:=stepP_len 1 x.s1 ⟨3,x.c,{ data:=#[] },l0⟩
 have hT : ∀ w',Calls Tryz.prog 70 #[.int .i64 1,.agg #[.int .i64 x.s1.r,.int .u64 x.s1.c,.string x.s1.t,.int .i64 x.s1.ph,.int .i64 x.s1.p.k,.int .i64 x.s1.p.f,.int .u64 x.s1.p.c,.string x.s1.p.t,.bool x.s1.p.b],.agg #[.int .i64 3,.int .u64 x.c,.string { data:=#[] },.int .i64 0,.int .i64 0,.int .u64 0,.string { data:=#[] },.bool false]] w' (Stepped w' (stepP 1 x.s1 ⟨3,x.c,{ data:=#[] },l0⟩)):=fun w'=>mo_step 1 x.s1.r x.s1.c x.s1.t x.s1.ph x.s1.p.k x.s1.p.f x.s1.p.c x.s1.p.t x.s1.p.b 3 x.c { data:=#[] } 0 0 0 { data:=#[] } false w'
 generalize stepP 1 x.s1 ⟨3,x.c,{ data:=#[] },l0⟩=T at hT hlen ⊢
 obtain ⟨⟨r',c',t',ph',⟨k',f',c2',t2',fk'⟩⟩,O⟩:=T
 have HT:=zd hT
 clear hT
 obtain ⟨sa,sn,sc,hsv⟩:=own_slice hO
 have hv1:v.oneCell'=true:=by rw [hsv];rfl
 have HO:=zd hO
 clear hO hsv
 go_enter Tryz.func42,Tryz.ntmps42
 go_upto_region 1 with fail
 refine wp_forget (zP w x v m) (three_new zR) ?_
 rintro W1 ⟨h1,h2,h3,e1⟩
 have HX1:=zd h1
 have HM1:=zd h2
 have HR1:=zd h3
 have HE1:=zd e1
 clear h1 h2 h3 e1
 go_upto_region 2 with (first
  | (refine wpList_load_row rfl 33 _ rfl _ rfl _ _ (0,0) _ HX1.out zu33 rfl info_ex ?_)
  | (refine wpList_store_row rfl 33 _ _ rfl _ _ rfl rfl 33 _ (heap_new rfl) info_ex rfl (arr_one x hv1) ?_))
 refine wp_forget (fun w'=>ExAt w' W1.heap.size x v∧Ext W1 w'∧W1.heap.size<w'.heap.size) ⟨setRow_heap _ _ _ _ _ _ (heap_new rfl),((Ext.refl W1).alloc _).setRow zN _,by simp⟩ ?_
 rintro W2 ⟨h1,e1,h2⟩
 have hl1:w.heap.size+1+1<W1.heap.size:=zL HR1.out
 have qx2:W2.cell? ⟨w.heap.size,25,none⟩=some v:=by rw [zQ (HX1.out.ext e1) _];rfl
 have lx2:w.heap.size<W2.heap.size:=by omega
 have HY2:=zd h1
 have HE2:=zd e1
 clear h1 e1
 have h2':=h2
 go_upto_region 3 with (go_at_call 51;refine (sl_clone v B0 x.h W2 (HO.out.ext (HE1.out.trans HE2.out)) hn).mono ?_;rintro e W3 ⟨v1,rfl,hown,hx⟩;obtain ⟨s1a,s1n,s1c,rfl⟩:=own_slice hown;have HO3:=zd hown;have hy3:=HY2.out.ext hx;have HY3:=zd hy3;unfold ExAt Ex.arr at hy3;have qy3:=zQ hy3;have fy3:=zF hy3;have ly3:W1.heap.size<W3.heap.size:=(zL hy3);have HE3:=zd hx;clear hown hx hy3)
 refine wp_forget (fun w'=>ExAt w' W1.heap.size x (.slice s1a s1n s1c)∧Own w' W2.heap.size x.h (.slice s1a s1n s1c)∧Ext W1 w'∧W2.heap.size≤w'.heap.size) ⟨?a1,?a2,?a3,?a4⟩ ?ar
 case a1=>exact setCell_row (o:=25) HY3.out _
 case a2=>exact own_same HO3.out fun k hk _=>cell_other (o:=25) (show k≠W1.heap.size by omega)
 case a3=>exact (HE2.out.trans HE3.out).setCell zN _
 case a4=>simpa [World.setCell] using HE3.out.size
 rintro W4 ⟨h1,h3,h4,h5⟩
 have hx4:=HX1.out.ext h4
 unfold ExAt Ex.arr at hx4
 have qx4:=zQ hx4
 have lx4:w.heap.size<W4.heap.size:=by omega
 have HY4:=zd h1
 have HO4:=zd h3
 have HE4:=zd h4
 clear h1 h3 h4 hx4 qy3 fy3 ly3 HO3 HY3 HE3 qx2 lx2 HY2
 go_upto_region 4 with fail
 refine wp_forget (fun w'=>At4 w w' W2.heap.size W1.heap.size W4.heap.size x m v (.slice s1a s1n s1c) _) ⟨HX1.out.ext (HE4.out.alloc _),heap_ext HM1.out (HE4.out.alloc _),heap_ext HR1.out (HE4.out.alloc _),HY4.out.ext (zR.alloc _),HO4.out.ext (zR.alloc _),heap_new rfl,HE1.out.trans (HE4.out.alloc _),hl1,h2',h5,fun g hg=>(own_rowB HO4.out g hg).2,rfl⟩ ?_
 clear qx4 lx4 HX1 HM1 HR1 HY4 HO4 HE4 HE2 HE1
 rintro W5 A4
 have hx5:=A4.hx
 unfold ExAt Ex.arr at hx5
 have qx:=zQ hx5
 have hm5:=A4.hm
 unfold Mv.arr at hm5
 have qm:=zQ hm5
 have hy5:=A4.hy
 unfold ExAt Ex.arr at hy5
 have qy:=zQ hy5
 have fy:=zF hy5
 have lx:w.heap.size<W5.heap.size:=zL hx5
 have lm:w.heap.size+1<W5.heap.size:=zL hm5
 have ly:W1.heap.size<W5.heap.size:=zL hy5
 clear hx5 hm5 hy5
 have HA:=zd A4
 clear A4
 have he5:=HA.out.he
 have qe:=zQ he5
 have fe:=zF he5
 have le5:W4.heap.size<W5.heap.size:=zL he5
 clear he5
 go_upto_region 28 with fail
 refine wp_forget (fun w'=>At8 w w' W2.heap.size W1.heap.size W4.heap.size x m v (.slice s1a s1n s1c) _ #[.int .i64 3,.int .u64 x.c,.string { data:=#[] },.int .i64 0,.int .i64 0,.int .u64 0,.string { data:=#[] },.bool false]) (HA.out.to8 ((Keeps.refl _ _).setCell (.inl (.head _)) _ _) (setCell_row (o:=0) HA.out.he _)) ?_
 clear qx qm qy fy lx lm ly qe fe le5 HA
 rintro W8 A8
 have hx8:=A8.hx
 unfold ExAt Ex.arr at hx8
 have qx:=zQ hx8
 have hm8:=A8.hm
 unfold Mv.arr at hm8
 have qm:=zQ hm8
 have he8:=A8.he
 have qe:=zQ he8
 have lx:w.heap.size<W8.heap.size:=zL hx8
 have lm:w.heap.size+1<W8.heap.size:=zL hm8
 have le8:W4.heap.size<W8.heap.size:=zL he8
 have ly8:W1.heap.size<W8.heap.size:=zL A8.hy
 clear hx8 hm8 he8
 have hgB:W2.heap.size≤W8.heap.size:=by have:=A8.hge;omega
 have HA:=zd A8
 clear A8
 have hbad:=HBad.out
 go_wp2_with fail
 refine wp_region_mixF (af:=?af) #[.int .i64 0,.int .u64 0,.string { data:=#[] },.int .i64 0,.int .i64 0,.int .i64 0,.int .u64 0,.string { data:=#[] },.bool false] 26 [true,true,true,true,true,true,true,true,false,false,false,false,false,false,false] [false,false,false,false,false,false,false,false,false,true,true,true,false,false,true] 113 4 (C:=Ext W8) (by kernel_rfl) rfl (by kernel_rfl) (fun _ _ h e=>Ext.trans h e) zR.drew ?q ?r
 case q=>
  intro w' hw'
  obtain ⟨y,rfl⟩:=ext_of hw'
  simp only [pickT,if_true,if_false,Bool.false_eq_true]
  repeat (go_big_quiet_step (fail))
  exact rfl
 case r=>
  simp only [restL,if_true,if_false,Bool.false_eq_true]
  refine ⟨fun a w=>by simp [go_sem],?_⟩
  intro x1
  go_wp2_with fail
  refine (HT.out _).mono ?_
  rintro e w4 ⟨vo,rfl,hv,hx4⟩
  simp only [St.cs]
  go_wp2_with fail
  refine ⟨_,.inl ⟨rfl,fun w _=>⟨rfl,rfl⟩⟩,?_⟩
  refine ⟨_,.inl ⟨rfl,fun w _=>⟨rfl,rfl⟩⟩,?_⟩
  refine ⟨_,.inl ⟨rfl,fun w _=>⟨rfl,rfl⟩⟩,?_⟩
  intro x2 gT hgT hzT
  have e2:Ext W8 x2.val:=(((Ext.refl W8).drew.val x1).trans hx4).val x2
  intro x3
  go_wp2_with (refine wpList_store_row rfl 26 _ _ rfl gT _ rfl rfl 26 _ (heap_ext hzT x3.ext) info_state rfl (by simp [Value.oneCell']) ?_)
  refine ⟨(e2.val x3).setRow hgT _,?_⟩
  refine ⟨_,.inl ⟨rfl,fun w _=>⟨rfl,rfl⟩⟩,?_⟩
  intro x4
  have eT:x4.val.heap[gT]?=some (.cells #[.int .i64 r',.int .u64 c',.string t',.int .i64 ph',.int .i64 k',.int .i64 f',.int .u64 c2',.string t2',.bool fk'] 26 (0,0)):=heap_ext (setRow_heap _ _ _ _ _ _ (heap_ext hzT x3.ext)) x4.ext
  have eX:Ext W8 x4.val:=((e2.val x3).setRow hgT _).val x4
  have eO:x4.val.ownsRow W8.heap.size 126 6 vo O.length (O.flatMap Ou.cs):=own_base (own_ext (own_setRow (own_ext hv (x2.ext.trans x3.ext)) (heap_ext hzT x3.ext) (by decide) _) x4.ext) ((Ext.refl W8).drew.val x1).size
  generalize x4.val=W9 at eT eX eO ⊢
  clear x4 x3 x2 hzT hv hx4 e2 x1 qx qe lx le8 hbad HT
  have qT:=zQ eT
  have hy9:=HA.out.hy.ext eX
  have HY9:=zd hy9
  unfold ExAt Ex.arr at hy9
  have qy:=zQ hy9
  have fy:=zF hy9
  have hm9:=heap_ext HA.out.hm eX
  have HM9:=zd hm9
  unfold Mv.arr at hm9
  clear qm lm
  have qm:=zQ hm9
  have lm:w.heap.size+1<W9.heap.size:=zL hm9
  have ly:W1.heap.size<W9.heap.size:=zL hy9
  have lT:gT<W9.heap.size:=zL eT
  have HE9:=zd (HA.out.ext.trans eX)
  have HX9:=zd eX
  have HOut:=zd eO
  clear eT hy9 hm9 eX eO
  have hwy:w.heap.size+1+1<W1.heap.size:=HA.out.hgy
  have hyB:W1.heap.size<W2.heap.size:=HA.out.hB
  go_upto_region 32 with fail
  have hy909:=set9_1 HY9.out ⟨r',c',t',ph',⟨k',f',c2',t2',fk'⟩⟩
  have hb909:=set9_but W9 W1.heap.size 10 ⟨r',c',t',ph',⟨k',f',c2',t2',fk'⟩⟩
  refine wp_forget (fun w'=>Hid (ExAt w' W1.heap.size { x with s1:=⟨r',c',t',ph',⟨k',f',c2',t2',fk'⟩⟩ } (.slice s1a s1n s1c)∧Own w' W2.heap.size x.h (.slice s1a s1n s1c)∧w'.heap[w.heap.size+1]?=some (.cells m.arr 52 (0,0))∧w'.heap[w.heap.size+1+1]?=some (.cells _ 33 (0,0))∧w'.ownsRow W8.heap.size 126 6 vo O.length (O.flatMap Ou.cs)∧Ext w w'∧W8.heap.size≤w'.heap.size))
   (zd ⟨hy909,own_same (HA.out.ho.ext HX9.out) fun k hk _=>hb909.block k (show k≠W1.heap.size by omega),(hb909.block _ (by omega)).trans HM9.out,(hb909.block _ (by omega)).trans (heap_ext HA.out.hr HX9.out),own_same HOut.out fun k hk _=>hb909.block k (show k≠W1.heap.size by omega),hb909.ext HE9.out (by omega),zT HX9.out.size (Nat.le_of_eq hb909.size.symm)⟩) ?_
  clear hy909 hb909
  clear qT qy fy qm lm ly lT HY9 HM9 HE9 HX9 HOut
  rintro W10 HB
  obtain ⟨oa,ocap,rfl,hom,hov⟩:=own_view HB.out.2.2.2.2.1
  have HV:=zd hov
  clear hov
  unfold maxLen at hom
  rcases O with _|⟨o,_|⟨o2,O2⟩⟩
  ·simp only [List.length_nil]
   go_wp2_with fail
   go_loopg [102] 0 (fun g ii wr=>ii = .int .i64 0∧wr=W10)
   case atStart=>exact ⟨rfl,rfl⟩
   case round=>
    obtain ⟨rfl,rfl⟩:=hrel
    go_wp2_with (first|(refine wpList_load_row rfl 33 _ rfl _ rfl _ _ (0,0) _ (HB.out.1) zu33 rfl info_ex ?_)|(refine wpList_store_row rfl 33 _ _ rfl _ _ rfl rfl 33 _ (HB.out.2.2.2.1) info_ex rfl (arr_one ({ x with s1:=⟨r',c',t',ph',⟨k',f',c2',t2',fk'⟩⟩ }) rfl) ?_))
    refine bodyPost_ret (results_row_tmp rfl _ _ _ 33 _ (0,0) _ rfl (setRow_heap _ _ _ _ _ _ HB.out.2.2.2.1) zu33 rfl info_ex) rfl ?_
    exact ⟨_,rfl,own_setRow (own_base (b':=w.heap.size) HB.out.2.1 (by omega)) HB.out.2.2.2.1 (by decide) _,Ext.setRow HB.out.2.2.2.2.2.1 (by omega) _⟩
  ·obtain ⟨g,rfl,hgb,hgl,hcell⟩:=HV.out (by simp)
   simp only [List.flatMap_cons,List.flatMap_nil,List.append_nil,Ou.cs] at hcell
   have q0:=hcell 0 _ rfl
   have q1:=hcell 1 _ rfl
   have q2:=hcell 2 _ rfl
   have q3:=hcell 3 _ rfl
   have q4:=hcell 4 _ rfl
   have q5:=hcell 5 _ rfl
   clear hcell
   simp only [List.length_cons,List.length_nil,Nat.zero_add]
   have hm10:=HB.out.2.2.1
   have HM:=zd hm10
   clear hm10
   have hbsz:W2.heap.size≤W10.heap.size:=zT hgB HB.out.2.2.2.2.2.2
   go_wp2_with fail
   go_loopg [102] 1 (fun gg ii wr=>(gg=1∧ii = .int .i64 0∧wr=W10)∨(gg=0∧ii = .int .i64 1∧∃ a3 n3 c3,Hid (ExAt wr W1.heap.size { x with s1:=⟨r',c',t',ph',⟨k',f',c2',t2',fk'⟩⟩,h:=hearS x.h m.lost o.l } (.slice a3 n3 c3)∧Own wr W2.heap.size (hearS x.h m.lost o.l) (.slice a3 n3 c3)∧wr.heap[w.heap.size+1+1]?=some (.cells _ 33 (0,0))∧Ext w wr)))
   case atStart=>exact .inl ⟨rfl,rfl,rfl⟩
   case round=>
    obtain ⟨rfl,rfl,rfl⟩|⟨rfl,rfl,a3,n3,c3,HD⟩:=hrel
    ·go_wp2_with (first
      | (refine wpList_load_row rfl 52 _ rfl _ rfl _ _ (0,0) _ (heap_ext HM.out (zR.alloc _)) zu52 rfl info_mv ?_)
      | (go_at_call 71;refine (mo_hears W2.heap.size W1.heap.size _ { x with s1:=⟨r',c',t',ph',⟨k',f',c2',t2',fk'⟩⟩ } (.slice s1a s1n s1c) m o.l _ (HB.out.1.ext ((zR.alloc _).alloc _)) (HB.out.2.1.ext ((zR.alloc _).alloc _)) (heap_new (by simp)) hyB (zT hbsz ((zR.alloc _).alloc _).size) hn).mono ?_;rintro e W11 ⟨rfl,hH⟩;have HH:=zd hH;clear hH))
     obtain ⟨v3,hy3,ho3,hk3,hr3⟩:=HH.out
     obtain ⟨a3,n3,c3,rfl⟩:=own_slice ho3
     go_roundg 0
     case rel=>
      refine .inr ⟨rfl,rfl,a3,n3,c3,zd ⟨hy3,ho3,?_,?_⟩⟩
      ·refine (hk3.block _ (zU (zL HB.out.2.2.2.1) ((zR.alloc _).alloc _).size) ?_).trans (heap_ext HB.out.2.2.2.1 ((zR.alloc _).alloc _))
       simp only [List.mem_cons,not_or]
       exact ⟨by omega,fun hm=>by have:=(own_rowB HB.out.2.1 _ hm).1;omega⟩
      ·refine keeps_ext ((HB.out.2.2.2.2.2.1.alloc _).alloc _) hk3 ?_
       intro g' hg'
       simp only [List.mem_cons] at hg'
       exact hg'.elim (fun h=>by omega) (fun h=>by have:=(own_rowB HB.out.2.1 _ h).1;omega)
     case measure=>omega
    ·go_wp2_with (first|(refine wpList_load_row rfl 33 _ rfl _ rfl _ _ (0,0) _ (HD.out.1) zu33 rfl info_ex ?_)|(refine wpList_store_row rfl 33 _ _ rfl _ _ rfl rfl 33 _ (HD.out.2.2.1) info_ex rfl (arr_one (({ x with s1:=⟨r',c',t',ph',⟨k',f',c2',t2',fk'⟩⟩,h:=hearS x.h m.lost o.l })) rfl) ?_))
     refine bodyPost_ret (results_row_tmp rfl _ _ _ 33 _ (0,0) _ rfl (setRow_heap _ _ _ _ _ _ HD.out.2.2.1) zu33 rfl info_ex) rfl ?_
     exact ⟨_,rfl,own_setRow (own_base (b':=w.heap.size) HD.out.2.1 (by omega)) HD.out.2.2.1 (by decide) _,Ext.setRow HD.out.2.2.2 (by omega) _⟩
  ·simp at hlen
theorem st_2no0 (x:Ex) (v:Value) (m:Mv) (w:World) (B0:Nat) (hO:Own w B0 x.h v) (hn:x.h.length≤100000) (h4:(m.k == 4)=false) (h6:(m.k == 6)=false) (h5:(m.k == 5)=false) (h1:(m.k == 1)=false) (h2:(m.k == 2)=true) (hcan:canS x m.l=false) (hw:m.who=0):Calls Tryz.prog 42 #[.agg (x.arr v),.agg m.arr] w (Stpd w x false):=by
 have hC:=fun w' (hw:Ext w w')=>mo_can x v m.l w' (Row.ext hO.row hw)
 rw [hcan] at hC
 have HC:=zd hC
 clear hC hcan
 obtain ⟨sa,sn,sc,hsv⟩:=own_slice hO
 have hv1:v.oneCell'=true:=by rw [hsv];rfl
 have HO:=zd hO
 clear hO hsv
 go_enter Tryz.func42,Tryz.ntmps42
 go_upto_region 1 with fail
 refine wp_forget (zP w x v m) (three_new zR) ?_
 rintro W1 ⟨h1,h2,h3,e1⟩
 have HX1:=zd h1
 have HM1:=zd h2
 have HR1:=zd h3
 have HE1:=zd e1
 clear h1 h2 h3 e1
 go_upto_region 2 with (first
  | (refine wpList_load_row rfl 33 _ rfl _ rfl _ _ (0,0) _ HX1.out zu33 rfl info_ex ?_)
  | (refine wpList_store_row rfl 33 _ _ rfl _ _ rfl rfl 33 _ (heap_new rfl) info_ex rfl (arr_one x hv1) ?_))
 refine wp_forget (fun w'=>ExAt w' W1.heap.size x v∧Ext W1 w'∧W1.heap.size<w'.heap.size) ⟨setRow_heap _ _ _ _ _ _ (heap_new rfl),((Ext.refl W1).alloc _).setRow zN _,by simp⟩ ?_
 rintro W2 ⟨h1,e1,h2⟩
 have hl1:w.heap.size+1+1<W1.heap.size:=zL HR1.out
 have qx2:W2.cell? ⟨w.heap.size,25,none⟩=some v:=by rw [zQ (HX1.out.ext e1) _];rfl
 have lx2:w.heap.size<W2.heap.size:=by omega
 have HY2:=zd h1
 have HE2:=zd e1
 clear h1 e1
 have h2':=h2
 go_upto_region 3 with (go_at_call 51;refine (sl_clone v B0 x.h W2 (HO.out.ext (HE1.out.trans HE2.out)) hn).mono ?_;rintro e W3 ⟨v1,rfl,hown,hx⟩;obtain ⟨s1a,s1n,s1c,rfl⟩:=own_slice hown;have HO3:=zd hown;have hy3:=HY2.out.ext hx;have HY3:=zd hy3;unfold ExAt Ex.arr at hy3;have qy3:=zQ hy3;have fy3:=zF hy3;have ly3:W1.heap.size<W3.heap.size:=(zL hy3);have HE3:=zd hx;clear hown hx hy3)
 refine wp_forget (fun w'=>ExAt w' W1.heap.size x (.slice s1a s1n s1c)∧Own w' W2.heap.size x.h (.slice s1a s1n s1c)∧Ext W1 w'∧W2.heap.size≤w'.heap.size) ⟨?a1,?a2,?a3,?a4⟩ ?ar
 case a1=>exact setCell_row (o:=25) HY3.out _
 case a2=>exact own_same HO3.out fun k hk _=>cell_other (o:=25) (show k≠W1.heap.size by omega)
 case a3=>exact (HE2.out.trans HE3.out).setCell zN _
 case a4=>simpa [World.setCell] using HE3.out.size
 rintro W4 ⟨h1,h3,h4,h5⟩
 have hx4:=HX1.out.ext h4
 unfold ExAt Ex.arr at hx4
 have qx4:=zQ hx4
 have lx4:w.heap.size<W4.heap.size:=by omega
 have HY4:=zd h1
 have HO4:=zd h3
 have HE4:=zd h4
 clear h1 h3 h4 hx4 qy3 fy3 ly3 HO3 HY3 HE3 qx2 lx2 HY2
 go_upto_region 4 with fail
 refine wp_forget (fun w'=>At4 w w' W2.heap.size W1.heap.size W4.heap.size x m v (.slice s1a s1n s1c) _) ⟨HX1.out.ext (HE4.out.alloc _),heap_ext HM1.out (HE4.out.alloc _),heap_ext HR1.out (HE4.out.alloc _),HY4.out.ext (zR.alloc _),HO4.out.ext (zR.alloc _),heap_new rfl,HE1.out.trans (HE4.out.alloc _),hl1,h2',h5,fun g hg=>(own_rowB HO4.out g hg).2,rfl⟩ ?_
 clear qx4 lx4 HX1 HM1 HR1 HY4 HO4 HE4 HE2 HE1
 rintro W5 A4
 have hx5:=A4.hx
 unfold ExAt Ex.arr at hx5
 have qx:=zQ hx5
 have hm5:=A4.hm
 unfold Mv.arr at hm5
 have qm:=zQ hm5
 have hy5:=A4.hy
 unfold ExAt Ex.arr at hy5
 have qy:=zQ hy5
 have fy:=zF hy5
 have lx:w.heap.size<W5.heap.size:=zL hx5
 have lm:w.heap.size+1<W5.heap.size:=zL hm5
 have ly:W1.heap.size<W5.heap.size:=zL hy5
 clear hx5 hm5 hy5
 have HA:=zd A4
 clear A4
 go_wp2_with (first|(go_at_call 64;refine (HC.out _ HA.out.ext).mono ?_;rintro e W6 ⟨rfl,hx⟩;have hm6:=heap_ext HA.out.hm hx;unfold Mv.arr at hm6;clear qm qx qy fy lx lm ly;have qm:=zQ hm6;have lm:w.heap.size+1<W6.heap.size:=(zL hm6);have HX6:=zd hx;clear hx hm6)|(refine wpList_load_row rfl 33 _ rfl _ rfl _ _ (0,0) _ (HA.out.hx) zu33 rfl info_ex ?_)|(refine wpList_load_row rfl 33 _ rfl _ rfl _ _ (0,0) _ (HA.out.hy.ext HX6.out) zu33 rfl info_ex ?_)|(refine wpList_store_row rfl 33 _ _ rfl _ _ rfl rfl 33 _ (heap_ext HA.out.hr HX6.out) info_ex rfl (arr_one (x) rfl) ?_))
 refine bodyPost_ret (results_row_tmp rfl _ _ _ 33 _ (0,0) _ rfl (setRow_heap _ _ _ _ _ _ (heap_ext HA.out.hr HX6.out)) zu33 rfl info_ex) rfl ?_
 exact ⟨_,rfl,own_setRow (own_base (b':=w.heap.size) (HA.out.ho.ext HX6.out) (by have:=HA.out.hgy;have:=HA.out.hB;omega)) (heap_ext HA.out.hr HX6.out) (by decide) _,Ext.setRow (HA.out.ext.trans HX6.out) (by omega) _⟩
theorem st_2no1 (x:Ex) (v:Value) (m:Mv) (w:World) (B0:Nat) (hO:Own w B0 x.h v) (hn:x.h.length≤100000) (h4:(m.k == 4)=false) (h6:(m.k == 6)=false) (h5:(m.k == 5)=false) (h1:(m.k == 1)=false) (h2:(m.k == 2)=true) (hcan:canS x m.l=false) (hw:m.who=1):Calls Tryz.prog 42 #[.agg (x.arr v),.agg m.arr] w (Stpd w x false):=by
 have hC:=fun w' (hw:Ext w w')=>mo_can x v m.l w' (Row.ext hO.row hw)
 rw [hcan] at hC
 have HC:=zd hC
 clear hC hcan
 obtain ⟨sa,sn,sc,hsv⟩:=own_slice hO
 have hv1:v.oneCell'=true:=by rw [hsv];rfl
 have HO:=zd hO
 clear hO hsv
 go_enter Tryz.func42,Tryz.ntmps42
 go_upto_region 1 with fail
 refine wp_forget (zP w x v m) (three_new zR) ?_
 rintro W1 ⟨h1,h2,h3,e1⟩
 have HX1:=zd h1
 have HM1:=zd h2
 have HR1:=zd h3
 have HE1:=zd e1
 clear h1 h2 h3 e1
 go_upto_region 2 with (first
  | (refine wpList_load_row rfl 33 _ rfl _ rfl _ _ (0,0) _ HX1.out zu33 rfl info_ex ?_)
  | (refine wpList_store_row rfl 33 _ _ rfl _ _ rfl rfl 33 _ (heap_new rfl) info_ex rfl (arr_one x hv1) ?_))
 refine wp_forget (fun w'=>ExAt w' W1.heap.size x v∧Ext W1 w'∧W1.heap.size<w'.heap.size) ⟨setRow_heap _ _ _ _ _ _ (heap_new rfl),((Ext.refl W1).alloc _).setRow zN _,by simp⟩ ?_
 rintro W2 ⟨h1,e1,h2⟩
 have hl1:w.heap.size+1+1<W1.heap.size:=zL HR1.out
 have qx2:W2.cell? ⟨w.heap.size,25,none⟩=some v:=by rw [zQ (HX1.out.ext e1) _];rfl
 have lx2:w.heap.size<W2.heap.size:=by omega
 have HY2:=zd h1
 have HE2:=zd e1
 clear h1 e1
 have h2':=h2
 go_upto_region 3 with (go_at_call 51;refine (sl_clone v B0 x.h W2 (HO.out.ext (HE1.out.trans HE2.out)) hn).mono ?_;rintro e W3 ⟨v1,rfl,hown,hx⟩;obtain ⟨s1a,s1n,s1c,rfl⟩:=own_slice hown;have HO3:=zd hown;have hy3:=HY2.out.ext hx;have HY3:=zd hy3;unfold ExAt Ex.arr at hy3;have qy3:=zQ hy3;have fy3:=zF hy3;have ly3:W1.heap.size<W3.heap.size:=(zL hy3);have HE3:=zd hx;clear hown hx hy3)
 refine wp_forget (fun w'=>ExAt w' W1.heap.size x (.slice s1a s1n s1c)∧Own w' W2.heap.size x.h (.slice s1a s1n s1c)∧Ext W1 w'∧W2.heap.size≤w'.heap.size) ⟨?a1,?a2,?a3,?a4⟩ ?ar
 case a1=>exact setCell_row (o:=25) HY3.out _
 case a2=>exact own_same HO3.out fun k hk _=>cell_other (o:=25) (show k≠W1.heap.size by omega)
 case a3=>exact (HE2.out.trans HE3.out).setCell zN _
 case a4=>simpa [World.setCell] using HE3.out.size
 rintro W4 ⟨h1,h3,h4,h5⟩
 have hx4:=HX1.out.ext h4
 unfold ExAt Ex.arr at hx4
 have qx4:=zQ hx4
 have lx4:w.heap.size<W4.heap.size:=by omega
 have HY4:=zd h1
 have HO4:=zd h3
 have HE4:=zd h4
 clear h1 h3 h4 hx4 qy3 fy3 ly3 HO3 HY3 HE3 qx2 lx2 HY2
 go_upto_region 4 with fail
 refine wp_forget (fun w'=>At4 w w' W2.heap.size W1.heap.size W4.heap.size x m v (.slice s1a s1n s1c) _) ⟨HX1.out.ext (HE4.out.alloc _),heap_ext HM1.out (HE4.out.alloc _),heap_ext HR1.out (HE4.out.alloc _),HY4.out.ext (zR.alloc _),HO4.out.ext (zR.alloc _),heap_new rfl,HE1.out.trans (HE4.out.alloc _),hl1,h2',h5,fun g hg=>(own_rowB HO4.out g hg).2,rfl⟩ ?_
 clear qx4 lx4 HX1 HM1 HR1 HY4 HO4 HE4 HE2 HE1
 rintro W5 A4
 have hx5:=A4.hx
 unfold ExAt Ex.arr at hx5
 have qx:=zQ hx5
 have hm5:=A4.hm
 unfold Mv.arr at hm5
 have qm:=zQ hm5
 have hy5:=A4.hy
 unfold ExAt Ex.arr at hy5
 have qy:=zQ hy5
 have fy:=zF hy5
 have lx:w.heap.size<W5.heap.size:=zL hx5
 have lm:w.heap.size+1<W5.heap.size:=zL hm5
 have ly:W1.heap.size<W5.heap.size:=zL hy5
 clear hx5 hm5 hy5
 have HA:=zd A4
 clear A4
 go_wp2_with (first|(go_at_call 64;refine (HC.out _ HA.out.ext).mono ?_;rintro e W6 ⟨rfl,hx⟩;have hm6:=heap_ext HA.out.hm hx;unfold Mv.arr at hm6;clear qm qx qy fy lx lm ly;have qm:=zQ hm6;have lm:w.heap.size+1<W6.heap.size:=(zL hm6);have HX6:=zd hx;clear hx hm6)|(refine wpList_load_row rfl 33 _ rfl _ rfl _ _ (0,0) _ (HA.out.hx) zu33 rfl info_ex ?_)|(refine wpList_load_row rfl 33 _ rfl _ rfl _ _ (0,0) _ (HA.out.hy.ext HX6.out) zu33 rfl info_ex ?_)|(refine wpList_store_row rfl 33 _ _ rfl _ _ rfl rfl 33 _ (heap_ext HA.out.hr HX6.out) info_ex rfl (arr_one (x) rfl) ?_))
 refine bodyPost_ret (results_row_tmp rfl _ _ _ 33 _ (0,0) _ rfl (setRow_heap _ _ _ _ _ _ (heap_ext HA.out.hr HX6.out)) zu33 rfl info_ex) rfl ?_
 exact ⟨_,rfl,own_setRow (own_base (b':=w.heap.size) (HA.out.ho.ext HX6.out) (by have:=HA.out.hgy;have:=HA.out.hB;omega)) (heap_ext HA.out.hr HX6.out) (by decide) _,Ext.setRow (HA.out.ext.trans HX6.out) (by omega) _⟩
theorem mo_Step (x:Ex) (v:Value) (m:Mv) (w:World) (B0:Nat) (hO:Own w B0 x.h v) (hn:x.h.length≤100000):Calls Tryz.prog 42 #[.agg (x.arr v),.agg m.arr] w (Stpd w (stepX x m).1 (stepX x m).2):=by
 unfold stepX
 rcases h4:(m.k == 4)
 case true=>
  rw [if_pos (by simpa using h4)]
  rcases hcan:canS x m.l
  ·rw [if_neg (by simp)]
   exact st_ask0 x v m w B0 hO hn h4 hcan
  ·rw [if_pos rfl]
   exact st_ask1 x v m w B0 hO hn h4 hcan
 rw [if_neg (by simpa using h4)]
 rcases h6:(m.k == 6)
 case true=>
  rw [if_pos (by simpa using h6)]
  exact st_full x v m w B0 hO hn h4 h6
 rw [if_neg (by simpa using h6)]
 by_cases hwho:m.who=0∨m.who=1
 case neg=>
  rw [if_neg hwho]
  exact st_who x v m w B0 hO hn h4 h6 (by simp only [not_or] at hwho;simpa using hwho.1) (by simp only [not_or] at hwho;simpa using hwho.2)
 rcases hwho with hw|hw
 ·rw [if_pos (by simp [hw]),show x.bad m.who=x.b0 from by rw [hw];rfl]
  have hP:x.b0=false→∀ e,evX x m=e→partyX x m = { x with s0:=(stepP 0 x.s0 e).1,h:=hearsS x.h m.lost ((stepP 0 x.s0 e).2.map (·.l)) }:=by
   intro _ e he
   unfold partyX
   rw [he,hw]
   rfl
  rcases h5:(m.k == 5)
  case true=>
   rw [if_pos (by simpa using h5)]
   have:=st_bad0 x v m w B0 hO hn h4 h6 h5 hw
   simpa [hw] using this
  rw [if_neg (by simpa using h5)]
  rcases h1:(m.k == 1)
  case true=>
   have k1:m.k=1:=by simpa using h1
   rw [if_pos (.inl k1)]
   rcases hb:x.b0
   ·rw [if_neg (by simp),hP hb _ (by unfold evX;rw [if_pos k1])]
    exact st_10 x v m w B0 hO hn h4 h6 h5 h1 hw hb
   ·rw [if_pos rfl]
    exact st_10bad x v m w B0 hO hn h4 h6 h5 h1 hw hb
  have k1 : ¬m.k=1:=by simpa using h1
  rcases h2:(m.k == 2)
  case true=>
   have k2:m.k=2:=by simpa using h2
   rcases hcan:canS x m.l
   ·rw [if_neg (by simp [k2])]
    exact st_2no0 x v m w B0 hO hn h4 h6 h5 h1 h2 hcan hw
   rw [if_pos (.inr (.inr ⟨k2,rfl⟩))]
   rcases hb:x.b0
   ·rw [if_neg (by simp),hP hb _ (by unfold evX;rw [if_neg k1,if_pos k2])]
    exact st_20 x v m w B0 hO hn h4 h6 h5 h1 h2 hcan hw hb
   ·rw [if_pos rfl]
    exact st_20bad x v m w B0 hO hn h4 h6 h5 h1 h2 hcan hw hb
  have k2 : ¬m.k=2:=by simpa using h2
  rcases h3:(m.k == 3)
  ·have k3 : ¬m.k=3:=by simpa using h3
   rw [if_neg (by simp [k1,k2,k3])]
   exact st_no0 x v m w B0 hO hn h4 h6 h5 h1 h2 h3 hw
  have k3:m.k=3:=by simpa using h3
  rw [if_pos (.inr (.inl k3))]
  rcases hb:x.b0
  ·rw [if_neg (by simp),hP hb _ (by unfold evX;rw [if_neg k1,if_neg k2])]
   exact st_30 x v m w B0 hO hn h4 h6 h5 h1 h2 h3 hw hb
  ·rw [if_pos rfl]
   exact st_30bad x v m w B0 hO hn h4 h6 h5 h1 h2 h3 hw hb
 ·rw [if_pos (by simp [hw]),show x.bad m.who=x.b1 from by rw [hw];rfl]
  have hP:x.b1=false→∀ e,evX x m=e→partyX x m = { x with s1:=(stepP 1 x.s1 e).1,h:=hearsS x.h m.lost ((stepP 1 x.s1 e).2.map (·.l)) }:=by
   intro _ e he
   unfold partyX
   rw [he,hw]
   rfl
  rcases h5:(m.k == 5)
  case true=>
   rw [if_pos (by simpa using h5)]
   have:=st_bad1 x v m w B0 hO hn h4 h6 h5 hw
   simpa [hw] using this
  rw [if_neg (by simpa using h5)]
  rcases h1:(m.k == 1)
  case true=>
   have k1:m.k=1:=by simpa using h1
   rw [if_pos (.inl k1)]
   rcases hb:x.b1
   ·rw [if_neg (by simp),hP hb _ (by unfold evX;rw [if_pos k1])]
    exact st_11 x v m w B0 hO hn h4 h6 h5 h1 hw hb
   ·rw [if_pos rfl]
    exact st_11bad x v m w B0 hO hn h4 h6 h5 h1 hw hb
  have k1 : ¬m.k=1:=by simpa using h1
  rcases h2:(m.k == 2)
  case true=>
   have k2:m.k=2:=by simpa using h2
   rcases hcan:canS x m.l
   ·rw [if_neg (by simp [k2])]
    exact st_2no1 x v m w B0 hO hn h4 h6 h5 h1 h2 hcan hw
   rw [if_pos (.inr (.inr ⟨k2,rfl⟩))]
   rcases hb:x.b1
   ·rw [if_neg (by simp),hP hb _ (by unfold evX;rw [if_neg k1,if_pos k2])]
    exact st_21 x v m w B0 hO hn h4 h6 h5 h1 h2 hcan hw hb
   ·rw [if_pos rfl]
    exact st_21bad x v m w B0 hO hn h4 h6 h5 h1 h2 hcan hw hb
  have k2 : ¬m.k=2:=by simpa using h2
  rcases h3:(m.k == 3)
  ·have k3 : ¬m.k=3:=by simpa using h3
   rw [if_neg (by simp [k1,k2,k3])]
   exact st_no1 x v m w B0 hO hn h4 h6 h5 h1 h2 h3 hw
  have k3:m.k=3:=by simpa using h3
  rw [if_pos (.inr (.inl k3))]
  rcases hb:x.b1
  ·rw [if_neg (by simp),hP hb _ (by unfold evX;rw [if_neg k1,if_neg k2])]
   exact st_31 x v m w B0 hO hn h4 h6 h5 h1 h2 h3 hw hb
  ·rw [if_pos rfl]
   exact st_31bad x v m w B0 hO hn h4 h6 h5 h1 h2 h3 hw hb
theorem one_new {w w1:World} {A:Obj} (hx:Ext (w.alloc A) w1):w1.heap[w.heap.size]?=some A∧Ext w w1:=
 ⟨heap_ext (heap_new rfl) hx,(zR.alloc _).trans hx⟩
theorem mo_final (x:Ex) (v:Value) (who:Int) (w:World) (hw:who=0∨who=1):Calls Tryz.prog 36 #[.agg (x.arr v),.int .i64 who] w fun e w'=>e = .returned (.bool (finX x who))∧Ext w w':=by
 rcases hw with rfl|rfl
 ·have hF:finX x 0=finS x.s0:=rfl
  rw [hF]
  have hO:=fun w=>or_final x.s0.r x.s0.c x.s0.t x.s0.ph x.s0.p.k x.s0.p.f x.s0.p.c x.s0.p.t x.s0.p.b w
  have HO:=zd hO
  clear hO hF
  go_enter Tryz.func36,Tryz.ntmps36
  go_upto_region 1 with fail
  refine wp_forget (fun w'=>ExAt w' w.heap.size x v∧Ext w w') (one_new zR) ?_
  rintro W1 ⟨h1,x1⟩
  unfold ExAt Ex.arr at h1
  have q1:=zQ h1
  have l1:w.heap.size<W1.heap.size:=zL h1
  have HX1:=zd x1
  clear x1 h1
  go_wp2_with (go_at_call 62;refine (HO.out _).mono ?_;rintro e w1 ⟨rfl,hx⟩;have HX:=zd hx;clear hx)
  go_ret
  exact ⟨rfl,HX1.out.trans HX.out⟩
 ·have hF:finX x 1=finA x.s1:=rfl
  rw [hF]
  have hO:=fun w=>an_final x.s1.r x.s1.c x.s1.t x.s1.ph x.s1.p.k x.s1.p.f x.s1.p.c x.s1.p.t x.s1.p.b w
  have HO:=zd hO
  clear hO hF
  go_enter Tryz.func36,Tryz.ntmps36
  go_upto_region 1 with fail
  refine wp_forget (fun w'=>ExAt w' w.heap.size x v∧Ext w w') (one_new zR) ?_
  rintro W1 ⟨h1,x1⟩
  unfold ExAt Ex.arr at h1
  have q1:=zQ h1
  have l1:w.heap.size<W1.heap.size:=zL h1
  have HX1:=zd x1
  clear x1 h1
  go_wp2_with (go_at_call 63;refine (HO.out _).mono ?_;rintro e w1 ⟨rfl,hx⟩;have HX:=zd hx;clear hx)
  go_ret
  exact ⟨rfl,HX1.out.trans HX.out⟩
theorem rf_heard (x:Ex) (v:Value) (l:Lt) (w:World) (hR:Hrd w x v):Calls Tryz.prog 35 #[.agg (x.arr v),.agg #[.int .i64 l.k,.int .i64 l.f,.int .u64 l.c,.string l.t,.bool l.b]] w fun e w'=>e = .returned (.bool (decide (l∈x.h)))∧Ext w w':=by
 obtain ⟨a,cap,rfl,hm,hvw⟩:=row_view hR
 have HV:=zd hvw
 clear hvw hR
 unfold maxLen at hm
 generalize hL:x.h=L at HV hm ⊢
 go_enter Tryz.func35,Tryz.ntmps35
 go_upto_region 1 with fail
 refine wp_forget (fun w'=>ExAt w' w.heap.size x (.slice a L.length cap)∧LtAt w' (w.heap.size+1) l∧Ext w w') (two_new zR) ?_
 rintro W1 ⟨h1,h2,x1⟩
 unfold ExAt Ex.arr at h1
 unfold LtAt at h2
 have c1:=zQ h1
 have c2:=zQ h2
 have l1:w.heap.size<W1.heap.size:=zL h1
 have l2:w.heap.size+1<W1.heap.size:=zL h2
 have X1:=zd x1
 clear h1 h2 x1 hL
 go_wp2_with fail
 go_loopg [5] L.length (fun g ii wr=>∃ (n:Nat) (y:ExtOf W1),ii = .int .i64 (n:Int)∧n+g=L.length∧wr=y.val∧Hid (∀ (j:Nat) z,j<n→L[j]?=some z→z≠l))
 case atStart=>exact ⟨0,⟨W1,zR⟩,rfl,by omega,rfl,zd fun _ _ h=>by omega⟩
 case round=>
  obtain ⟨n,y,rfl,hg,rfl,HN⟩:=hrel
  by_cases hlt:n<L.length
  ·obtain ⟨g,off,rfl,hgl,hcell⟩:=HV.out (by omega)
   have hgl:=hgl (by omega)
   obtain ⟨z,hx⟩ : ∃ x,L[n]?=some x:=⟨_,zG hlt⟩
   obtain ⟨q0,q1,q2,q3,q4⟩:=lt_cellsO (fun j u hj=>cell_keep (hcell j u hj) X1.out) hx
   have HX:=zd hx
   have hgl1:g<W1.heap.size:=zU hgl X1.out.size
   clear hx hcell hgl
   have hlt':(n:Int)<(L.length:Int):=by omega
   by_cases he:z=l
   ·have he':lEq z.k z.f z.c z.t z.b l.k l.f l.c l.t l.b=true:=by rw [lEq_lt];simpa using he
    have HE:=zd he
    clear he
    go_wp2_with fail
    refine wp_region_ext (by kernel_rfl) (by kernel_rfl) ?_
    repeat (go_big_quiet_step (fail))
    refine wpQuiet_nil ?_
    intro _ hx'
    obtain ⟨z',rfl⟩:=hx'
    go_wp2_with fail
    go_ret
    refine ⟨?_,X1.out.trans (y.ext.val z')⟩
    rw [decide_eq_true (mem_of_get (HE.out ▸ HX.out))]
    rfl
   ·have he':lEq z.k z.f z.c z.t z.b l.k l.f l.c l.t l.b=false:=by rw [lEq_lt];simpa using he
    have HE:=zd he
    clear he
    go_wp2_with fail
    refine wp_region_ext (by kernel_rfl) (by kernel_rfl) ?_
    repeat (go_big_quiet_step (fail))
    refine wpQuiet_nil ?_
    intro _ hx'
    obtain ⟨z',rfl⟩:=hx'
    go_wp2_with fail
    go_roundg (gk - 1)
    case rel=>
     refine ⟨n+1,⟨z'.val,y.ext.val z'⟩,rfl,by omega,rfl,zd fun j u hj hu=>?_⟩
     by_cases hjn:j=n
     ·subst hjn
      rw [HX.out,Option.some.injEq] at hu
      rw [←hu]
      exact HE.out
     ·exact HN.out j u (by omega) hu
    case measure=>omega
  ·have hge:(L.length:Int)≤(n:Int):=by omega
   go_wp2_with fail
   go_ret
   refine ⟨?_,X1.out.val y⟩
   rw [decide_eq_false (not_mem_of_all fun j z hz=>HN.out j z (by have:=(zM hz);omega) hz)]
   rfl
def bindB (who:Int) (l:Lt):Bool:=(l.k == 2 && l.f == who) || l.k == 6
theorem boundX_eq (x:Ex) (who:Int):boundX x who=x.h.filter (bindB who):=rfl
theorem mo_bound (x:Ex) (v:Value) (who:Int) (w:World) (hR:Hrd w x v) (hn:x.h.length≤100000):Calls Tryz.prog 44 #[.agg (x.arr v),.int .i64 who] w fun e w'=>∃ a c,e = .returned (.slice a (boundX x who).length c)∧Ext w w':=by
 obtain ⟨i0,hi,hz0,hz1,hz2⟩:=info_parts info_letter
 obtain ⟨a,cap,rfl,hm,hvw⟩:=row_view hR
 have HV:=zd hvw
 clear hvw hR hm
 rw [boundX_eq]
 generalize hL:x.h=L at HV hn ⊢
 go_enter Tryz.func44,Tryz.ntmps44
 go_upto_region 1 with fail
 refine wp_forget (fun w'=>ExAt w' w.heap.size x (.slice a L.length cap)∧Ext w w') (one_new zR) ?_
 rintro W1 ⟨h1,x1⟩
 unfold ExAt Ex.arr at h1
 have c1:=zQ h1
 have l1:w.heap.size<W1.heap.size:=zL h1
 have X1:=zd x1
 clear h1 x1 hL
 go_wp2_with fail
 go_loopg [5,11] L.length (fun g l ii wr=>∃ (n:Nat) (M:List Lt) (y:ExtOf W1),ii = .int .i64 (n:Int)∧n+g=L.length∧wr=y.val∧Hid (M.length≤n∧M++(L.drop n).filter (bindB who)=L.filter (bindB who))∧Hid (Own wr W1.heap.size M l))
 case atStart=>exact ⟨0,[],⟨W1,zR⟩,rfl,by omega,rfl,zd ⟨by simp,by simp⟩,zd (World.ownsRow_nil _ _ _ _)⟩
 case round=>
  obtain ⟨n,M,y,rfl,hg,rfl,HN,HOwn⟩:=hrel
  by_cases hlt:n<L.length
  ·obtain ⟨g,off,rfl,hgl,hcell⟩:=HV.out (by omega)
   have hgl:=hgl (by omega)
   obtain ⟨z,hx⟩ : ∃ x,L[n]?=some x:=⟨_,zG hlt⟩
   obtain ⟨q0,q1,q2,q3,q4⟩:=lt_cellsO (fun j u hj=>cell_keep (hcell j u hj) X1.out) hx
   have HX:=zd hx
   have hgl1:g<W1.heap.size:=zU hgl X1.out.size
   clear hx hcell hgl
   have hlt':(n:Int)<(L.length:Int):=by omega
   have hMl:M.length≤n:=HN.out.1
   have hW1:W1.heap.size≤y.val.heap.size:=y.ext.size
   rcases h2:(z.k == 2)<;>rcases h3:(z.f == who)<;>rcases h6:(z.k == 6)
   all_goals
    have hbd:bindB who z=((z.k == 2 && z.f == who) || z.k == 6):=rfl
    rw [h2,h3,h6] at hbd
    have HB:=zd hbd
    clear hbd
    first
     | (exfalso;simp at h2 h6;omega)
     | skip
    try first
     | (have:((z.k == 2 && z.f == who) || z.k == 6)=false:=by rw [h2,h3,h6];rfl
        clear this
        go_wp2_with fail
        go_roundg (gk - 1)
        case rel=>
         refine ⟨n+1,M,⟨_,y.ext.alloc _⟩,rfl,by omega,rfl,zd ⟨by omega,?_⟩,zd (HOwn.out.ext (zR.alloc _))⟩
         have hh:=HN.out.2
         rw [List.drop_eq_getElem_cons hlt,List.filter_cons] at hh
         have hz:=(List.getElem?_eq_some_iff.1 HX.out).2
         rw [hz,HB.out] at hh
         simpa using hh
        case measure=>omega)
     | (go_wp2_with (at_builtin;refine wpList_app W1.heap.size 31 24 i0 _ 5 48 zu31 hi hz0 hz1 hz2 rfl (by decide) rfl _ _ rfl _ M.length _ rfl (own_ext HOwn.out (((Ext.refl y.val).alloc _).alloc _)) (zT y.ext.size (((Ext.refl y.val).alloc _).alloc _).size) (y.val.heap.size+1) 1 1 _ rfl (heap_new (by simp)) rfl (by simp [Value.oneCell']) (by unfold maxLen;omega) (by omega) ?_;intro v2 w2 hv2 hb2 _)
        go_roundg (gk - 1)
        case rel=>
         refine ⟨n+1,M++[z],⟨w2,((y.ext.alloc _).alloc _).trans' hb2⟩,rfl,by omega,rfl,zd ⟨by simp;omega,?_⟩,zd (by simpa [Own,Lt.cs] using hv2)⟩
         have hh:=HN.out.2
         rw [List.drop_eq_getElem_cons hlt,List.filter_cons] at hh
         have hz:=(List.getElem?_eq_some_iff.1 HX.out).2
         rw [hz,HB.out] at hh
         simpa using hh
        case measure=>omega)
  ·have hge:(L.length:Int)≤(n:Int):=by omega
   obtain ⟨ma,mc,rfl,_⟩:=own_view HOwn.out
   go_wp2_with fail
   go_ret
   refine ⟨ma,mc,?_,X1.out.val y⟩
   have:=HN.out.2
   rw [List.drop_eq_nil_of_le (by omega),List.filter_nil,List.append_nil] at this
   rw [←this]
   rfl
end Go.Proofs.YtlnmhocehgmbbaaGreatDoor

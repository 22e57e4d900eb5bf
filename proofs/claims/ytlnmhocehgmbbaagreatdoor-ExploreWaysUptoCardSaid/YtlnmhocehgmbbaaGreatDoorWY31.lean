/- No condition. -/
import Derived.Test.YtlnmhocehgmbbaaGreatDoorWY24
import Derived.Test.YtlnmhocehgmbbaaGreatDoorWY30
set_option linter.all false
set_option maxRecDepth 100000
set_option maxHeartbeats 6400000
namespace Go.Proofs.YtlnmhocehgmbbaaGreatDoor
open Go.RowKit
attribute [local go_sem ↓] eql_lEq eql_sEq eql_eEq eql_oEq neq_lEq neq_sEq neq_eEq neq_oEq eql_vEq neq_vEq eql_nil eql_mEq
attribute [local go_sem] ExtOf.cell ExtOf.frozen ExtOf.lt ExtOf.le
attribute [local go_sem high] ExtOf.cell2 ExtOf.frozen2 ExtOf.lt2 ExtOf.cell3 ExtOf.frozen3 ExtOf.lt3
def TryP (w0 w:World) (L:List Mv) (lv:Value) (e:Ending) (w':World):Prop:=∃ lv',e = .returned lv'∧Own9 w' w0.heap.size L lv'∧Keeps (rowB lv) w w'∧(∀ g∈rowB lv',g∈rowB lv∨w.heap.size≤g)∧Ext w0 w'
theorem TryP.same {w0 w w':World} {L:List Mv} {lv:Value} (h:Own9 w w0.heap.size L lv) (h0:Ext w0 w) (e:Ext w w'):TryP w0 w L lv (.returned lv) w':=⟨lv,rfl,h.ext e,(Keeps.refl _ w).ext e,fun _ hg=>.inl hg,h0.trans e⟩
theorem keeps_grown2 {X:List Nat} {a b c:World} (h:Keeps X a b) {v:Value} (k:b.grownBy c v.ownBlock) (hv : ∀ g∈rowB v,g∈X∨a.heap.size≤g):Keeps X a c:=
 ⟨k.os.trans h.os,k.tape.trans h.tape,k.output.trans h.output,zT h.size k.size,fun i hi hx=>(k.block i (zU hi h.size) (fun he=>by
   rcases hv i (by unfold rowB;rw [←he];exact .head _) with h1|h1
   ·exact hx h1
   ·omega)).trans (h.block i hi hx)⟩
structure TrAt (w0 w wr:World) (gx gm:Nat) (x:Ex) (v:Value) (m:Mv) (L:List Mv) (lv lv':Value):Prop where
 hx:ExAt wr gx x v
 hm:wr.heap[gm]?=some (.cells m.arr 52 (0,0))
 ol:Own9 wr w0.heap.size L lv'
 kp:Keeps (rowB lv) w wr
 rw : ∀ g∈rowB lv',g∈rowB lv∨w.heap.size≤g
 e0:Ext w0 wr
 lx:w.heap.size≤gx∧w.heap.size≤gm∧gx≠gm∧w0.heap.size≤w.heap.size
 sx:gx∉rowB lv'
 sm:gm∉rowB lv'
section
variable {w0 w wr:World} {gx gm:Nat} {x:Ex} {v:Value} {m:Mv} {L:List Mv} {lv lv':Value}
theorem TrAt.ext (h:TrAt w0 w wr gx gm x v m L lv lv') {w':World} (e:Ext wr w'):TrAt w0 w w' gx gm x v m L lv lv':=⟨heap_ext h.hx e,heap_ext h.hm e,h.ol.ext e,h.kp.ext e,h.rw,h.e0.trans e,h.lx,h.sx,h.sm⟩
theorem TrAt.tryP (h:TrAt w0 w wr gx gm x v m L lv lv'):TryP w0 w L lv (.returned lv') wr:=⟨lv',rfl,h.ol,h.kp,h.rw,h.e0⟩
theorem TrAt.app (h:TrAt w0 w wr gx gm x v m L lv lv') {w4 w5:World} {L2:List Mv} {lv2:Value} (e:Ext wr w4) (g:w4.grownBy w5 lv'.ownBlock) (nw : ∀ g∈rowB lv2,g∈rowB lv'∨w4.heap.size≤g) (o:Own9 w5 w0.heap.size L2 lv2):TrAt w0 w w5 gx gm x v m L2 lv lv2:=by
 have hs:=h.kp.size
 have he:=e.size
 have hlx:=zL h.hx
 have hlm:=zL h.hm
 refine ⟨kept_grown (heap_ext h.hx e) g h.sx,kept_grown (heap_ext h.hm e) g h.sm,o,keeps_grown2 (h.kp.ext e) g h.rw,fun k hk=>?_,ext_append (h.e0.trans e) (h.ol.ext e) zN g,h.lx,fun hk=>?_,fun hk=>?_⟩
 ·rcases nw k hk with h1|h1
  ·exact h.rw k h1
  ·exact .inr (by omega)
 ·rcases nw _ hk with h1|h1
  ·exact h.sx h1
  ·omega
 ·rcases nw _ hk with h1|h1
  ·exact h.sm h1
  ·omega
theorem TrAt.lost (h:TrAt w0 w wr gx gm x v m L lv lv'):TrAt w0 w (wr.setCell ⟨gm,8,none⟩ (.bool true)) gx gm x v (lostM m) L lv lv':=by
 have hl:=h.lx
 have hk:Ext w0 (wr.setCell ⟨gm,8,none⟩ (.bool true)):=⟨h.e0.os,h.e0.tape,h.e0.output,by simpa [World.setCell] using h.e0.size,fun k hk=>(cell_other (by omega)).trans (h.e0.block k hk)⟩
 exact ⟨(cell_other (by omega)).trans h.hx,heap_setCell_same _ _ 8 _ _ (.bool true) h.hm,own_at h.ol fun k hk=>cell_other fun he=>h.sm (he ▸ hk),h.kp.setCell (.inr hl.2.1) 8 _,h.rw,hk,hl,h.sx,h.sm⟩
end
theorem rx_tries (x:Ex) (v:Value) (m:Mv) (L:List Mv) (lv:Value) (w0 w:World) (hR:Hrd w0 x v) (hv:v = .slice none 0 0∨∃ a n c,v = .slice (some a) n c) (hn:x.h.length≤1000) (hw:Ext w0 w) (hO:Own9 w w0.heap.size L lv) (hL:L.length≤100000) :
 Calls Tryz.prog 60 #[.agg (x.arr v),lv,.agg m.arr] w (TryP w0 w (tryS x L m) lv):=by
 obtain ⟨i0,hi,hz0,hz1,hz2⟩:=info_parts info_move
 have hxs:x.arr v=x.arr v:=rfl
 have HSS:=zd (fun w' (hw:Ext w0 w') (m:Mv)=>rx_step x v m w' (hR.ext hw) hv (by omega))
 have HSD:=zd (fun y v' w' (hw:Ext w0 w') (hy:Hrd w' y v')=>doc_same x y v v' w' (hR.ext hw) hy)
 have HO:=zd hO
 have HW:=zd hw
 obtain ⟨la,lc,rfl,hm,hvw⟩:=row_view (Row.of_own hO)
 have HV:=zd hvw
 obtain ⟨xa,xc,rfl,hxm,_⟩:=row_view hR
 clear hvw hO hw hR hv hxs
 unfold maxLen at hm hxm
 go_enter Tryz.func60,Tryz.ntmps60
 go_upto_region 1 with fail
 refine wp_forget (fun w'=>∃ gx gm,gx=w.heap.size∧gm=w.heap.size+1∧ExAt w' gx x (.slice xa x.h.length xc)∧w'.heap[gm]?=some (.cells m.arr 52 (0,0))∧Ext w w') ⟨_,_,rfl,rfl,(two_new zR).1,(two_new zR).2.1,(two_new zR).2.2⟩ ?_
 rintro W1 ⟨gx,gm,hgx,hgm,h1,h2,x1⟩
 rw [←hgm,←hgx]
 have HT1:Hid (TrAt w0 w W1 gx gm x (.slice xa x.h.length xc) m L (.slice la L.length lc) (.slice la L.length lc)):=zd ⟨h1,h2,HO.out.ext x1,(Keeps.refl _ w).ext x1,fun _ h=>.inl h,HW.out.trans x1,by have:=HW.out.size;omega,fun h=>by have:=(own_rowB9 HO.out _ h).2;omega,fun h=>by have:=(own_rowB9 HO.out _ h).2;omega⟩
 have HRL:Hid (∀ g∈rowB (.slice la L.length lc),g<w.heap.size):=zd fun g h=>(own_rowB9 HO.out g h).2
 clear hgx hgm
 have HE1:=zd x1
 unfold Mv.arr at h2
 have c1:=zQ h2
 have l1:gm<W1.heap.size:=zL h2
 clear h1 h2 x1
 go_wp2_with fail
 go_loopg [7] L.length (fun g ii wr=>∃ (n:Nat) (y:ExtOf W1),ii = .int .i64 (n:Int)∧n+g=L.length∧wr=y.val∧Hid (∀ (j:Nat) z,j<n→L[j]?=some z→z≠m))
 case atStart=>exact ⟨0,⟨W1,zR⟩,rfl,by omega,rfl,zd fun _ _ h=>by omega⟩
 case round=>
  obtain ⟨n,y,rfl,hg,rfl,HN⟩:=hrel
  by_cases hlt:n<L.length
  ·obtain ⟨g,off,rfl,hgl,hcell⟩:=HV.out (by omega)
   have hgl:=hgl (by omega)
   obtain ⟨z,hz⟩ : ∃ z,L[n]?=some z:=⟨_,zG hlt⟩
   obtain ⟨q0,q1,q2,q3,q4,q5,q6,q7,q8⟩:=mv_cells (fun j u hj=>cell_keep (hcell j u hj) HE1.out) hz
   have HX:=zd hz
   have hgl1:g<W1.heap.size:=zU hgl HE1.out.size
   clear hz hcell hgl
   have hlt':(n:Int)<(L.length:Int):=by omega
   by_cases he:z=m
   ·have he':mEq z.k z.who z.t z.l.k z.l.f z.l.c z.l.t z.l.b z.lost m.k m.who m.t m.l.k m.l.f m.l.c m.l.t m.l.b m.lost=true:=by rw [mEq_mv];simpa using he
    have HE:=zd he
    clear he
    go_wp2_with fail
    refine wp_region_ext (by kernel_rfl) (by kernel_rfl) ?_
    repeat (go_big_quiet_step (fail))
    refine wpQuiet_nil ?_
    intro _ hx'
    obtain ⟨u,rfl⟩:=hx'
    go_wp2_with fail
    go_ret
    have e:tryS x L m=L:=by unfold tryS;rw [if_pos (HE.out ▸ zE HX.out)]
    rw [e]
    exact TryP.same HO.out HW.out (HE1.out.trans (y.ext.val u))
   ·have he':mEq z.k z.who z.t z.l.k z.l.f z.l.c z.l.t z.l.b z.lost m.k m.who m.t m.l.k m.l.f m.l.c m.l.t m.l.b m.lost=false:=by rw [mEq_mv];simpa using he
    have HE:=zd he
    clear he
    go_wp2_with fail
    refine wp_region_ext (by kernel_rfl) (by kernel_rfl) ?_
    repeat (go_big_quiet_step (fail))
    refine wpQuiet_nil ?_
    intro _ hx'
    obtain ⟨u,rfl⟩:=hx'
    go_wp2_with fail
    go_roundg (gk - 1)
    case rel=>
     refine ⟨n+1,⟨u.val,y.ext.val u⟩,rfl,by omega,rfl,zd fun j z' hj hz'=>?_⟩
     by_cases hjn:j=n
     ·subst hjn
      rw [HX.out,Option.some.injEq] at hz'
      rw [←hz']
      exact HE.out
     ·exact HN.out j z' (by omega) hz'
    case measure=>omega
  ·have hge : ¬(n:Int)<(L.length:Int):=by omega
   have hnm:m∉L:=not_mem_of_allM fun j z hz=>HN.out j z (by have:=(zM hz);omega) hz
   have HNM:=zd hnm
   have HT2:=zd (HT1.out.ext y.ext)
   clear hnm HN HT1 HV hlt
   have hS:=fun w' hw=>HSS.out w' hw m
   have hyl:=step_len x m
   have hD:=sameD_step x m
   have htry:tryS x L m=if (stepX x m).2=false∨sameX x (stepX x m).1=true then L else if x.h.length<(stepX x m).1.h.length∧sameX x (stepX x (lostM m)).1=false then L++[m]++[lostM m] else L++[m]:=by
    unfold tryS
    rw [if_neg HNM.out]
   generalize stepX x m=p at hS hyl hD htry
   obtain ⟨y1,ok⟩:=p
   dsimp only at hS hyl hD htry
   have HTR:=zd htry
   clear htry
   have HS:=zd hS
   have HD:=zd hD
   clear hS hD
   go_upto_region 7 with (first|((with_reducible refine wpList_load_rowG ?_ 33 (.tmp 3) ?_ gx ?_ 33 (x.arr (.slice xa x.h.length xc)) (0,0) _ ?_ zu33 ?_ ?_ ?_);(·rfl);(·rfl);(·rfl);(·exact HT2.out.hx);(·rfl);(·exact info_ex))|(go_at_call 25;refine (HS.out _ HT2.out.e0).mono ?_;rintro e w2 ⟨v',rfl,hy,hx2⟩;have HY:=zd hy;have HX2:=zd hx2;have HV1:=zd hy.one;clear hy hx2)|((with_reducible refine wpList_store_row ?_ 33 (.tmp 8) (.tmp 29) ?_ w2.heap.size (y1.arr v') ?_ ?_ 33 exZ ?_ ?_ ?_ ?_ ?_);(·rfl);(·rfl);(·rfl);(·rfl);(·exact heap_new rfl);(·exact info_ex);(·rfl);(·exact arr_one y1 HV1.out)))
   have hge2:=HT2.out.kp.size
   refine wp_forget (fun w'=>∃ gy,Hid (TrAt w0 w w' gx gm x (.slice xa x.h.length xc) m L (.slice la L.length lc) (.slice la L.length lc))∧gy=w2.heap.size∧ExAt w' gy y1 v'∧Own w' w.heap.size y1.h v') ⟨_,zd (HT2.out.ext (HX2.out.trans (((Ext.refl w2).alloc _).setRow zN _))),rfl,setRow_heap _ _ _ _ _ _ (heap_new rfl),own_base (HY.out.ext (((Ext.refl w2).alloc _).setRow zN _)) hge2⟩ ?_
   have hgy0:w.heap.size≤w2.heap.size:=zT hge2 HX2.out.size
   rintro W3 ⟨gy,HT3,hgy,hY3,hOY⟩
   rw [←hgy]
   rw [←hgy] at hgy0
   obtain ⟨a',cap',rfl,_,_⟩:=own_view hOY
   have HY3:=zd hY3
   have HOY:=zd hOY
   have HGY:=zd hgy0
   have hmv:=HT3.out.hm
   unfold Mv.arr at hmv
   have qm:=zQ hmv
   have lm:gm<W3.heap.size:=zL hmv
   clear hmv hgy hgy0 hge2 HY HX2 HV1 HT2 c1 l1 hg hge y HE1 HO hY3 hOY HS
   rcases ok
   case false=>
    go_wp2_with fail
    go_ret
    rw [HTR.out,if_pos (Or.inl (by trivial))]
    exact HT3.out.tryP
   have hSA:=fun w' (hw:Ext W3 w')=>HSD.out y1 (.slice a' y1.h.length cap') w' (HT3.out.e0.trans hw) (Row.of_own (HOY.out.ext hw))
   rw [HD.out] at hSA
   rcases hsame:sameX x y1
   case true=>
    rw [hsame] at hSA
    have HSA:=zd hSA
    clear hSA
    go_wp2_with (first|((with_reducible refine wpList_load_rowG ?_ 33 (.tmp 3) ?_ gx ?_ 33 (x.arr (.slice xa x.h.length xc)) (0,0) _ ?_ zu33 ?_ ?_ ?_);(·rfl);(·rfl);(·rfl);(·exact HT3.out.hx);(·rfl);(·exact info_ex))|((with_reducible refine wpList_load_rowG ?_ 33 (.tmp 8) ?_ gy ?_ 33 (y1.arr (.slice a' y1.h.length cap')) (0,0) _ ?_ zu33 ?_ ?_ ?_);(·rfl);(·rfl);(·rfl);(·exact HY3.out);(·rfl);(·exact info_ex))|(go_at_call 16;refine (HSA.out _ zR).mono ?_;rintro e w3 ⟨rfl,hx⟩;obtain ⟨z3,rfl⟩:=ext_of hx;clear hx))
    go_ret
    rw [HTR.out,if_pos (.inr hsame)]
    exact (HT3.out.ext z3.ext).tryP
   rw [hsame] at hSA
   have HSA:=zd hSA
   clear hSA
   go_upto_region 9 with (first|((with_reducible refine wpList_load_rowG ?_ 33 (.tmp 3) ?_ gx ?_ 33 (x.arr (.slice xa x.h.length xc)) (0,0) _ ?_ zu33 ?_ ?_ ?_);(·rfl);(·rfl);(·rfl);(·exact HT3.out.hx);(·rfl);(·exact info_ex))|((with_reducible refine wpList_load_rowG ?_ 33 (.tmp 8) ?_ gy ?_ 33 (y1.arr (.slice a' y1.h.length cap')) (0,0) _ ?_ zu33 ?_ ?_ ?_);(·rfl);(·rfl);(·rfl);(·exact HY3.out);(·rfl);(·exact info_ex))|(go_at_call 16;refine (HSA.out _ zR).mono ?_;rintro e w3 ⟨rfl,hx⟩;obtain ⟨z3,rfl⟩:=ext_of hx;clear hx))
   have hTR:=HTR.out
   rw [if_neg (by rw [hsame];simp)] at hTR
   have HTS:=zd hTR
   clear hTR HTR
   have HT4:=zd (HT3.out.ext z3.ext)
   have HGE4:Hid (w0.heap.size≤z3.val.heap.size):=zd (HT4.out.e0.size)
   go_upto_region 10 with (first|(at_builtin;refine wpList_app6 w0.heap.size 48 52 i0 _ 9 88 zu48 hi hz0 hz1 hz2 rfl (by decide) rfl _ _ rfl _ L.length _ rfl (HT4.out.ol.ext ((Ext.refl z3.val).alloc _)) (zT HGE4.out ((Ext.refl z3.val).alloc _).size) z3.val.heap.size 1 1 _ (by omega) rfl (heap_new rfl) rfl (by simp [Value.oneCell']) (by unfold maxLen;omega) (by omega) ?_;intro v2 w5 hv2 _ hgr hnw;have HO5:Hid (Own9 w5 w0.heap.size (L++[m]) v2):=zd (own9_one hv2 rfl (by simp [Mv.cs]));have HT5:=zd (HT4.out.app ((Ext.refl z3.val).alloc _) hgr hnw HO5.out);have HY5:=zd (kept_grown (heap_ext HY3.out (z3.ext.alloc _)) hgr (fun hm=>by have:=HRL.out _ hm;have:=HGY.out;omega));clear hv2 hgr hnw))
   refine wp_forget (fun w'=>Hid (TrAt w0 w w' gx gm x (.slice xa x.h.length xc) m (L++[m]) (.slice la L.length lc) v2)∧w'.heap[gy]?=some (.cells (y1.arr (.slice a' y1.h.length cap')) 33 (0,0))) ⟨HT5,HY5.out⟩ ?_
   clear HT5 HO5 HY5 HT4 HGE4 HT3 HY3 HOY HSA qm lm HGY HRL
   rintro W5 ⟨HT5,hY5⟩
   unfold Ex.arr at hY5
   have q25:=zQ hY5 25
   have ly:gy<W5.heap.size:=zL hY5
   have hx5:=HT5.out.hx
   unfold ExAt Ex.arr at hx5
   have qx25:=zQ hx5 25
   have lx:gx<W5.heap.size:=zL hx5
   have hm5:=HT5.out.hm
   unfold Mv.arr at hm5
   have qm:=zQ hm5
   have fm:=zF hm5
   have lm:gm<W5.heap.size:=zL hm5
   clear hY5 hx5 hm5
   by_cases hgt:x.h.length<y1.h.length
   case neg=>
    have hgt' : ¬(x.h.length:Int)<(y1.h.length:Int):=by omega
    have HGT:=zd hgt
    clear hgt
    go_wp2_with fail
    go_ret
    rw [HTS.out,if_neg (fun h=>HGT.out h.1)]
    exact HT5.out.tryP
   have hgt':(x.h.length:Int)<(y1.h.length:Int):=by omega
   have HGT:=zd hgt
   clear hgt
   go_upto_region 12 with fail
   refine wp_forget (fun w'=>Hid (TrAt w0 w w' gx gm x (.slice xa x.h.length xc) (lostM m) (L++[m]) (.slice la L.length lc) v2)) (zd HT5.out.lost) ?_
   clear q25 ly qx25 lx qm fm lm HT5
   intro W6 HT6
   have hS:=fun w' hw=>HSS.out w' hw (lostM m)
   have hD:=sameD_step x (lostM m)
   have hTS:=HTS.out
   generalize stepX x (lostM m)=p at hS hD hTS
   obtain ⟨z1,ok2⟩:=p
   dsimp only at hS hD hTS
   have HTR:=zd hTS
   clear hTS HTS
   have HS:=zd hS
   have HD:=zd hD
   have hmv:=HT6.out.hm
   unfold Mv.arr lostM at hmv
   have qm:=zQ hmv
   have lm:gm<W6.heap.size:=zL hmv
   clear hS hD hmv
   go_upto_region 13 with (first|((with_reducible refine wpList_load_rowG ?_ 33 (.tmp 3) ?_ gx ?_ 33 (x.arr (.slice xa x.h.length xc)) (0,0) _ ?_ zu33 ?_ ?_ ?_);(·rfl);(·rfl);(·rfl);(·exact HT6.out.hx);(·rfl);(·exact info_ex))|(go_at_call 25;refine (HS.out _ HT6.out.e0).mono ?_;rintro e w7 ⟨v7,rfl,hy,hx2⟩;have HY:=zd hy;have HX2:=zd hx2;have HV1:=zd hy.one;clear hy hx2)|((with_reducible refine wpList_store_row ?_ 33 (.tmp 10) (.tmp 55) ?_ w7.heap.size (z1.arr v7) ?_ ?_ 33 exZ ?_ ?_ ?_ ?_ ?_);(·rfl);(·rfl);(·rfl);(·rfl);(·exact heap_new rfl);(·exact info_ex);(·rfl);(·exact arr_one z1 HV1.out)))
   refine wp_forget (fun w'=>∃ gz,Hid (TrAt w0 w w' gx gm x (.slice xa x.h.length xc) (lostM m) (L++[m]) (.slice la L.length lc) v2)∧gz=w7.heap.size∧ExAt w' gz z1 v7∧Own w' w.heap.size z1.h v7) ⟨_,zd (HT6.out.ext (HX2.out.trans (((Ext.refl w7).alloc _).setRow zN _))),rfl,setRow_heap _ _ _ _ _ _ (heap_new rfl),own_base (HY.out.ext (((Ext.refl w7).alloc _).setRow zN _)) HT6.out.kp.size⟩ ?_
   rintro W8 ⟨gz,HT8,hgz,hY8,hOY⟩
   rw [←hgz]
   have HY8:=zd hY8
   have hSA:=fun w' (hw:Ext W8 w')=>HSD.out z1 v7 w' (HT8.out.e0.trans hw) (Row.of_own (hOY.ext hw))
   rw [HD.out] at hSA
   have hmv:=HT8.out.hm
   unfold Mv.arr lostM at hmv
   have qm:=zQ hmv
   have lm:gm<W8.heap.size:=zL hmv
   clear hmv hgz hY8 hOY HY HX2 HT6 HS
   rcases hsame:sameX x z1
   case true=>
    rw [hsame] at hSA
    have HSA:=zd hSA
    clear hSA
    go_wp2_with (first|((with_reducible refine wpList_load_rowG ?_ 33 (.tmp 3) ?_ gx ?_ 33 (x.arr (.slice xa x.h.length xc)) (0,0) _ ?_ zu33 ?_ ?_ ?_);(·rfl);(·rfl);(·rfl);(·exact HT8.out.hx);(·rfl);(·exact info_ex))|((with_reducible refine wpList_load_rowG ?_ 33 (.tmp 10) ?_ gz ?_ 33 (z1.arr v7) (0,0) _ ?_ zu33 ?_ ?_ ?_);(·rfl);(·rfl);(·rfl);(·exact HY8.out);(·rfl);(·exact info_ex))|(go_at_call 16;refine (HSA.out _ zR).mono ?_;rintro e w9 ⟨rfl,hx⟩;obtain ⟨z3,rfl⟩:=ext_of hx;clear hx))
    go_ret
    rw [HTR.out,if_neg (fun h=>by rw [hsame] at h;cases h.2)]
    exact (HT8.out.ext z3.ext).tryP
   rw [hsame] at hSA
   have HSA:=zd hSA
   clear hSA
   go_upto_region 14 with (first|((with_reducible refine wpList_load_rowG ?_ 33 (.tmp 3) ?_ gx ?_ 33 (x.arr (.slice xa x.h.length xc)) (0,0) _ ?_ zu33 ?_ ?_ ?_);(·rfl);(·rfl);(·rfl);(·exact HT8.out.hx);(·rfl);(·exact info_ex))|((with_reducible refine wpList_load_rowG ?_ 33 (.tmp 10) ?_ gz ?_ 33 (z1.arr v7) (0,0) _ ?_ zu33 ?_ ?_ ?_);(·rfl);(·rfl);(·rfl);(·exact HY8.out);(·rfl);(·exact info_ex))|(go_at_call 16;refine (HSA.out _ zR).mono ?_;rintro e w9 ⟨rfl,hx⟩;obtain ⟨z3,rfl⟩:=ext_of hx;clear hx))
   have HT9:=zd (HT8.out.ext z3.ext)
   have HGE9:Hid (w0.heap.size≤z3.val.heap.size):=zd (HT9.out.e0.size)
   have hL1:(L++[m]).length=L.length+1:=by simp
   go_wp2_with (at_builtin;refine wpList_app6 w0.heap.size 48 52 i0 _ 9 88 zu48 hi hz0 hz1 hz2 rfl (by decide) rfl _ _ rfl v2 (L++[m]).length _ rfl (HT9.out.ol.ext ((Ext.refl z3.val).alloc _)) (zT HGE9.out ((Ext.refl z3.val).alloc _).size) z3.val.heap.size 1 1 _ (by omega) rfl (heap_new rfl) rfl (by simp [Value.oneCell']) (by unfold maxLen;omega) (by omega) ?_;intro v10 w10 hv10 _ hgr hnw;have HO10:Hid (Own9 w10 w0.heap.size (L++[m]++[lostM m]) v10):=zd (own9_one hv10 rfl (by simp [Mv.cs,lostM]));have HT10:=zd (HT9.out.app ((Ext.refl z3.val).alloc _) hgr hnw HO10.out);clear hv10 hgr hnw)
   go_ret
   rw [HTR.out,if_pos ⟨HGT.out,hsame⟩]
   exact HT10.out.tryP
end Go.Proofs.YtlnmhocehgmbbaaGreatDoor
namespace Go.Proofs.YtlnmhocehgmbbaaGreatDoor
open Go.RowKit
attribute [local go_sem ↓] eql_lEq eql_sEq eql_eEq eql_oEq neq_lEq neq_sEq neq_eEq neq_oEq eql_vEq neq_vEq eql_nil
attribute [local go_sem] ExtOf.cell ExtOf.frozen ExtOf.lt ExtOf.le
attribute [local go_sem high] ExtOf.cell2 ExtOf.frozen2 ExtOf.lt2 ExtOf.cell3 ExtOf.frozen3 ExtOf.lt3
theorem rx_lines0 (x:Ex) (w:World):Calls Tryz.prog 61 #[.int .i64 0,.agg #[.int .i64 x.s0.r,.int .u64 x.s0.c,.string x.s0.t,.int .i64 x.s0.ph,.int .i64 x.s0.p.k,.int .i64 x.s0.p.f,.int .u64 x.s0.p.c,.string x.s0.p.t,.bool x.s0.p.b]] w (Made w 24 5 (linesS evsS x 0).length ((linesS evsS x 0).flatMap Lt.cs)):=by
 obtain ⟨i0,hi,hz0,hz1,hz2⟩:=info_parts info_letter
 have hE:=fun w=>rf_events x.s0.r x.s0.c x.s0.t x.s0.ph x.s0.p.k x.s0.p.f x.s0.p.c x.s0.p.t x.s0.p.b w
 have hel:=evs_len x.s0
 rw [lines0]
 change ∀ w,Calls Tryz.prog 86 _ w (Made w 102 8 (evsS x.s0).length ((evsS x.s0).flatMap Ev.cs)) at hE
 generalize evsS x.s0=L at hE hel ⊢
 have HE:=zd hE
 clear hE
 go_enter Tryz.func61,Tryz.ntmps61
 go_upto_region 1 with fail
 refine wp_forget (fun w'=>∃ gs,gs=w.heap.size∧w'.heap[gs]?=some (.cells #[.int .i64 x.s0.r,.int .u64 x.s0.c,.string x.s0.t,.int .i64 x.s0.ph,.int .i64 x.s0.p.k,.int .i64 x.s0.p.f,.int .u64 x.s0.p.c,.string x.s0.p.t,.bool x.s0.p.b] 26 (0,0))∧Ext w w') ⟨_,rfl,heap_new rfl,zR.alloc _⟩ ?_
 rintro W1 ⟨gs,hgs,h1,x1⟩
 rw [←hgs]
 clear hgs
 have q1:=zQ h1
 have l1:gs<W1.heap.size:=zL h1
 have HX1:=zd x1
 clear x1 h1
 go_wp2_with (go_at_call 86;refine (HE.out _).mono ?_;rintro e w2 ⟨vr,rfl,hv,hx⟩;obtain ⟨a,cap,rfl,hm,hvw⟩:=own_view hv;have HV:=zd hvw;have HX2:=zd hx;unfold maxLen at hm;clear hvw hv hx)
 refine wp_forget (fun w'=>w2=w') rfl ?_
 rintro _ rfl
 go_loopg [8,10] L.length (fun g l ii wr=>∃ (n:Nat) (M:List Lt) (y:ExtOf w2),ii = .int .i64 (n:Int)∧n+g=L.length∧wr=y.val∧Hid (M.length≤n∧M++((L.drop n).filter evB).map (·.l)=(L.filter evB).map (·.l))∧Hid (Own wr w2.heap.size M l))
 case atStart=>exact ⟨0,[],⟨w2,zR⟩,rfl,by omega,rfl,zd ⟨by simp,by simp⟩,zd (World.ownsRow_nil _ _ _ _)⟩
 case round=>
  obtain ⟨n,M,y,rfl,hg,rfl,HN,HOwn⟩:=hrel
  by_cases hlt:n<L.length
  ·obtain ⟨g,rfl,_,hgl,hcell⟩:=HV.out (by omega)
   obtain ⟨z,hx⟩ : ∃ x,L[n]?=some x:=⟨_,zG hlt⟩
   obtain ⟨q0,q1,q2,q3,q4,q5,q6,q7⟩:=ev_cells hcell hx
   have HX:=zd hx
   clear hx hcell
   have hlt':(n:Int)<(L.length:Int):=by omega
   have hMl:M.length≤n:=HN.out.1
   have hW1:w2.heap.size≤y.val.heap.size:=y.ext.size
   rcases h2:(z.k == 2)
   ·have HB:Hid (evB z=false):=zd h2
    go_wp2_with fail
    go_roundg (gk - 1)
    case rel=>
     refine ⟨n+1,M,⟨_,y.ext⟩,rfl,by omega,rfl,zd ⟨by omega,?_⟩,zd HOwn.out⟩
     have hh:=HN.out.2
     rw [List.drop_eq_getElem_cons hlt,List.filter_cons] at hh
     have hz:=(List.getElem?_eq_some_iff.1 HX.out).2
     rw [hz,HB.out] at hh
     simpa using hh
    case measure=>omega
   ·have HB:Hid (evB z=true):=zd h2
    go_wp2_with (at_builtin;refine wpList_app w2.heap.size 31 24 i0 _ 5 48 zu31 hi hz0 hz1 hz2 rfl (by decide) rfl _ _ rfl _ M.length _ rfl (own_ext HOwn.out ((Ext.refl y.val).alloc _)) (zT y.ext.size ((Ext.refl y.val).alloc _).size) y.val.heap.size 1 1 _ rfl (heap_new rfl) rfl (by simp [Value.oneCell']) (by unfold maxLen;omega) (by omega) ?_;intro v2 w3 hv2 hb2 _)
    go_roundg (gk - 1)
    case rel=>
     refine ⟨n+1,M++[z.l],⟨w3,(y.ext.alloc _).trans' hb2⟩,rfl,by omega,rfl,zd ⟨by simp;omega,?_⟩,zd (by simpa [Own,Lt.cs] using hv2)⟩
     have hh:=HN.out.2
     rw [List.drop_eq_getElem_cons hlt,List.filter_cons] at hh
     have hz:=(List.getElem?_eq_some_iff.1 HX.out).2
     rw [hz,HB.out] at hh
     simpa using hh
    case measure=>omega
  ·have hge : ¬(n:Int)<(L.length:Int):=by omega
   go_wp2_with fail
   go_ret
   have hh:=HN.out.2
   rw [List.drop_eq_nil_of_le (by omega),List.filter_nil,List.map_nil,List.append_nil] at hh
   have hO:=HOwn.out
   rw [hh] at hO
   unfold Own at hO
   rw [List.length_map] at hO
   exact ⟨_,rfl,own_base hO (zT HX1.out.size HX2.out.size),HX1.out.trans (HX2.out.trans y.ext)⟩
theorem rx_lines1 (x:Ex) (w:World):Calls Tryz.prog 61 #[.int .i64 1,.agg #[.int .i64 x.s1.r,.int .u64 x.s1.c,.string x.s1.t,.int .i64 x.s1.ph,.int .i64 x.s1.p.k,.int .i64 x.s1.p.f,.int .u64 x.s1.p.c,.string x.s1.p.t,.bool x.s1.p.b]] w (Made w 24 5 (linesS evsS x 1).length ((linesS evsS x 1).flatMap Lt.cs)):=by
 go_enter Tryz.func61,Tryz.ntmps61
 go_upto_region 1 with fail
 refine wp_forget (fun w'=>∃ gs,gs=w.heap.size∧w'.heap[gs]?=some (.cells #[.int .i64 x.s1.r,.int .u64 x.s1.c,.string x.s1.t,.int .i64 x.s1.ph,.int .i64 x.s1.p.k,.int .i64 x.s1.p.f,.int .u64 x.s1.p.c,.string x.s1.p.t,.bool x.s1.p.b] 26 (0,0))∧Ext w w') ⟨_,rfl,heap_new rfl,zR.alloc _⟩ ?_
 rintro W1 ⟨gs,hgs,h1,x1⟩
 rw [←hgs]
 clear hgs
 have q1:=zQ h1
 have l1:gs<W1.heap.size:=zL h1
 have HX1:=zd x1
 have HS1:=zd h1
 clear x1 h1
 go_upto_region 5 with fail
 refine wp_forget (fun w'=>∃ g1 g2,g1=W1.heap.size∧g2=W1.heap.size+1∧w'.heap[g1]?=some (.cells #[.int .i64 1,.int .i64 0,.int .u64 x.s1.c,.string x.s1.t,.bool false] 24 (0,0))∧w'.heap[g2]?=some (.cells #[.int .i64 2,.int .i64 0,.int .u64 x.s1.c,.string x.s1.t,.bool false] 24 (0,0))∧Ext W1 w') ⟨_,_,rfl,rfl,heap_ext (heap_new rfl) (zR.alloc _),heap_new (by simp),((Ext.refl W1).alloc _).alloc _⟩ ?_
 clear q1 l1
 rintro W2 ⟨g1,g2,hg1,hg2,k1,k2,x2⟩
 rw [←hg2,←hg1]
 have hs2:=heap_ext HS1.out x2
 have qs:=zQ hs2
 have ls:gs<W2.heap.size:=zL hs2
 have q1:=zQ k1
 have l1:g1<W2.heap.size:=zL k1
 have K1:=zd k1
 have K2:=zd k2
 have HX2:=zd (HX1.out.trans x2)
 have HS2:=zd hs2
 clear hs2 k1 k2 x2 hg1 hg2 HS1
 go_upto_region 7 with fail
 refine wp_forget (fun w'=>∃ g3,g3=W2.heap.size∧w'.heap[g3]?=some (.cells #[.int .i64 6,.int .i64 0,.int .u64 x.s1.c,.string x.s1.t,.bool false] 24 (0,0))∧Ext W2 w') ⟨_,rfl,heap_new rfl,(Ext.refl W2).alloc _⟩ ?_
 clear q1 l1 qs ls
 rintro W3 ⟨g3,hg3,k3,x3⟩
 rw [←hg3]
 have hs3:=heap_ext HS2.out x3
 have qs:=zQ hs3
 have ls:gs<W3.heap.size:=zL hs3
 have k1:=heap_ext K1.out x3
 have k2:=heap_ext K2.out x3
 have q1:=zQ k1
 have l1:g1<W3.heap.size:=zL k1
 have q2:=zQ k2
 have l2:g2<W3.heap.size:=zL k2
 have q3:=zQ k3
 have l3:g3<W3.heap.size:=zL k3
 have HX3:=zd (HX2.out.trans x3)
 clear hs3 k1 k2 k3 x3 hg3
 go_wp2_with fail
 go_ret
 have e:linesS evsS x 1=[⟨1,0,x.s1.c,x.s1.t,false⟩,⟨2,0,x.s1.c,x.s1.t,false⟩,⟨5,0,x.s1.c,{ data:=#[] },false⟩,⟨6,0,x.s1.c,x.s1.t,false⟩]:=by simp [linesS]
 rw [e]
 exact ⟨_,rfl,own_new HX3.out rfl (by decide) rfl rfl,HX3.out.alloc _⟩
def tl1 (evs:St→List Ev) (x:Ex) (T:List ByteArray) (n:Nat):List Mv:=(List.range n).flatMap fun i:Nat=>tryP evs x T (i:Int)
def corM (i:Int):Mv:=⟨5,i,{ data:=#[] },l0,false⟩
def tl3 (n:Nat):List Mv:=(List.range n).map fun i:Nat=>corM (i:Int)
theorem tl1_succ {evs:St→List Ev} {x:Ex} {T:List ByteArray} {n:Nat} : tl1 evs x T (n+1)=tl1 evs x T n++tryP evs x T (n:Int):=by simp [tl1,List.range_succ,List.flatMap_append]
theorem tl3_succ {n:Nat} : tl3 (n+1)=tl3 n++[corM (n:Int)]:=by simp [tl3,List.range_succ]
theorem tryL_eq (evs:St→List Ev) (x:Ex) (T:List ByteArray):tryL evs x T=tl1 evs x T 2++[askA x.c]++cand2 x T 2++tl3 2:=by
 simp [tryL,tl1,tl3,cand2,corM,List.range_succ]
theorem tl1_len (x:Ex) (T:List ByteArray) : ∀ n,(tl1 evsS x T n).length≤n*(T.length+5)
 | 0=>by simp [tl1]
 | n+1=>by
  rw [tl1_succ,List.length_append]
  have h1:=tl1_len x T n
  have h2:=lines_len evs_len x (n:Int)
  have h3:(tryP evsS x T (n:Int)).length≤T.length+5:=by
   unfold tryP
   simp
   omega
  rw [Nat.add_mul]
  omega
theorem tryF_len (x:Ex) : ∀ (c l:List Mv),(c.foldl (tryS x) l).length≤l.length+2*c.length
 | [],l=>by simp
 | m::c,l=>by
  rw [List.foldl_cons]
  have h1:=tryF_len x c (tryS x l m)
  have h2:=tryS_len x l m
  simp only [List.length_cons]
  omega
def MvAt (W1 wr:World) (x:Ex) (c:List Mv) (lv:Value):Prop:=Own9 wr W1.heap.size (c.foldl (tryS x) []) lv∧Ext W1 wr
theorem MvAt.ext {W1 wr w':World} {x:Ex} {c:List Mv} {lv:Value} (h:MvAt W1 wr x c lv) (e:Ext wr w'):MvAt W1 w' x c lv:=⟨h.1.ext e,h.2.trans e⟩
def MvP (W1 w:World) (x:Ex) (c:List Mv) (lv:Value) (e:Ending) (w':World):Prop:=∃ lv',e = .returned lv'∧MvAt W1 w' x c lv'∧Keeps (rowB lv) w w'∧∀ g∈rowB lv',g∈rowB lv∨w.heap.size≤g
theorem mv_try (x:Ex) (v:Value) (m:Mv) (c:List Mv) (lv:Value) (W1 w:World) (hR:Hrd W1 x v) (hv:v = .slice none 0 0∨∃ a n c,v = .slice (some a) n c) (hn:x.h.length≤1000) (h:MvAt W1 w x c lv) (hc:c.length≤40000) :
 Calls Tryz.prog 60 #[.agg (x.arr v),lv,.agg m.arr] w (MvP W1 w x (c++[m]) lv):=by
 have hl:=tryF_len x c []
 simp only [List.length_nil] at hl
 refine (rx_tries x v m _ lv W1 w hR hv hn h.2 h.1 (by omega)).mono ?_
 rintro e w' ⟨lv',rfl,ho,hk,hr,hx⟩
 refine ⟨lv',rfl,⟨?_,hx⟩,hk,hr⟩
 rw [List.foldl_append]
 exact ho
theorem RowAt.keep {w w':World} {e:TypeId} {a:Option Addr} {xs:List Value} {l l':Value} (h:RowAt w e a xs l) (hg:Keeps (rowB l) w w') (hl : ∀ g∈rowB l',g∈rowB l∨w.heap.size≤g):RowAt w' e a xs l':=fun hne=>by
 obtain ⟨gb,cur,h1,h2,h3,h4⟩:=h hne
 refine ⟨gb,cur,h1,keeps_heap h2 hg h3,fun hm=>?_,h4⟩
 have hlt:=zL h2
 rcases hl gb hm with h|h
 ·exact h3 h
 ·omega
theorem RowAt.ext {w w':World} {e:TypeId} {a:Option Addr} {xs:List Value} {l:Value} (h:RowAt w e a xs l) (hx:Ext w w'):RowAt w' e a xs l:=fun hne=>by
 obtain ⟨gb,cur,h1,h2,h3,h4⟩:=h hne
 exact ⟨gb,cur,h1,heap_ext h2 hx,h3,h4⟩
def st2 (x:Ex) (n:Nat):St:=if n=0 then x.s0 else x.s1
theorem rx_lines (x:Ex) (n:Nat) (w:World) (h:n<2):Calls Tryz.prog 61 #[.int .i64 (n:Int),.agg #[.int .i64 (st2 x n).r,.int .u64 (st2 x n).c,.string (st2 x n).t,.int .i64 (st2 x n).ph,.int .i64 (st2 x n).p.k,.int .i64 (st2 x n).p.f,.int .u64 (st2 x n).p.c,.string (st2 x n).p.t,.bool (st2 x n).p.b]] w (Made w 24 5 (linesS evsS x n).length ((linesS evsS x n).flatMap Lt.cs)):=by
 obtain rfl|rfl:n=0∨n=1:=by omega
 ·exact rx_lines0 x w
 ·exact rx_lines1 x w
theorem st2_range {w:World} {g n:Nat} {x:Ex} {v:Value} (h:ExAt w g x v) (hn:n<2):w.rangeAt g (1+n*9) [.int .i64 (st2 x n).r,.int .u64 (st2 x n).c,.string (st2 x n).t,.int .i64 (st2 x n).ph,.int .i64 (st2 x n).p.k,.int .i64 (st2 x n).p.f,.int .u64 (st2 x n).p.c,.string (st2 x n).p.t,.bool (st2 x n).p.b]:=by
 obtain rfl|rfl:n=0∨n=1:=by omega
 ·exact range_of_row h 1 9 _ rfl
 ·exact range_of_row h 10 9 _ rfl
theorem rx_moves (x:Ex) (v tv:Value) (T:List ByteArray) (w:World) (hR:Hrd w x v) (hv:v = .slice none 0 0∨∃ a n c,v = .slice (some a) n c) (hn:x.h.length≤1000) (hT:Row w 1 tv T.length (T.map Value.string)) (hTn:T.length≤1000) :
 Calls Tryz.prog 34 #[.agg (x.arr v),tv] w (Made w 52 9 (movesS evsS x T).length ((movesS evsS x T).flatMap Mv.cs)):=by
 obtain ⟨xa,xc,rfl,hxm,_⟩:=row_view hR
 have HVV:=zd hv
 obtain ⟨ta,tc,rfl,hm,hvw⟩:=row_view hT
 have HV:=zd hvw
 clear hvw hT hv hxm
 unfold maxLen at hm
 have hMM:=(moves_doc evsS x T).symm
 rw [tryL_eq] at hMM
 generalize movesS evsS x T=MM at hMM ⊢
 have c1l:=tl1_len x T
 have c2l:=cand2_len x T
 have hLs:=lines_len evs_len x
 generalize hC1:tl1 evsS x T=C1 at c1l hMM
 have HC1:=zd hC1
 generalize hC2:cand2 x T=C2 at c2l hMM
 have HMM:=zd hMM
 have HC2:=zd hC2
 have HC1L:=zd c1l
 have HC2L:=zd c2l
 clear hC1 hC2 c1l c2l hMM
 go_enter Tryz.func34,Tryz.ntmps34
 go_upto_region 2 with fail
 refine wp_forget (fun w'=>∃ gx,gx=w.heap.size∧ExAt w' gx x (.slice xa x.h.length xc)∧Ext w w') ⟨_,rfl,(one_new zR).1,(one_new zR).2⟩ ?_
 rintro W1 ⟨gx,hgx,h1,x1⟩
 rw [←hgx]
 clear hgx
 have HX1:=zd h1
 have HE1:=zd x1
 have HR1:=zd (hR.ext x1)
 have HM0:Hid (MvAt W1 W1 x [] (.slice none 0 0)):=zd ⟨World.ownsRow_nil W1 _ _ _,zR⟩
 clear h1 x1 hR
 have HQT:Hid (∀ j t,T[j]?=some t→∃ g off,ta=some ⟨g,off,none⟩∧∀ w',Ext W1 w'→w'.cell? ⟨g,off+j,none⟩=some (.string t)∧g<w'.heap.size):=zd (fun j t ht=>by
  obtain ⟨g,off,hg,hgl,hcell⟩:=HV.out (by have:=(zM ht);omega)
  have hgl:=hgl (by omega)
  exact ⟨g,off,hg,fun w' hw'=>⟨cell_keep (str_cell hcell ht) (HE1.out.trans hw'),zU hgl (HE1.out.trans hw').size⟩⟩)
 clear HV
 go_upto_region 3 with fail
 go_loopg [5,6] 2 (fun g l ii wr=>∃ (n:Nat),ii = .int .i64 (n:Int)∧n+g=2∧Hid (MvAt W1 wr x (C1 n) l))
 case atStart=>exact ⟨0,rfl,rfl,zd (by rw [←HC1.out];exact HM0.out)⟩
 case round=>
  clear HM0
  obtain ⟨n,rfl,hg,HM⟩:=hrel
  rename World=>Wr
  by_cases hlt:n<2
  case neg=>
   have hge : ¬(n:Int)<2:=by omega
   have hM2:=HM.out
   rw [show n=2 by omega] at hM2
   have HM2:=zd hM2
   have hC12:(C1 2).length≤2*(T.length+5):=HC1L.out 2
   have hX2:=heap_ext HX1.out hM2.2
   have HX2:=zd hX2
   unfold ExAt Ex.arr at hX2
   have q0:=zQ hX2 0
   have lx:gx<Wr.heap.size:=zL hX2
   clear hM2 HM hX2
   go_upto_region 16 with (first|((with_reducible refine wpList_load_rowG ?_ 33 (.tmp 2) ?_ gx ?_ 33 (x.arr (.slice xa x.h.length xc)) (0,0) _ ?_ zu33 ?_ ?_ ?_);(·rfl);(·rfl);(·rfl);(·exact HX2.out);(·rfl);(·exact info_ex))|(go_at_call 60;refine (mv_try x (.slice xa x.h.length xc) (askA x.c) (C1 2) _ W1 _ HR1.out HVV.out hn (HM2.out) (by omega)).mono ?_;rintro e w5 ⟨lv5,rfl,hm5,hk5,hr5⟩))
   have HM5:=zd hm5
   clear hm5 hk5 hr5 q0 lx HX2 HM2
   refine wp_forget (fun w'=>w5=w') rfl ?_
   rintro _ rfl
   go_upto_region 17 with fail
   go_loopg [5,10] 2 (fun g l ii wr=>∃ (m:Nat),ii = .int .i64 (m:Int)∧m+g=2∧Hid (MvAt W1 wr x (C1 2++[askA x.c]++C2 m) l))
   case atStart=>exact ⟨0,rfl,rfl,zd (by rw [←HC2.out,show cand2 x T 0=[] from rfl,List.append_nil];exact HM5.out)⟩
   case round=>
    clear HM5
    obtain ⟨m,rfl,hgm,HM⟩:=hrel
    rename World=>Wr
    by_cases hlm:m<2
    case neg=>
     have hge2 : ¬(m:Int)<2:=by omega
     have hM2:=HM.out
     rw [show m=2 by omega] at hM2
     have HM2:=zd hM2
     have hC22:(C2 2).length≤2*T.length:=Nat.le_of_eq (HC2L.out 2)
     clear hM2 HM
     go_wp2_with fail
     go_loopg [5,12] 2 (fun g l ii wr=>∃ (m:Nat),ii = .int .i64 (m:Int)∧m+g=2∧Hid (MvAt W1 wr x (C1 2++[askA x.c]++C2 2++tl3 m) l))
     case atStart=>exact ⟨0,rfl,rfl,zd (by simpa [tl3] using HM2.out)⟩
     case round=>
      clear HM2
      obtain ⟨p,rfl,hgp,HM⟩:=hrel
      rename World=>Wr
      by_cases hlp:p<2
      case neg=>
       have hge3 : ¬(p:Int)<2:=by omega
       go_wp2_with fail
       go_ret
       have hM3:=HM.out
       rw [show p=2 by omega] at hM3
       unfold MvAt at hM3
       rw [←HMM.out] at hM3
       exact ⟨_,rfl,own_base hM3.1 HE1.out.size,HE1.out.trans hM3.2⟩
      have hlp':(p:Int)<2:=by omega
      have hcl:(C1 2++[askA x.c]++C2 2++tl3 p).length≤40000:=by simp [tl3];omega
      have HX2:=zd (heap_ext HX1.out HM.out.2)
      go_wp2_with (first|((with_reducible refine wpList_load_rowG ?_ 33 (.tmp 2) ?_ gx ?_ 33 (x.arr (.slice xa x.h.length xc)) (0,0) _ ?_ zu33 ?_ ?_ ?_);(·rfl);(·rfl);(·rfl);(·exact HX2.out);(·rfl);(·exact info_ex))|(go_at_call 60;refine (mv_try x (.slice xa x.h.length xc) (corM p) (C1 2++[askA x.c]++C2 2++tl3 p) _ W1 _ HR1.out HVV.out hn (HM.out) (hcl)).mono ?_;rintro e w5 ⟨lv5,rfl,hm5,hk5,hr5⟩))
      go_roundg (gk - 1)
      case rel=>
       refine ⟨p+1,rfl,by omega,zd ?_⟩
       rw [tl3_succ,←List.append_assoc]
       exact hm5
      case measure=>omega
    have hlm':(m:Int)<2:=by omega
    have hC2m:(C2 m).length≤2*T.length:=zT (Nat.le_of_eq (HC2L.out m)) (Nat.mul_le_mul_right _ (by omega))
    go_wp2_with fail
    go_loopg [5,11] T.length (fun g l ii wr=>∃ (j:Nat),ii = .int .i64 (j:Int)∧j+g=T.length∧Hid (MvAt W1 wr x (C1 2++[askA x.c]++C2 m++(T.take j).map (askR x.c m)) l))
    case atStart=>exact ⟨0,rfl,by omega,zd (by simpa using HM.out)⟩
    case round=>
     clear HM
     obtain ⟨j,rfl,hgj,HM⟩:=hrel
     rename World=>Wr
     by_cases hj:j<T.length
     ·obtain ⟨t,ht⟩ : ∃ t,T[j]?=some t:=⟨_,zG hj⟩
      have hj':(j:Int)<(T.length:Int):=by omega
      have hcl:(C1 2++[askA x.c]++C2 m++(T.take j).map (askR x.c m)).length≤40000:=by simp;omega
      have HTT:=zd ht
      have HE:=zd HM.out.2
      obtain ⟨g,off,rfl,hq⟩:=HQT.out j t ht
      have HQ:=zd hq
      clear ht hq
      go_upto_region 22 with fail
      refine wp_region_mix (af:=?af3) [true,true,true,true,true,true,true,true,true,true,true,false,false] 97 (Ext W1) (by kernel_rfl) rfl (by kernel_rfl) (fun _ _ h e=>Ext.trans h e) HE.out.drew ?q3 ?r3
      case q3=>
       intro w' hw'
       obtain ⟨qt,lt⟩:=HQ.out w' hw'
       have hX2:=heap_ext HX1.out hw'
       unfold ExAt Ex.arr at hX2
       have q0:=zQ hX2 0
       have lx:gx<w'.heap.size:=zL hX2
       clear hX2
       simp only [pickT,if_true,if_false,Bool.false_eq_true]
       (go_big_quiet_want;refine quiet_load_rowX 33 _ rfl _ rfl _ _ (0,0) _ (heap_ext HX1.out hw') zu33 rfl info_ex ?_;go_big_quiet_on;simp only [Act.put,List.setIfInBounds_toArray,List.set_cons_succ,List.set_cons_zero])
       repeat (go_big_quiet_step (fail))
       refine wpQuiet_nil ?_
       exact rfl
      case r3=>
       simp only [pickF,if_true,if_false,Bool.false_eq_true]
       intro x1
       go_wp2_with fail
       refine (mv_try x (.slice xa x.h.length xc) (askR x.c m t) (C1 2++[askA x.c]++C2 m++(T.take j).map (askR x.c m)) _ W1 _ HR1.out HVV.out hn (HM.out.ext (zR.drew.val x1)) hcl).mono ?_
       rintro e w5 ⟨lv5,rfl,hm5,hk5,hr5⟩
       go_wp2_with fail
       refine ⟨hm5.2,?_⟩
       intro x2
       go_wp2_with fail
       refine ⟨hm5.2.trans x2.ext,?_⟩
       intro x3
       have hm6:=(hm5.ext x2.ext).ext x3.ext
       generalize x3.val=W6 at hm6 ⊢
       go_wp2_with fail
       go_roundg (gk - 1)
       case rel=>
        refine ⟨j+1,rfl,by omega,zd ?_⟩
        rw [take_map _ HTT.out,←List.append_assoc]
        exact hm6
       case measure=>omega
     ·have hj' : ¬(j:Int)<(T.length:Int):=by omega
      go_wp2_with fail
      go_roundg (1 - m)
      case rel=>
       refine ⟨m+1,rfl,by omega,zd ?_⟩
       have hM3:=HM.out
       rw [List.take_of_length_le (by omega)] at hM3
       rw [←HC2.out,cand2_succ,HC2.out,←List.append_assoc]
       exact hM3
      case measure=>omega
  have hlt':(n:Int)<2:=by omega
  have hC1n:(C1 n).length≤2*(T.length+5):=zT (HC1L.out n) (Nat.mul_le_mul_right _ (by omega))
  go_wp2_with fail
  go_loopg [5,7] T.length (fun g l ii wr=>∃ (j:Nat),ii = .int .i64 (j:Int)∧j+g=T.length∧Hid (MvAt W1 wr x (C1 n++(T.take j).map (startM n)) l))
  case atStart=>exact ⟨0,rfl,by omega,zd (by simpa using HM.out)⟩
  case round=>
   clear HM
   obtain ⟨j,rfl,hgj,HM⟩:=hrel
   rename World=>Wr
   by_cases hj:j<T.length
   ·obtain ⟨t,ht⟩ : ∃ t,T[j]?=some t:=⟨_,zG hj⟩
    have hj':(j:Int)<(T.length:Int):=by omega
    have hcl:(C1 n++(T.take j).map (startM n)).length≤40000:=by simp;omega
    have HTT:=zd ht
    have HE:=zd HM.out.2
    obtain ⟨g,off,rfl,hq⟩:=HQT.out j t ht
    have HQ:=zd hq
    clear ht hq
    go_upto_region 8 with fail
    refine wp_region_mix (af:=?af1) [true,true,true,true,true,true,true,true,false,false] 97 (Ext W1) (by kernel_rfl) rfl (by kernel_rfl) (fun _ _ h e=>Ext.trans h e) HE.out.drew ?q1 ?r1
    case q1=>
     intro w' hw'
     obtain ⟨qt,lt⟩:=HQ.out w' hw'
     simp only [pickT,if_true,if_false,Bool.false_eq_true]
     (go_big_quiet_want;refine quiet_load_rowX 33 _ rfl _ rfl _ _ (0,0) _ (heap_ext HX1.out hw') zu33 rfl info_ex ?_;go_big_quiet_on;simp only [Act.put,List.setIfInBounds_toArray,List.set_cons_succ,List.set_cons_zero])
     repeat (go_big_quiet_step (fail))
     refine wpQuiet_nil ?_
     exact rfl
    case r1=>
     simp only [pickF,if_true,if_false,Bool.false_eq_true]
     intro x1
     go_wp2_with fail
     refine (mv_try x (.slice xa x.h.length xc) (startM n t) (C1 n++(T.take j).map (startM n)) _ W1 _ HR1.out HVV.out hn (HM.out.ext (zR.drew.val x1)) hcl).mono ?_
     rintro e w5 ⟨lv5,rfl,hm5,hk5,hr5⟩
     go_wp2_with fail
     refine ⟨hm5.2,?_⟩
     intro x2
     go_wp2_with fail
     refine ⟨hm5.2.trans x2.ext,?_⟩
     intro x3
     have hm6:=(hm5.ext x2.ext).ext x3.ext
     generalize x3.val=W6 at hm6 ⊢
     go_wp2_with fail
     go_roundg (gk - 1)
     case rel=>
      refine ⟨j+1,rfl,by omega,zd ?_⟩
      rw [take_map _ HTT.out,←List.append_assoc]
      exact hm6
     case measure=>omega
   ·have hj' : ¬(j:Int)<(T.length:Int):=by omega
    have hM2:=HM.out
    rw [List.take_of_length_le (by omega)] at hM2
    have HM2:=zd hM2
    have hR2:=st2_range (heap_ext HX1.out hM2.2) hlt
    have HR2:=zd hR2
    have hLn:=hLs (n:Int)
    generalize hlg:linesS evsS x (n:Int)=Ls at hLn
    have HLG:=zd hlg
    have hln:=rx_lines x n Wr hlt
    rw [hlg] at hln
    have HLN:=zd hln
    clear hM2 HM hR2 hlg hln
    go_upto_region 10 with (first|((with_reducible refine wpList_load_midG 26 (.tmp 35) ?_ gx (1+n*9) ?_ ?_ [.int .i64 (st2 x n).r,.int .u64 (st2 x n).c,.string (st2 x n).t,.int .i64 (st2 x n).ph,.int .i64 (st2 x n).p.k,.int .i64 (st2 x n).p.f,.int .u64 (st2 x n).p.c,.string (st2 x n).p.t,.bool (st2 x n).p.b] _ ?_ zu26 ?_ ?_ ?_);(·rfl);(·rfl);(·kernel_rfl);(·exact HR2.out);(·rfl);(·exact info_s26))|(go_at_call 61;refine HLN.out.mono ?_;rintro e w4 ⟨vr,rfl,hv,hx⟩;obtain ⟨va,vc,rfl,hm4,hra⟩:=row_at hv zR (fun g hg=>(own_rowB9 HM2.out.1 g hg).2);have HRA:=zd hra;have HM4:=zd (HM2.out.ext hx);unfold maxLen at hm4;clear hv hx hra))
    refine wp_forget (fun w'=>w4=w') rfl ?_
    rintro _ rfl
    go_upto_region 11 with fail
    go_loopg [5,9] Ls.length (fun g l ii wr=>∃ (k:Nat),ii = .int .i64 (k:Int)∧k+g=Ls.length∧Hid (MvAt W1 wr x (C1 n++T.map (startM n)++(Ls.take k).map (takeM n)) l)∧Hid (RowAt wr 24 va (Ls.flatMap Lt.cs) l))
    case atStart=>exact ⟨0,rfl,by omega,zd (by simpa using HM4.out),HRA⟩
    case round=>
     clear HM4 HRA HM2 HR2 HLN
     obtain ⟨k,rfl,hgk,HM,HRA⟩:=hrel
     rename World=>Wr
     by_cases hk:k<Ls.length
     ·obtain ⟨ll,hll⟩ : ∃ t,Ls[k]?=some t:=⟨_,zG hk⟩
      obtain ⟨gb,cur,rfl,hob,hnb,hcu⟩:=HRA.out (flat_ne hll)
      have HCU:=zd (fun w' (hw:w'.heap[gb]?=some (.cells cur 24 (0,0)))=>lt_cells0 (fun j u hj=>(cell_of_row w' gb j cur _ (0,0) hw).trans (hcu j u hj)) hll)
      have HL:=zd hll
      have HOB:=zd hob
      have HE:=zd HM.out.2
      clear hob hnb hcu hll
      have hk':(k:Int)<(Ls.length:Int):=by omega
      have hcl:(C1 n++T.map (startM n)++(Ls.take k).map (takeM n)).length≤40000:=by simp;omega
      go_upto_region 13 with fail
      refine wp_region_mix (af:=?af2) [true,true,true,true,true,true,true,true,false,false] 97 (fun w'=>Ext W1 w'∧w'.heap[gb]?=some (.cells cur 24 (0,0))) (by kernel_rfl) rfl (by kernel_rfl) (fun _ _ h e=>⟨Ext.trans h.1 e,heap_ext h.2 e⟩) ⟨HE.out.drew,heap_ext HOB.out zR.drew⟩ ?q2 ?r2
      case q2=>
       rintro w' ⟨hw',hob'⟩
       obtain ⟨q0,q1,q2,q3,q4⟩:=HCU.out w' hob'
       have lg:=zL hob'
       clear hob'
       simp only [pickT,if_true,if_false,Bool.false_eq_true]
       (go_big_quiet_want;refine quiet_load_rowX 33 _ rfl _ rfl _ _ (0,0) _ (heap_ext HX1.out hw') zu33 rfl info_ex ?_;go_big_quiet_on;simp only [Act.put,List.setIfInBounds_toArray,List.set_cons_succ,List.set_cons_zero])
       repeat (go_big_quiet_step (fail))
       refine wpQuiet_nil ?_
       exact rfl
      case r2=>
       simp only [pickF,if_true,if_false,Bool.false_eq_true]
       intro x1
       go_wp2_with fail
       refine (mv_try x (.slice xa x.h.length xc) (takeM n ll) (C1 n++T.map (startM n)++(Ls.take k).map (takeM n)) _ W1 _ HR1.out HVV.out hn (HM.out.ext (zR.drew.val x1)) hcl).mono ?_
       rintro e w5 ⟨lv5,rfl,hm5,hk5,hr5⟩
       have hra5:=(HRA.out.ext (zR.drew.val x1)).keep hk5 hr5
       have hob5:w5.heap[gb]?=some (.cells cur 24 (0,0)):=by
        obtain ⟨gb2,cur2,e1,e2,e3,e4⟩:=HRA.out (flat_ne HL.out)
        cases e1
        rw [HOB.out] at e2
        cases e2
        exact keeps_heap (heap_ext HOB.out (zR.drew.val x1)) hk5 e3
       go_wp2_with fail
       refine ⟨⟨hm5.2,hob5⟩,?_⟩
       intro x2
       go_wp2_with fail
       refine ⟨⟨hm5.2.trans x2.ext,heap_ext hob5 x2.ext⟩,?_⟩
       intro x3
       have hm6:=(hm5.ext x2.ext).ext x3.ext
       have hra6:=(hra5.ext x2.ext).ext x3.ext
       generalize x3.val=W6 at hm6 hra6 ⊢
       go_wp2_with fail
       go_roundg (gk - 1)
       case rel=>
        refine ⟨k+1,rfl,by omega,zd ?_,zd hra6⟩
        rw [take_map _ HL.out,←List.append_assoc]
        exact hm6
       case measure=>omega
     ·have hk' : ¬(k:Int)<(Ls.length:Int):=by omega
      have hM2:=HM.out
      rw [List.take_of_length_le (by omega),←HLG.out] at hM2
      have HM2:=zd hM2
      have hcl:(C1 n++T.map (startM n)++(linesS evsS x (n:Int)).map (takeM n)).length≤40000:=by rw [HLG.out];simp;omega
      clear hM2 HM HRA
      go_wp2_with (first|((with_reducible refine wpList_load_rowG ?_ 33 (.tmp 2) ?_ gx ?_ 33 (x.arr (.slice xa x.h.length xc)) (0,0) _ ?_ zu33 ?_ ?_ ?_);(·rfl);(·rfl);(·rfl);(·exact heap_ext HX1.out HM2.out.2);(·rfl);(·exact info_ex))|(go_at_call 60;refine (mv_try x (.slice xa x.h.length xc) (tickM n) (C1 n++T.map (startM n)++(linesS evsS x (n:Int)).map (takeM n)) _ W1 _ HR1.out HVV.out hn (HM2.out) (hcl)).mono ?_;rintro e w5 ⟨lv5,rfl,hm5,hk5,hr5⟩))
      go_roundg (1 - n)
      case rel=>
       refine ⟨n+1,rfl,by omega,zd ?_⟩
       rw [←HC1.out,tl1_succ,HC1.out]
       unfold tryP
       rw [←List.append_assoc,←List.append_assoc]
       exact hm5
      case measure=>omega
end Go.Proofs.YtlnmhocehgmbbaaGreatDoor

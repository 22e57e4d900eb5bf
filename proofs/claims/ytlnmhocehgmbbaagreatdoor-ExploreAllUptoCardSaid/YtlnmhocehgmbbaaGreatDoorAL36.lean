/- No condition. -/
import Derived.Test.YtlnmhocehgmbbaaGreatDoorAL11
import Derived.Test.YtlnmhocehgmbbaaGreatDoorAL25
import Derived.Test.YtlnmhocehgmbbaaGreatDoorAL30
import Derived.Test.YtlnmhocehgmbbaaGreatDoorAL35
set_option linter.all false
set_option maxRecDepth 100000
set_option maxHeartbeats 1600000
namespace Go.Proofs.YtlnmhocehgmbbaaGreatDoor
open Go.RowKit
attribute [local go_sem ↓] eql_lEq eql_sEq eql_eEq eql_oEq neq_lEq neq_sEq neq_eEq neq_oEq eql_vEq neq_vEq eql_nil
attribute [local go_sem] ExtOf.cell ExtOf.frozen ExtOf.lt ExtOf.le
attribute [local go_sem high] ExtOf.cell2 ExtOf.frozen2 ExtOf.lt2 ExtOf.cell3 ExtOf.frozen3 ExtOf.lt3
def DH (wS:World) (x0:Ex) (v0:Value) (w:World) (p:Fd×Value):Prop:=(∃ B : {n // wS.heap.size≤n},Own w B.1 p.1.x.h p.2)∨((Hrd wS p.1.x p.2∧(p.2 = .slice none 0 0∨∃ a n c,p.2 = .slice (some a) n c))∧p.1.x.h=x0.h∧p.2=v0)
theorem DH.hrd {wS:World} {x0:Ex} {v0:Value} {w w':World} {p:Fd×Value} (h:DH wS x0 v0 w p) (e:Ext wS w) (e':Ext w w'):Hrd w' p.1.x p.2:=by
 rcases h with ⟨B,o⟩|⟨⟨o,_⟩,_⟩
 ·exact Row.of_own (own_ext o e')
 ·exact o.ext (e.trans e')
theorem DH.vv {wS:World} {x0:Ex} {v0:Value} {w:World} {p:Fd×Value} (h:DH wS x0 v0 w p):p.2 = .slice none 0 0∨∃ a n c,p.2 = .slice (some a) n c:=by
 rcases h with ⟨B,o⟩|⟨⟨_,o⟩,_⟩
 ·rcases o.2 with ⟨hv,_⟩|⟨g,cap,cur,hv,_⟩
  ·exact .inl hv
  ·exact .inr ⟨_,_,_,hv⟩
 ·exact o
theorem DH.one {wS:World} {x0:Ex} {v0:Value} {w:World} {p:Fd×Value} (h:DH wS x0 v0 w p):p.2.oneCell'=true:=by rcases h.vv with h|⟨_,_,_,h⟩<;>(rw [h];rfl)
structure DAt (wS:World) (x0:Ex) (v0:Value) (gr:Nat) (r:Rg) (tv:Value) (L:List (Fd×Value)) (lv:Value) (w:World):Prop where
 ext:Ext wS w
 rg:RgAt w gr r tv
 lr:DRow w wS.heap.size L lv
 hh : ∀ p∈L,DH wS x0 v0 w p
section
variable {wS:World} {x0:Ex} {v0:Value} {gr:Nat} {r:Rg} {tv:Value} {L:List (Fd×Value)} {lv:Value} {w w' w3:World}
theorem DAt.ext' (h:DAt wS x0 v0 gr r tv L lv w) (e:Ext w w'):DAt wS x0 v0 gr r tv L lv w':=⟨h.ext.trans e,h.rg.ext e,h.lr.ext e,fun p hp=>(h.hh p hp).imp (fun ⟨B,o⟩=>⟨B,own_ext o e⟩) id⟩
theorem DAt.tag (h:DAt wS x0 v0 gr r tv L lv w) (g3:w.grownBy w3 lv.ownBlock) {b:Nat} {cs:Array Value} {t:TypeId} {fr:Nat×Nat} (hb:w.heap[b]?=some (.cells cs t fr)) (ht:t≠54):w3.heap[b]?=some (.cells cs t fr):=by
 rw [g3.block b (zL hb) (fun he=>tag_ne h.lr hb ht (by unfold rowB;rw [←he];exact .head _))]
 exact hb
theorem DAt.row (h:DAt wS x0 v0 gr r tv L lv w) (g3:w.grownBy w3 lv.ownBlock) {B:Nat} {e:TypeId} {size n:Nat} {v:Value} {xs:List Value} (ho:w.ownsRow B e size v n xs) (he:e≠54):w3.ownsRow B e size v n xs:=own_at ho fun b hb=>by
 obtain ⟨cur,hc⟩:=row_tag ho hb
 rw [hc]
 exact h.tag g3 hc he
theorem drow_one {B:Nat} {p:Fd×Value} {v:Value} {n:Nat} {xs:List Value} (h:w.ownsRow B 54 36 v n xs) (hn:n=L.length+1) (hx:xs=L.flatMap fvC++fvC p):DRow w B (L++[p]) v:=by
 subst hn hx
 unfold DRow
 rw [List.length_append,List.flatMap_append]
 simpa using h
theorem DAt.add (h:DAt wS x0 v0 gr r tv L lv w) {p:Fd×Value} {lv':Value} (o3:DRow w3 wS.heap.size (L++[p]) lv') (g3:w.grownBy w3 lv.ownBlock) (b3:Below wS.heap.size w w3) (hp : ∃ B : {n // wS.heap.size≤n},Own w B.1 p.1.x.h p.2):DAt wS x0 v0 gr r tv (L++[p]) lv' w3:=by
 refine ⟨h.ext.trans' b3,h.tag g3 h.rg (by decide),o3,fun q hq=>?_⟩
 rcases List.mem_append.1 hq with hq|hq
 ·exact (h.hh q hq).imp (fun ⟨B,o⟩=>⟨B,h.row g3 o (by decide)⟩) id
 ·rw [List.mem_singleton.1 hq]
  obtain ⟨B,o⟩:=hp
  exact .inl ⟨B,h.row g3 o (by decide)⟩
end
theorem mv_range {w:World} {g off:Nat} {L:List Mv} {k:Nat} {x:Mv} (h : ∀ j u,(L.flatMap Mv.cs)[j]?=some u→w.cell? ⟨g,off+j,none⟩=some u) (hx:L[k]?=some x):w.rangeAt g (off+k*9) x.arr.toList:=fun j u hj=>by
 have hjl:j<9:=zM hj
 rw [Nat.add_assoc]
 refine h _ _ ?_
 rw [flat_get Mv.cs 9 (fun _=>rfl) L k x hx j hjl]
 exact hj
theorem info_found2:(Tryz.prog.info? 54).map (fun i=>(i.zero,i.size,i.bytes))=some (some fdZ,36,344):=by kernel_rfl
def DaP (w:World) (x:Ex) (v:Value) (R:List Fd×Bool) (e:Ending) (w':World):Prop:=
 ∃ (L:List (Fd×Value)) (lv:Value),L.map (·.1)=R.1∧e = .returned (.tuple #[lv,.bool R.2])∧DRow w' w.heap.size L lv∧(∀ p∈L,Hrd w' p.1.x p.2∧(p.2 = .slice none 0 0∨∃ a n c,p.2 = .slice (some a) n c)∧p.1.x.h.length≤300∧((∃ B : {n // w.heap.size≤n},Own w' B.1 p.1.x.h p.2)∨(p.1.x.h=x.h∧p.2=v)))∧Ext w w'
theorem rr_all (x:Ex) (v:Value) (r:Rg) (tv:Value) (w:World) (hR:Hrd w x v) (hv:v = .slice none 0 0∨∃ a n c,v = .slice (some a) n c) (hn:x.h.length≤100) (hT:Row w 1 tv r.t.length (r.t.map Value.string)) (hTn:r.t.length≤1000) (hm:r.m≤100) :
 Calls Tryz.prog 12 #[.agg (x.arr v),.agg (r.arr tv)] w (DaP w x v (goD (mostR r) (movesR evsS · r) x)):=by
 have HRD:=zd hR
 have HVV:=zd hv
 have HT:=zd hT
 obtain ⟨R,hRR⟩ : ∃ R,R=goD (mostR r) (movesR evsS · r) x:=⟨_,rfl⟩
 rw [←hRR]
 have HR:=zd hRR
 obtain ⟨most,hmost⟩ : ∃ most,mostR r=most:=⟨_,rfl⟩
 have HMO:=zd hmost
 have hm1:min (max r.m 1) 20000=(most:Int):=by
  rw [←hmost]
  unfold mostR
  omega
 have hml:1≤most∧most≤100:=by omega
 have HML:=zd hml
 have HM1:=zd hm1
 clear hR hv hT hRR hmost hm1 hml
 go_enter Tryz.func12,Tryz.ntmps12
 go_upto_region 1 with fail
 refine wp_forget (fun w'=>∃ gx gr,gx=w.heap.size∧gr=w.heap.size+1∧ExAt w' gx x v∧RgAt w' gr r tv∧Ext w w') ⟨_,_,rfl,rfl,(two_new zR).1,(two_new zR).2.1,(two_new zR).2.2⟩ ?_
 rintro W1 ⟨gx,gr,hgx,hgr,h1,h2,x1⟩
 rw [←hgr,←hgx]
 clear hgr hgx
 have HX1:=zd h1
 have HR1:=zd h2
 have HE1:=zd x1
 unfold RgAt Rg.arr at h2
 have qr3:=zQ h2 3
 have lr1:gr<W1.heap.size:=zL h2
 clear h1 h2 x1
 go_upto_if 16 with fail
 go_cut [6] from 13 (fun s6 wc=>s6 = .int .i64 (most:Int)∧wc=W1)
 case first=>
  have hm1:=HM1.out
  have hml:=HML.out
  by_cases hlow:r.m<1
  ·have e1:most=1:=by omega
   have E1:=zd e1
   clear hm1 hml e1
   go_wp2_with fail
   go_meet
   exact ⟨by rw [E1.out];rfl,rfl⟩
  ·have e1:r.m=(most:Int):=by omega
   have E1:=zd e1
   clear hm1 hml e1
   go_wp2_with fail
   go_meet
   exact ⟨by rw [E1.out],rfl⟩
 case rest=>
 obtain ⟨rfl,rfl⟩:=hcut
 rename World=>W1
 have e2 : ¬(20000:Int)<(most:Int):=by have:=HML.out;omega
 go_upto_region 6 with fail
 clear e2
 go_upto_region 7 with ((with_reducible refine wpList_load_rowG ?_ 33 (.tmp 2) ?_ gx ?_ 33 #[.int .u64 x.c,.int .i64 x.s0.r,.int .u64 x.s0.c,.string x.s0.t,.int .i64 x.s0.ph,.int .i64 x.s0.p.k,.int .i64 x.s0.p.f,.int .u64 x.s0.p.c,.string x.s0.p.t,.bool x.s0.p.b,.int .i64 x.s1.r,.int .u64 x.s1.c,.string x.s1.t,.int .i64 x.s1.ph,.int .i64 x.s1.p.k,.int .i64 x.s1.p.f,.int .u64 x.s1.p.c,.string x.s1.p.t,.bool x.s1.p.b,.int .u64 x.v.c,.int .i64 x.v.k,.string x.v.t,.bool x.b0,.bool x.b1,.bool x.full,v] (0,0) _ ?_ zu33 ?_ ?_ ?_);(·rfl);(·rfl);(·rfl);(·exact HX1.out);(·rfl);(·exact info_ex))
 refine wp_forget (fun w'=>∃ gb,Hid (gb=W1.heap.size)∧w'.heap[gb]?=some (.cells (fvC (⟨x,-1,m0⟩,v)).toArray 54 (0,0))∧Ext W1 w') ⟨W1.heap.size,zd rfl,heap_new rfl,zR.alloc _⟩ ?_
 rintro W3 ⟨gb,HGB,h32,x3⟩
 rw [←HGB.out]
 have K6:Hid (DAt w x v gr r tv [(⟨x,-1,m0⟩,v)] (.slice (some ⟨gb,0,none⟩) 1 1) W3):=zd (by
  have hgb:=HGB.out
  have s1:=HE1.out.size
  refine ⟨HE1.out.trans x3,HR1.out.ext x3,⟨by simp [fvC_len],.inr ⟨gb,1,_,rfl,by omega,h32,Nat.le_refl _,by decide,by simp [fvC_len],by
   rw [List.take_of_length_le (by simp [fvC_len])]
   simp⟩⟩,fun p hp=>?_⟩
  rw [List.mem_singleton.1 hp]
  exact .inr ⟨⟨HRD.out,HVV.out⟩,rfl,rfl⟩)
 have HR2:Hid (R=outD most (movesR evsS · r) (most+1) 0 [⟨x,-1,m0⟩]):=zd (by
  have:=HR.out
  rw [HMO.out] at this
  exact this)
 have hml:=HML.out
 clear h32 x3 HGB HR HMO HX1 HR1 HE1 qr3 lr1
 go_wp2_with fail
 go_loopg [7,8] (most+1) (fun g l ii wr=>∃ (k:Nat) (L:List (Fd×Value)),ii = .int .i64 (k:Int)∧k+g=most+1∧k≤L.length∧L.length≤most∧Hid (DAt w x v gr r tv L l wr)∧Hid (∀ p∈L,p.1.x.h.length≤100+L.length)∧Hid (R=outD most (movesR evsS · r) g k (L.map (·.1))))
 case atStart=>exact ⟨0,[(⟨x,-1,m0⟩,v)],rfl,by omega,Nat.zero_le _,by simp;omega,K6,zd (fun p hp=>by rw [List.mem_singleton.1 hp];simp;omega),HR2⟩
 case round=>
  clear K6 HR2
  obtain ⟨k,L,rfl,hg,hkL,hLm,HK,HOK,HRk⟩:=hrel
  rename World=>Wr
  obtain ⟨ga,gcap,hlv⟩:=own_sl HK.out.lr
  subst hlv
  by_cases hlt:k<L.length
  case neg=>
   have i1 : ¬(k:Int)<(L.length:Int):=by omega
   go_wp2_with fail
   refine ⟨rfl,.tuple #[.slice ga L.length gcap,.bool true],by simp [results,go_sem],?_⟩
   have h1:=HRk.out
   rw [outD_none (List.getElem?_eq_none (by rw [List.length_map];omega))] at h1
   rw [h1]
   exact ⟨L,_,rfl,rfl,HK.out.lr,fun p hp=>⟨(HK.out.hh p hp).hrd HK.out.ext zR,(HK.out.hh p hp).vv,by have:=HOK.out p hp;omega,(HK.out.hh p hp).imp id (·.2)⟩,HK.out.ext⟩
  have i1:(k:Int)<(L.length:Int):=by omega
  obtain ⟨p,hp⟩ : ∃ p,L[k]?=some p:=⟨_,zG hlt⟩
  obtain ⟨g0,cap,hv,hgl,hmx,hrg0⟩:=drow_f HK.out.lr hp
  have hrg:=drow_x hrg0
  cases hv
  unfold maxLen at hmx
  have hop:=HK.out.hh p (zE hp)
  have hpx:=HOK.out p (zE hp)
  have hM:=fun w' (hw:Ext Wr w')=>rr_moves p.1.x p.2 r tv w' (hop.hrd HK.out.ext hw) hop.vv (by omega) (Row.ext HT.out (HK.out.ext.trans hw)) hTn
  have HM:=zd hM
  have HP:=zd hp
  have HRG:=zd hrg
  clear hM hop hrg hrg0 hp
  go_upto_region 10 with fail
  refine wp_region_mixE (af:=?af) [true,true,true,true,true,true,false,false] 74 (by kernel_rfl) rfl (by kernel_rfl) ?q ?r
  case q=>
   intro y
   simp only [pickT,if_true,if_false,Bool.false_eq_true]
   repeat (go_big_quiet_step (fail))
   (go_big_quiet_want;refine quiet_load_midA 33 _ rfl g0 (k*36) rfl (p.1.x.arr p.2) (.struct _) (fun j v hj=>cell_keep (HRG.out j v hj) y.ext) zu33 rfl info_ex ?_;go_big_quiet_on;simp only [Act.put,List.setIfInBounds_toArray,List.set_cons_succ,List.set_cons_zero])
   (go_big_quiet_want;refine quiet_load_rowX 36 _ rfl _ rfl _ _ (0,0) _ (HK.out.rg.ext y.ext) zu36 rfl info_range ?_;go_big_quiet_on;simp only [Act.put,List.setIfInBounds_toArray,List.set_cons_succ,List.set_cons_zero])
   repeat (go_big_quiet_step (fail))
   exact rfl
  case r=>
   simp only [pickF,if_true,if_false,Bool.false_eq_true]
   intro x1
   go_wp2_with fail
   refine (HM.out _ ((Ext.refl Wr).drew.val x1)).mono ?_
   rintro e w7 ⟨mv,rfl,ho7,hx7⟩
   have e7:Ext Wr w7:=((Ext.refl Wr).drew.val x1).trans hx7
   obtain ⟨va7,vc7,rfl⟩:=own_sl ho7
   go_wp2_with fail
   refine ⟨e7,?_⟩
   intro x2
   go_wp2_with fail
   refine ⟨e7.val x2,?_⟩
   intro x3
   have k8:=HK.out.ext' ((e7.val x2).val x3)
   have r8 : ∃ B,Own9 x3.val B (movesR evsS p.1.x r) _:=⟨_,own_ext (own_ext ho7 x2.ext) x3.ext⟩
   have HR8:Hid (R=midD most (movesR evsS · r) (most - k) k p.1.x (movesR evsS p.1.x r) (L.map (·.1))):=zd (by
    have h1:=HRk.out
    rw [show gk=(most - k)+1 by omega,outD_some (d:=p.1) (by rw [List.getElem?_map,HP.out];rfl)] at h1
    exact h1)
   generalize movesR evsS p.1.x r=ms at r8 HR8
   generalize x3.val=W8 at k8 r8
   have K8:=zd k8
   have R8:=zd r8
   clear k8 r8 x3 x2 e7 ho7 hx7 x1 HRG HM HK hgl HRk
   have hkL:=hlt
   have hPn:Hid (L[k]?=some p):=HP
   go_wp2_with fail
   go_loopg [7,10] ms.length (fun g l jj wr=>∃ (j:Nat) (L2:List (Fd×Value)),jj = .int .i64 (j:Int)∧j+g=ms.length∧k<L2.length∧L2.length≤most∧Hid (L2[k]?=some p)∧Hid (DAt w x v gr r tv L2 l wr)∧Hid (∀ p∈L2,p.1.x.h.length≤100+L2.length)∧Hid (∃ B,Own9 wr B ms (.slice va7 ms.length vc7))∧Hid (R=midD most (movesR evsS · r) (most - k) k p.1.x (ms.drop j) (L2.map (·.1))))
   case atStart=>exact ⟨0,L,rfl,by omega,hlt,hLm,HP,K8,HOK,R8,HR8⟩
   case round=>
    clear K8 R8 HR8 HP hPn HOK hLm hkL hlt hmx i1 hpx
    obtain ⟨j,L2,rfl,hg2,hkL,hLm,HP,HK,HOK,R9,HRk⟩:=hrel
    rename World=>W9
    by_cases hj:j<ms.length
    case neg=>
     have i1 : ¬(j:Int)<(ms.length:Int):=by omega
     go_wp2_with fail
     go_roundg (most - k)
     case rel=>
      refine ⟨k+1,L2,rfl,by omega,hkL,hLm,HK,HOK,zd ?_⟩
      have h1:=HRk.out
      rw [List.drop_eq_nil_of_le (by omega),midD_nil] at h1
      exact h1
     case measure=>omega
    have i1:(j:Int)<(ms.length:Int):=by omega
    obtain ⟨m,hm0⟩ : ∃ m,ms[j]?=some m:=⟨_,zG hj⟩
    have HM0:=zd hm0
    obtain ⟨B9,hr9⟩:=R9.out
    obtain ⟨a9,c9,hv9,hm9,hvw9⟩:=row_view (Row.of_own hr9)
    cases hv9
    obtain ⟨g9,o9,rfl,hg9,hc9⟩:=hvw9 (by omega)
    have hg9:=hg9 (by omega)
    have HC9:=zd hc9
    have HRD2:Hid (ms.drop j=m::ms.drop (j+1)):=zd (by
     obtain ⟨h1,h2⟩:=List.getElem?_eq_some_iff.1 hm0
     rw [List.drop_eq_getElem_cons h1,h2])
    unfold maxLen at hm9
    clear hc9 hr9 hm0
    obtain ⟨g0,cap,hlv,hgl,hmx,hrg0⟩:=drow_f HK.out.lr HP.out
    subst hlv
    have hrg:=drow_x hrg0
    unfold maxLen at hmx
    have hop:=HK.out.hh p (zE HP.out)
    have hpx:=HOK.out p (zE HP.out)
    have hS:=fun w' (hw:Ext W9 w')=>rx_step p.1.x p.2 m w' (hop.hrd HK.out.ext hw) hop.vv (by omega)
    have hyl:=zT (step_len p.1.x m) (Nat.succ_le_succ hpx)
    obtain ⟨y,hy⟩ : ∃ y,(stepX p.1.x m).1=y:=⟨_,rfl⟩
    obtain ⟨ok,hok⟩ : ∃ ok,(stepX p.1.x m).2=ok:=⟨_,rfl⟩
    rw [hy,hok] at hS
    rw [hy] at hyl
    have HY:=zd hy
    have HS:=zd hS
    have HRG:=zd hrg
    have i2:(k:Int)<(L2.length:Int):=by omega
    clear hop hS hy hok hrg hrg0 hpx
    go_upto_region 14 with fail
    refine wp_region_mixF (af:=?af2) exZ 33 [true,true,true,true,true,true,true,true,true,false,false,false,false,false,false,false] [false,false,false,false,false,false,false,false,false,false,true,true,true,false,false,true] 74 4 (C:=Ext W9) (by kernel_rfl) rfl (by kernel_rfl) (fun _ _ h e=>Ext.trans h e) zR.drew ?q ?r
    case q=>
     intro w' hw'
     obtain ⟨y1,rfl⟩:=ext_of hw'
     have HMR:=zd (mv_range (fun j u hj=>cell_keep (HC9.out j u hj) y1.ext) HM0.out)
     simp only [pickT,if_true,if_false,Bool.false_eq_true]
     repeat (go_big_quiet_step (fail))
     (go_big_quiet_want;refine quiet_load_midA 33 _ rfl g0 (k*36) rfl (p.1.x.arr p.2) (.struct _) (fun j v hj=>cell_keep (HRG.out j v hj) y1.ext) zu33 rfl info_ex ?_;go_big_quiet_on;simp only [Act.put,List.setIfInBounds_toArray,List.set_cons_succ,List.set_cons_zero])
     repeat (go_big_quiet_step (fail))
     (go_big_quiet_want;refine quiet_load_midA 52 _ rfl g9 (o9+j*9) rfl m.arr (.struct _) HMR.out zu52 rfl (info_mv9 m) ?_;go_big_quiet_on;simp only [Act.put,List.setIfInBounds_toArray,List.set_cons_succ,List.set_cons_zero])
     refine wpQuiet_nil ?_
     exact rfl
    case r=>
     simp only [restL,if_true,if_false,Bool.false_eq_true]
     refine ⟨fun a w=>by simp [go_sem,exZ],?_⟩
     intro x1
     go_wp2_with fail
     refine (HS.out _ ((Ext.refl W9).drew.val x1)).mono ?_
     rintro e w4 ⟨v',rfl,hO',hx4⟩
     go_wp2_with fail
     refine ⟨hx4,?_⟩
     refine ⟨.tuple #[.agg (y.arr v'),.bool ok],.inl ⟨rfl,fun w _=>⟨rfl,rfl⟩⟩,?_⟩
     refine ⟨.agg (y.arr v'),.inl ⟨rfl,fun w _=>⟨rfl,rfl⟩⟩,?_⟩
     refine ⟨.bool ok,.inl ⟨rfl,fun w _=>⟨rfl,rfl⟩⟩,?_⟩
     intro x2 gT hgT hzT
     have e2:Ext W9 x2.val:=(((Ext.refl W9).drew.val x1).trans hx4).val x2
     have hv'1:v'.oneCell'=true:=by obtain ⟨sa,sn,hsv⟩:=own_sl hO';rw [hsv];rfl
     intro x3
     go_wp2_with (refine wpList_store_row rfl 33 _ _ rfl gT _ rfl rfl 33 _ (heap_ext hzT x3.ext) info_ex rfl (arr_one y hv'1) ?_)
     refine ⟨(e2.val x3).setRow hgT _,?_⟩
     refine ⟨.bool ok,.inl ⟨rfl,fun w _=>⟨rfl,rfl⟩⟩,?_⟩
     intro x4
     have eT:ExAt x4.val gT y v':=heap_ext (setRow_heap _ _ _ _ _ _ (heap_ext hzT x3.ext)) x4.ext
     have eX:Ext W9 x4.val:=((e2.val x3).setRow hgT _).val x4
     have eO : ∃ B : {n // w.heap.size≤n},Own x4.val B.1 y.h v':=⟨⟨_,zT HK.out.ext.size ((Ext.refl W9).drew.val x1).size⟩,own_ext (own_setRow (own_ext hO' (x2.ext.trans x3.ext)) (heap_ext hzT x3.ext) (by decide) _) x4.ext⟩
     have k10:=HK.out.ext' eX
     have r10:=own9_exts R9.out eX
     have hc10:=fun j u hj=>cell_keep (HC9.out j u hj) eX
     have hl10:=zU hg9 eX.size
     generalize x4.val=W10 at eT eO k10 r10 hc10 hl10 ⊢
     have K10:=zd k10
     have R10:=zd r10
     have HC10:=zd hc10
     have HT10:=zd eT
     have HO10:=zd eO
     clear k10 r10 hc10 eT eO eX x4 x3 hzT hgT e2 x2 hx4 hO' x1 HRG R9 HK HS hgl hg9 HC9
     have hF:=fun w' (hw:Ext W10 w')=>rr_find L2 _ _ y v' w' (K10.out.lr.ext hw) (fun p hp=>(K10.out.hh p hp).hrd K10.out.ext hw) (HO10.out.elim fun B o=>Row.of_own (own_ext o hw))
     have HF:=zd hF
     clear hF
     generalize hb:(L2.any fun p=>sameD p.1.x y)=has at HF
     have HB:=zd hb
     have HBM:Hid ((L2.map (·.1)).any (fun f=>sameD f.x y)=has):=zd (by rw [List.any_map];exact hb)
     clear hb
     rcases has
     case true=>
      go_wp2_with (first|((with_reducible refine wpList_load_rowG ?_ 33 (.tmp 11) ?_ gT ?_ 33 (y.arr v') (0,0) _ ?_ zu33 ?_ ?_ ?_);(·rfl);(·rfl);(·rfl);(·exact HT10.out);(·rfl);(·exact info_ex))|(go_at_call 30;refine (HF.out _ zR).mono ?_;rintro e w13 ⟨n,rfl,hn13,hx13⟩;have hn0:0≤n:=of_decide_eq_true hn13;clear hn13))
      go_roundg (gk - 1)
      case rel=>
       refine ⟨j+1,L2,rfl,by omega,hkL,hLm,HP,zd (K10.out.ext' hx13),HOK,zd (own9_exts R10.out hx13),zd ?_⟩
       have h1:=HRk.out
       rw [HRD2.out,midD_old (by rw [HY.out];exact HBM.out)] at h1
       exact h1
      case measure=>omega
     go_upto_region 16 with (first|((with_reducible refine wpList_load_rowG ?_ 33 (.tmp 11) ?_ gT ?_ 33 (y.arr v') (0,0) _ ?_ zu33 ?_ ?_ ?_);(·rfl);(·rfl);(·rfl);(·exact HT10.out);(·rfl);(·exact info_ex))|(go_at_call 30;refine (HF.out _ zR).mono ?_;rintro e w13 ⟨n,rfl,hn13,hx13⟩;have hn0 : ¬0≤n:=of_decide_eq_false hn13;clear hn13))
     have K13:=zd (K10.out.ext' hx13)
     have R13:=zd (own9_exts R10.out hx13)
     have HT13:=zd (heap_ext HT10.out hx13)
     have HO13:Hid (∃ B : {n // w.heap.size≤n},Own w13 B.1 y.h v'):=zd (HO10.out.imp fun B o=>own_ext o hx13)
     have lt13:gT<w13.heap.size:=zL HT13.out
     clear hx13 K10 R10 HT10 HO10 HF HB HC10
     by_cases hful:most≤L2.length
     case pos=>
      have hful':(most:Int)≤(L2.length:Int):=by omega
      go_wp2_with fail
      refine ⟨rfl,.tuple #[.slice (some ⟨g0,0,none⟩) L2.length cap,.bool false],by (simp [results,go_sem];try omega),?_⟩
      have h1:=HRk.out
      rw [HRD2.out,midD_full (by rw [HY.out];exact HBM.out) (by rw [List.length_map];exact hful)] at h1
      rw [h1]
      exact ⟨L2,_,rfl,rfl,K13.out.lr,fun p hp=>⟨(K13.out.hh p hp).hrd K13.out.ext zR,(K13.out.hh p hp).vv,by have:=HOK.out p hp;omega,(K13.out.hh p hp).imp id (·.2)⟩,K13.out.ext⟩
     have hful' : ¬(most:Int)≤(L2.length:Int):=by omega
     go_upto_region 18 with fail
     refine wp_region_mixR (af:=?af18) [true,true,true,true,true,true,true,false,false,false,false] 74 #[true,true,true,true,true,true,true,false,false,false,false] (fun w'=>ExAt w' gT y v'∧∃ B,Own9 w' B ms (.slice (some ⟨g9,o9,none⟩) ms.length vc7)) (by kernel_rfl) rfl (by kernel_rfl) (fun _ _ h e=>⟨heap_ext h.1 e,own9_exts h.2 e⟩) ⟨heap_ext HT13.out zR.drew,own9_exts R13.out zR.drew⟩ ?q18 ?r18
     case q18=>
      rintro w' ⟨hw1,B',ho'⟩
      obtain ⟨a',c',hv',hm',hvw'⟩:=row_view (Row.of_own ho')
      cases hv'
      obtain ⟨g',o',he',hg',hc'⟩:=hvw' (by omega)
      cases he'
      have HMR:=zd (mv_range hc' HM0.out)
      have HW1:=zd hw1
      clear hc' hvw' ho' hw1
      simp only [pickT,if_true,if_false,Bool.false_eq_true]
      repeat (go_big_quiet_step (fail))
      (go_big_quiet_want;refine quiet_load_rowX 33 _ rfl _ rfl _ #[.int .u64 y.c,.int .i64 y.s0.r,.int .u64 y.s0.c,.string y.s0.t,.int .i64 y.s0.ph,.int .i64 y.s0.p.k,.int .i64 y.s0.p.f,.int .u64 y.s0.p.c,.string y.s0.p.t,.bool y.s0.p.b,.int .i64 y.s1.r,.int .u64 y.s1.c,.string y.s1.t,.int .i64 y.s1.ph,.int .i64 y.s1.p.k,.int .i64 y.s1.p.f,.int .u64 y.s1.p.c,.string y.s1.p.t,.bool y.s1.p.b,.int .u64 y.v.c,.int .i64 y.v.k,.string y.v.t,.bool y.b0,.bool y.b1,.bool y.full,v'] (0,0) _ HW1.out zu33 rfl info_ex ?_;go_big_quiet_on;simp only [Act.put,List.setIfInBounds_toArray,List.set_cons_succ,List.set_cons_zero])
      repeat (go_big_quiet_step (fail))
      (go_big_quiet_want;refine quiet_load_midA 52 _ rfl g9 (o9+j*9) rfl #[.int .i64 m.k,.int .i64 m.who,.string m.t,.int .i64 m.l.k,.int .i64 m.l.f,.int .u64 m.l.c,.string m.l.t,.bool m.l.b,.bool m.lost] (.struct _) HMR.out zu52 rfl (info_mv9 m) ?_;go_big_quiet_on;simp only [Act.put,List.setIfInBounds_toArray,List.set_cons_succ,List.set_cons_zero])
      repeat (go_big_quiet_step (fail))
      refine wpQuiet_nil ?_
      exact rfl
     case r18=>
      refine wpAnyT_one (i:=7) (by kernel_rfl) rfl ?_
      intro x0
      go_wp2_with fail
      have c0:=And.intro (heap_ext HT13.out ((Ext.refl w13).drew.val x0)) (own9_exts R13.out ((Ext.refl w13).drew.val x0))
      refine ⟨by first|exact c0|exact fun _=>c0,?_⟩
      refine wpAnyT_one (i:=8) (by kernel_rfl) rfl ?_
      intro x1
      go_wp2_with fail
      have e1:Ext w13 (x1.val.alloc (.cells (fvC (⟨y,(k:Int),m⟩,v')).toArray 54)):=(((Ext.refl w13).drew.val x0).val x1).alloc _
      have c1:=And.intro (heap_ext HT13.out e1) (own9_exts R13.out e1)
      refine ⟨by first|exact c1|exact fun _=>c1,?_⟩
      refine wpAnyT_one (i:=9) (by kernel_rfl) rfl ?_
      intro x2
      have e2:=e1.val x2
      have KB:=K13.out.ext' e2
      obtain ⟨i1,hi,hz0,hz1,hz2⟩:=info_parts info_found2
      have hv'1:v'.oneCell'=true:=by obtain ⟨By,hoy⟩:=HO13.out;obtain ⟨sa,sn,hsv⟩:=own_sl hoy;rw [hsv];rfl
      refine wpList_app6 w.heap.size 44 54 i1 _ 36 344 zu44 hi hz0 hz1 hz2 rfl (by decide) rfl _ _ rfl (.slice (some ⟨g0,0,none⟩) L2.length cap) L2.length _ rfl KB.lr KB.ext.size x1.val.heap.size 1 1 _ (by omega) rfl (heap_ext (heap_new rfl) x2.ext) rfl (fv_one (⟨y,(k:Int),m⟩,v') hv'1) (by unfold maxLen;omega) (by omega) ?_
      intro lv' w21 o21 b21 g21 nw21
      go_wp2_with fail
      have k21:=KB.add (p:=(⟨y,(k:Int),m⟩,v')) (drow_one o21 rfl rfl) g21 b21 (HO13.out.imp fun B o=>own_ext o e2)
      have t21:ExAt w21 gT y v':=KB.tag g21 (heap_ext HT13.out e2) (by decide)
      have r21 : ∃ B,Own9 w21 B ms (.slice (some ⟨g9,o9,none⟩) ms.length vc7):=(own9_exts R13.out e2).imp fun B o=>KB.row g21 o (by decide)
      have c2:=And.intro t21 r21
      refine ⟨by first|exact c2|exact fun _=>c2,?_⟩
      refine wpAnyT_one (i:=10) (by kernel_rfl) rfl ?_
      intro x3
      go_wp2_with fail
      refine ⟨fun h=>absurd h (by decide),?_⟩
      refine wpAnyT_end (by kernel_rfl) fun x9=>?_
      have K21:=zd (k21.ext' (x3.ext.trans x9.ext))
      have R21:=zd (own9_exts r21 (x3.ext.trans x9.ext))
      generalize x9.val=W21 at K21 R21 ⊢
      go_wp2_with fail
      go_roundg (gk - 1)
      case rel=>
       refine ⟨j+1,L2++[(⟨y,(k:Int),m⟩,v')],rfl,by omega,by simp;omega,by simp;omega,?_,K21,?_,R21,?_⟩
       ·refine zd ?_
        rw [List.getElem?_append_left hkL]
        exact HP.out
       ·refine zd fun q hq=>?_
        rw [List.length_append]
        rcases List.mem_append.1 hq with hq|hq
        ·have:=HOK.out q hq
         simp;omega
        ·rw [List.mem_singleton.1 hq]
         simp;omega
       ·refine zd ?_
        have h1:=HRk.out
        rw [HRD2.out,midD_new (by rw [HY.out];exact HBM.out) (by rw [List.length_map];exact hful),HY.out] at h1
        rw [h1,List.map_append]
        rfl
      case measure=>omega
theorem rf_final (r c:Int) (t:ByteArray) (ph k f c2:Int) (t2:ByteArray) (fk:Bool) (w:World) :
 Calls Tryz.prog 66 #[.agg #[.int .i64 r,.int .u64 c,.string t,.int .i64 ph,.int .i64 k,.int .i64 f,.int .u64 c2,.string t2,.bool fk]] w fun e w'=>e = .returned (.bool (finS ⟨r,c,t,ph,⟨k,f,c2,t2,fk⟩⟩))∧Ext w w':=by
 have hC:=fun w=>rf_check r c t ph k f c2 t2 fk w
 rcases hc:chk r c t ph k f c2 t2 fk
 ·have hs:finS ⟨r,c,t,ph,⟨k,f,c2,t2,fk⟩⟩=false:=by simp [finS,chkS,hc]
  rw [hs];clear hs
  rw [hc] at hC
  have HC:=zd hC
  clear hC
  go_enter Tryz.func66,Tryz.ntmps66
  go_wp2_with (go_at_call 94;refine (HC.out _).mono ?_;rintro e w1 ⟨rfl,hx⟩;obtain ⟨x1,rfl⟩:=ext_of hx;clear hx)
  go_ret
  exact ⟨rfl,(zR.alloc _).val x1⟩
 ·have hs:finS ⟨r,c,t,ph,⟨k,f,c2,t2,fk⟩⟩=(ph == 6 || ph == 7):=by simp [finS,chkS,hc]
  rw [hs];clear hs
  rw [hc] at hC
  have HC:=zd hC
  clear hC
  rcases h6:(ph == 6)
  all_goals
   go_enter Tryz.func66,Tryz.ntmps66
   go_wp2_with (go_at_call 94;refine (HC.out _).mono ?_;rintro e w1 ⟨rfl,hx⟩;obtain ⟨x1,rfl⟩:=ext_of hx;clear hx)
   go_ret
   exact ⟨by simp,(zR.alloc _).val x1⟩
theorem rb_final (r c:Int) (t:ByteArray) (ph k f c2:Int) (t2:ByteArray) (fk:Bool) (w:World) :
 Calls Tryz.prog 67 #[.agg #[.int .i64 r,.int .u64 c,.string t,.int .i64 ph,.int .i64 k,.int .i64 f,.int .u64 c2,.string t2,.bool fk]] w fun e w'=>e = .returned (.bool (finA ⟨r,c,t,ph,⟨k,f,c2,t2,fk⟩⟩))∧Ext w w':=by
 have hC:=fun w=>rb_check r c t ph k f c2 t2 fk w
 rcases hc:chkA ⟨r,c,t,ph,⟨k,f,c2,t2,fk⟩⟩
 ·have hs:finA ⟨r,c,t,ph,⟨k,f,c2,t2,fk⟩⟩=false:=by simp [finA,hc]
  rw [hs];clear hs
  rw [hc] at hC
  have HC:=zd hC
  clear hC
  go_enter Tryz.func67,Tryz.ntmps67
  go_wp2_with (go_at_call 95;refine (HC.out _).mono ?_;rintro e w1 ⟨rfl,hx⟩;obtain ⟨x1,rfl⟩:=ext_of hx;clear hx)
  go_ret
  exact ⟨rfl,(zR.alloc _).val x1⟩
 ·have hs:finA ⟨r,c,t,ph,⟨k,f,c2,t2,fk⟩⟩=(ph == 6 || ph == 7):=by simp [finA,hc]
  rw [hs];clear hs
  rw [hc] at hC
  have HC:=zd hC
  clear hC
  rcases h6:(ph == 6)
  all_goals
   go_enter Tryz.func67,Tryz.ntmps67
   go_wp2_with (go_at_call 95;refine (HC.out _).mono ?_;rintro e w1 ⟨rfl,hx⟩;obtain ⟨x1,rfl⟩:=ext_of hx;clear hx)
   go_ret
   exact ⟨by simp,(zR.alloc _).val x1⟩
theorem rx_final (x:Ex) (v:Value) (who:Int) (w:World) (hw:who=0∨who=1):Calls Tryz.prog 38 #[.agg (x.arr v),.int .i64 who] w fun e w'=>e = .returned (.bool (finX x who))∧Ext w w':=by
 rcases hw with rfl|rfl
 ·have hF:finX x 0=finS x.s0:=rfl
  rw [hF]
  have hO:=fun w=>rf_final x.s0.r x.s0.c x.s0.t x.s0.ph x.s0.p.k x.s0.p.f x.s0.p.c x.s0.p.t x.s0.p.b w
  rcases hb:finS x.s0
  all_goals
   rw [hb] at hO
   have HO:=zd hO
   clear hO hb hF
   go_enter Tryz.func38,Tryz.ntmps38
   go_upto_region 1 with fail
   refine wp_forget (fun w'=>ExAt w' w.heap.size x v∧Ext w w') (one_new zR) ?_
   rintro W1 ⟨h1,x1⟩
   unfold ExAt Ex.arr at h1
   have q1:=zQ h1
   have l1:w.heap.size<W1.heap.size:=zL h1
   have HX1:=zd x1
   clear x1 h1
   go_wp2_with (go_at_call 66;refine (HO.out _).mono ?_;rintro e w1 ⟨rfl,hx⟩;have HX:=zd hx;clear hx)
   go_ret
   exact ⟨rfl,HX1.out.trans HX.out⟩
 ·have hF:finX x 1=finA x.s1:=rfl
  rw [hF]
  have hO:=fun w=>rb_final x.s1.r x.s1.c x.s1.t x.s1.ph x.s1.p.k x.s1.p.f x.s1.p.c x.s1.p.t x.s1.p.b w
  rcases hb:finA x.s1
  all_goals
   rw [hb] at hO
   have HO:=zd hO
   clear hO hb hF
   go_enter Tryz.func38,Tryz.ntmps38
   go_upto_region 1 with fail
   refine wp_forget (fun w'=>ExAt w' w.heap.size x v∧Ext w w') (one_new zR) ?_
   rintro W1 ⟨h1,x1⟩
   unfold ExAt Ex.arr at h1
   have q1:=zQ h1
   have l1:w.heap.size<W1.heap.size:=zL h1
   have HX1:=zd x1
   clear x1 h1
   go_wp2_with (go_at_call 67;refine (HO.out _).mono ?_;rintro e w1 ⟨rfl,hx⟩;have HX:=zd hx;clear hx)
   go_ret
   exact ⟨rfl,HX1.out.trans HX.out⟩
end Go.Proofs.YtlnmhocehgmbbaaGreatDoor

/- No condition. -/
import Derived.Test.YtlnmhocehgmbbaaGreatDoorWY11
import Derived.Test.YtlnmhocehgmbbaaGreatDoorWY19
import Derived.Test.YtlnmhocehgmbbaaGreatDoorWY22
import Derived.Test.YtlnmhocehgmbbaaGreatDoorWY24
import Derived.Test.YtlnmhocehgmbbaaGreatDoorWY25
import Derived.Test.YtlnmhocehgmbbaaGreatDoorWY30
import Derived.Test.YtlnmhocehgmbbaaGreatDoorWY32
set_option linter.all false
set_option maxRecDepth 100000
set_option maxHeartbeats 3200000
namespace Go.Proofs.YtlnmhocehgmbbaaGreatDoor
open Go.RowKit
attribute [local go_sem ↓] eql_lEq eql_sEq eql_eEq eql_oEq neq_lEq neq_sEq neq_eEq neq_oEq eql_vEq neq_vEq eql_nil
attribute [local go_sem] ExtOf.cell ExtOf.frozen ExtOf.lt ExtOf.le
attribute [local go_sem high] ExtOf.cell2 ExtOf.frozen2 ExtOf.lt2 ExtOf.cell3 ExtOf.frozen3 ExtOf.lt3
theorem rx_bound (x:Ex) (v:Value) (who:Int) (w:World) (hR:Hrd w x v) (hn:x.h.length≤100000):Calls Tryz.prog 45 #[.agg (x.arr v),.int .i64 who] w fun e w'=>∃ a c,e = .returned (.slice a (boundX x who).length c)∧Ext w w':=by
 obtain ⟨i0,hi,hz0,hz1,hz2⟩:=info_parts info_letter
 obtain ⟨a,cap,rfl,hm,hvw⟩:=row_view hR
 have HV:=zd hvw
 clear hvw hR hm
 rw [boundX_eq]
 generalize hL:x.h=L at HV hn ⊢
 go_enter Tryz.func45,Tryz.ntmps45
 go_upto_region 1 with fail
 refine wp_forget (fun w'=>ExAt w' w.heap.size x (.slice a L.length cap)∧Ext w w') (one_new zR) ?_
 rintro W1 ⟨h1,x1⟩
 unfold ExAt Ex.arr at h1
 have c25:=zQ h1 25
 have l1:w.heap.size<W1.heap.size:=zL h1
 have X1:=zd x1
 clear h1 x1 hL
 go_wp2_with fail
 go_loopg [5,6] L.length (fun g l ii wr=>∃ (n:Nat) (M:List Lt) (y:ExtOf W1),ii = .int .i64 (n:Int)∧n+g=L.length∧wr=y.val∧Hid (M.length≤n∧M++(L.drop n).filter (bindB who)=L.filter (bindB who))∧Hid (Own wr W1.heap.size M l))
 case atStart=>exact ⟨0,[],⟨W1,zR⟩,rfl,by omega,rfl,zd ⟨by simp,by simp⟩,zd (World.ownsRow_nil _ _ _ _)⟩
 case round=>
  obtain ⟨n,M,y,rfl,hg,rfl,HN,HOwn⟩:=hrel
  by_cases hlt:n<L.length
  case neg=>
   have hge : ¬(n:Int)<(L.length:Int):=by omega
   obtain ⟨la,lc,rfl,_⟩:=own_view HOwn.out
   go_wp2_with fail
   go_ret
   have hh:=HN.out.2
   rw [List.drop_eq_nil_of_le (by omega),List.filter_nil,List.append_nil] at hh
   refine ⟨⟨la,lc,?_⟩,X1.out.trans y.ext⟩
   rw [←hh]
   rfl
  obtain ⟨g,off,rfl,hgl,hcell⟩:=HV.out (by omega)
  have hgl:=hgl (by omega)
  obtain ⟨z,hx⟩ : ∃ x,L[n]?=some x:=⟨_,zG hlt⟩
  obtain ⟨q0,q1,q2,q3,q4⟩:=lt_cellsO (fun j u hj=>cell_keep (hcell j u hj) X1.out) hx
  have HX:=zd hx
  have hgl1:g<W1.heap.size:=zU hgl X1.out.size
  clear hx hcell hgl
  have hlt':(n:Int)<(L.length:Int):=by omega
  have hMl:M.length≤n:=HN.out.1
  have hW1:W1.heap.size≤y.val.heap.size:=y.ext.size
  have key : ∀ b,bindB who z=b→Hid (M++(if b=true then [z] else [])++(L.drop (n+1)).filter (bindB who)=L.filter (bindB who)):=fun b hb=>zd (by
   have hh:=HN.out.2
   have hz:=(List.getElem?_eq_some_iff.1 HX.out).2
   rw [List.drop_eq_getElem_cons hlt,List.filter_cons,hz,hb] at hh
   cases b<;>simpa using hh)
  have hbd:bindB who z=((z.k == 2 && z.f == who) || z.k == 6):=rfl
  rcases h6:(z.k == 6)
  ·rcases h2:(z.k == 2)
   ·have HK:=key false (by rw [hbd,h2,h6];rfl)
    clear key hbd
    go_wp2_with fail
    go_roundg (gk - 1)
    case rel=>exact ⟨n+1,M,⟨_,y.ext.alloc _⟩,rfl,by omega,rfl,zd ⟨by omega,by simpa using HK.out⟩,zd (HOwn.out.ext (zR.alloc _))⟩
    case measure=>omega
   ·rcases h3:(z.f == who)
    ·have HK:=key false (by rw [hbd,h2,h3,h6];rfl)
     clear key hbd
     go_wp2_with fail
     go_roundg (gk - 1)
     case rel=>exact ⟨n+1,M,⟨_,y.ext.alloc _⟩,rfl,by omega,rfl,zd ⟨by omega,by simpa using HK.out⟩,zd (HOwn.out.ext (zR.alloc _))⟩
     case measure=>omega
    ·have HK:=key true (by rw [hbd,h2,h3,h6];rfl)
     clear key hbd
     go_wp2_with (at_builtin;refine wpList_app W1.heap.size 31 24 i0 _ 5 48 zu31 hi hz0 hz1 hz2 rfl (by decide) rfl _ _ rfl _ M.length _ rfl (own_ext HOwn.out (((Ext.refl y.val).alloc _).alloc _)) (zT y.ext.size (((Ext.refl y.val).alloc _).alloc _).size) (y.val.heap.size+1) 1 1 _ rfl (heap_new (by simp)) rfl (by simp [Value.oneCell']) (by unfold maxLen;omega) (by omega) ?_;intro v2 w3 hv2 hb2 _)
     go_roundg (gk - 1)
     case rel=>exact ⟨n+1,M++[z],⟨w3,((y.ext.alloc _).alloc _).trans' hb2⟩,rfl,by omega,rfl,zd ⟨by simp;omega,by simpa using HK.out⟩,zd (by simpa [Own,Lt.cs] using hv2)⟩
     case measure=>omega
  ·have HK:=key true (by rw [hbd,h6];simp)
   clear key hbd
   go_wp2_with (at_builtin;refine wpList_app W1.heap.size 31 24 i0 _ 5 48 zu31 hi hz0 hz1 hz2 rfl (by decide) rfl _ _ rfl _ M.length _ rfl (own_ext HOwn.out (((Ext.refl y.val).alloc _).alloc _)) (zT y.ext.size (((Ext.refl y.val).alloc _).alloc _).size) (y.val.heap.size+1) 1 1 _ rfl (heap_new (by simp)) rfl (by simp [Value.oneCell']) (by unfold maxLen;omega) (by omega) ?_;intro v2 w3 hv2 hb2 _)
   go_roundg (gk - 1)
   case rel=>exact ⟨n+1,M++[z],⟨w3,((y.ext.alloc _).alloc _).trans' hb2⟩,rfl,by omega,rfl,zd ⟨by simp;omega,by simpa using HK.out⟩,zd (by simpa [Own,Lt.cs] using hv2)⟩
   case measure=>omega
def DRow (w:World) (B:Nat) (L:List (Fd×Value)) (v:Value):Prop:=w.ownsRow B 54 36 v L.length (L.flatMap fvC)
theorem DRow.ext {w w':World} {B:Nat} {L:List (Fd×Value)} {v:Value} (h:DRow w B L v) (e:Ext w w'):DRow w' B L v:=own_ext h e
theorem drow_f {w:World} {B:Nat} {L:List (Fd×Value)} {lv:Value} {i:Nat} {p:Fd×Value} (h:DRow w B L lv) (hp:L[i]?=some p) :
 ∃ g cap,lv = .slice (some ⟨g,0,none⟩) L.length cap∧g<w.heap.size∧L.length≤maxLen∧w.rangeAt g (i*36) (fvC p):=by
 have hi:=zM hp
 obtain ⟨_,⟨_,h0⟩|⟨g,cap,cur,hv,hb,hg,hn,hm,hs,hx⟩⟩:=h
 ·omega
 refine ⟨g,cap,hv,(zL hg),by omega,fun j v hj=>?_⟩
 have hjl:j<36:=zM hj
 have h2:=flat_get fvC 36 fvC_len L i p hp j (by omega)
 rw [hj,←hx,List.getElem?_take_of_lt (by omega)] at h2
 rw [cell_of_row w g _ cur _ (0,0) hg]
 simpa using h2
theorem drow_x {w:World} {g i:Nat} {p:Fd×Value} (h:w.rangeAt g (i*36) (fvC p)):w.rangeAt g (i*36) (p.1.x.arr p.2).toList:=fun j v hj=>h j v (by
 have hjl:j<26:=zM hj
 unfold fvC
 rw [List.getElem?_append_left (by exact hjl)]
 exact hj)
theorem rr_find (L:List (Fd×Value)) (lv:Value) (B:Nat) (x:Ex) (v:Value) (w:World) (hL:DRow w B L lv) (hH : ∀ p∈L,Hrd w p.1.x p.2) (hR:Hrd w x v) :
 Calls Tryz.prog 30 #[lv,.agg (x.arr v)] w fun e w'=>∃ n:Int,e = .returned (.int .i64 n)∧decide (0≤n)=L.any (fun p=>sameD p.1.x x)∧Ext w w':=by
 obtain ⟨la,lc,rfl⟩:=own_sl hL
 have hlm:L.length≤maxLen:=by
  rcases hL.2 with ⟨_,h⟩|⟨g,cap,cur,hv,hb,hg,hn,hm,hs,hx⟩
  ·omega
  ·omega
 unfold maxLen at hlm
 have HL:=zd hL
 have HH:=zd hH
 have HR:=zd hR
 clear hL hH hR
 go_enter Tryz.func30,Tryz.ntmps30
 go_upto_region 1 with fail
 refine wp_forget (fun w'=>∃ gx,Hid (gx=w.heap.size)∧Hid (ExAt w' gx x v)∧Hid (Ext w w')) ⟨_,zd rfl,zd (one_new zR).1,zd (one_new zR).2⟩ ?_
 rintro W1 ⟨gx,hgx,HX1,HE1⟩
 rw [←hgx.out]
 clear hgx
 go_wp2_with fail
 go_loopg [5] L.length (fun g ii wr=>∃ (n:Nat) (y:ExtOf W1),ii = .int .i64 (n:Int)∧n+g=L.length∧wr=y.val∧Hid (∀ p∈L.take n,sameD p.1.x x=false))
 case atStart=>exact ⟨0,⟨W1,zR⟩,rfl,by omega,rfl,zd fun p hp=>by simp at hp⟩
 case round=>
  obtain ⟨n,y,rfl,hg,rfl,HN⟩:=hrel
  by_cases hlt:n<L.length
  case neg=>
   have hge : ¬(n:Int)<(L.length:Int):=by omega
   go_wp2_with fail
   go_ret
   refine ⟨-1,rfl,?_,HE1.out.trans y.ext⟩
   have hno:=HN.out
   rw [List.take_of_length_le (by omega)] at hno
   rw [show L.any (fun p=>sameD p.1.x x)=false from List.any_eq_false.2 fun p hp=>by rw [hno p hp];simp]
   rfl
  have hlt':(n:Int)<(L.length:Int):=by omega
  obtain ⟨p,hp⟩ : ∃ p,L[n]?=some p:=⟨_,zG hlt⟩
  obtain ⟨g0,cap,hlv,hgl,_,hrg⟩:=drow_f (HL.out.ext (HE1.out.trans y.ext)) hp
  cases hlv
  have HRG:=zd (drow_x hrg)
  have hs:=fun x1:ExtOf y.val=>doc_same p.1.x x p.2 v x1.val ((HH.out p (zE hp)).ext ((HE1.out.trans y.ext).trans x1.ext)) (HR.out.ext ((HE1.out.trans y.ext).trans x1.ext))
  generalize hb:sameD p.1.x x=b at hs
  have HB:=zd hb
  have HS:=zd hs
  have HP:=zd hp
  clear hb hs hp hrg
  go_upto_region 4 with fail
  refine wp_region_ext (by kernel_rfl) (by kernel_rfl) ?_
  go_big_quiet_step (fail)
  go_big_quiet_step (fail)
  go_big_quiet_step (fail)
  go_big_quiet_step (fail)
  (go_big_quiet_want;refine quiet_load_midA 33 _ rfl g0 (n*36) rfl (p.1.x.arr p.2) (.struct _) HRG.out zu33 rfl info_ex ?_;go_big_quiet_on;simp only [Act.put,List.setIfInBounds_toArray,List.set_cons_succ,List.set_cons_zero])
  (go_big_quiet_want;refine quiet_load_rowX 33 _ rfl _ rfl _ _ (0,0) _ (HX1.out.ext y.ext) zu33 rfl info_ex ?_;go_big_quiet_on;simp only [Act.put,List.setIfInBounds_toArray,List.set_cons_succ,List.set_cons_zero])
  repeat (go_big_quiet_step ((go_at_call 16;exact calls_ext (HS.out _))))
  refine wpQuiet_nil ?_
  rintro _ ⟨u,rfl⟩
  rcases b
  case true=>
   go_wp2_with fail
   go_ret
   refine ⟨(n:Int),rfl,?_,HE1.out.trans (y.ext.val u)⟩
   rw [List.any_eq_true.2 ⟨p,zE HP.out,HB.out⟩]
   simp
  case false=>
   go_wp2_with fail
   go_roundg (gk - 1)
   case rel=>
    refine ⟨n+1,⟨_,y.ext.val u⟩,rfl,by omega,rfl,zd fun p' hp'=>?_⟩
    rw [List.take_add_one,HP.out] at hp'
    rcases List.mem_append.1 hp' with h|h
    ·exact HN.out p' h
    ·simp only [Option.toList_some,List.mem_singleton] at h
     rw [h];exact HB.out
   case measure=>omega
end Go.Proofs.YtlnmhocehgmbbaaGreatDoor
namespace Go.Proofs.YtlnmhocehgmbbaaGreatDoor
def inD (most:Nat) (x:Ex) (at':Nat):List Mv→List Fd→List Fd×Bool
 | [],L=>(L,true)
 | m::ms,L=>if L.any (fun f=>sameD f.x (stepX x m).1)=true then inD most x at' ms L else if most≤L.length then (L,false) else inD most x at' ms (L++[⟨(stepX x m).1,at',m⟩])
def outD (most:Nat) (mv:Ex→List Mv):Nat→Nat→List Fd→List Fd×Bool
 | 0,_,L=>(L,true)
 | f+1,k,L=>match L[k]? with
  | none=>(L,true)
  | some d=>if (inD most d.x k (mv d.x) L).2=false then inD most d.x k (mv d.x) L else outD most mv f (k+1) (inD most d.x k (mv d.x) L).1
def goD (most:Nat) (mv:Ex→List Mv) (x:Ex):List Fd×Bool:=outD most mv (most+1) 0 [⟨x,-1,m0⟩]
def midD (most:Nat) (mv:Ex→List Mv) (f k:Nat) (x:Ex) (ms:List Mv) (L:List Fd):List Fd×Bool:=
 if (inD most x k ms L).2=false then inD most x k ms L else outD most mv f (k+1) (inD most x k ms L).1
section
variable {most:Nat} {mv:Ex→List Mv} {f k:Nat} {x:Ex} {m:Mv} {ms:List Mv} {L:List Fd} {d:Fd}
theorem outD_none (h:L[k]?=none):outD most mv f k L=(L,true):=by
 cases f with
 | zero=>rfl
 | succ f=>unfold outD;rw [h]
theorem outD_some (h:L[k]?=some d):outD most mv (f+1) k L=midD most mv f k d.x (mv d.x) L:=by
 conv=>lhs;unfold outD
 rw [h]
 rfl
theorem midD_nil:midD most mv f k x [] L=outD most mv f (k+1) L:=rfl
theorem midD_old (h2:L.any (fun f=>sameD f.x (stepX x m).1)=true):midD most mv f k x (m::ms) L=midD most mv f k x ms L:=by
 unfold midD
 rw [show inD most x k (m::ms) L=inD most x k ms L from by conv=>lhs;unfold inD;rw [if_pos h2]]
theorem midD_full (h2:L.any (fun f=>sameD f.x (stepX x m).1)=false) (h3:most≤L.length):midD most mv f k x (m::ms) L=(L,false):=by
 unfold midD
 rw [show inD most x k (m::ms) L=(L,false) from by conv=>lhs;unfold inD;rw [if_neg (by rw [h2];simp),if_pos h3]]
 rfl
theorem midD_new (h2:L.any (fun f=>sameD f.x (stepX x m).1)=false) (h3 : ¬most≤L.length):midD most mv f k x (m::ms) L=midD most mv f k x ms (L++[⟨(stepX x m).1,k,m⟩]):=by
 unfold midD
 rw [show inD most x k (m::ms) L=inD most x k ms (L++[⟨(stepX x m).1,k,m⟩]) from by conv=>lhs;unfold inD;rw [if_neg (by rw [h2];simp),if_neg h3]]
end
theorem any_grow {b:List Lt} {L:List Fd} {y:Ex} (hL : ∀ d∈L,Grow b d.x.h) (hy:Grow b y.h):L.any (fun f=>sameD f.x y)=L.any (fun f=>sameX f.x y):=by
 induction L with
 | nil=>rfl
 | cons d L ih=>rw [List.any_cons,List.any_cons,sameD_grow (hL d (.head _)) hy,ih fun d hd=>hL d (.tail _ hd)]
theorem inD_eq (most:Nat) (x:Ex) (k:Nat) {b:List Lt} (hx:Grow b x.h) : ∀ (ms:List Mv) (L:List Fd),(∀ m∈ms,(stepX x m).2=true)→(∀ d∈L,Grow b d.x.h)→L.length≤most→
 inG most never x k ms L=((inD most x k ms L).1,if (inD most x k ms L).2=true then none else some (-1,false))∧(∀ d∈(inD most x k ms L).1,Grow b d.x.h)∧(inD most x k ms L).1.length≤most
 | [],L,_,hL,hl=>⟨rfl,hL,hl⟩
 | m::ms,L,hm,hL,hl=>by
  have ih:=fun L=>inD_eq most x k hx ms L (fun m h=>hm m (.tail _ h))
  have ha:=any_grow hL (hx.step m)
  unfold inG inD
  rw [if_neg (by rw [hm m (.head _)];simp),ha]
  by_cases h2:L.any (fun f=>sameX f.x (stepX x m).1)=true
  ·rw [if_pos h2,if_pos h2]
   exact ih L hL hl
  rw [if_neg h2,if_neg h2]
  by_cases h3:L.length=most
  ·rw [if_pos h3,if_pos (show most≤L.length by omega)]
   exact ⟨rfl,hL,hl⟩
  rw [if_neg h3,if_neg (show ¬most≤L.length by omega),if_neg (show ¬never (stepX x m).1=true by simp [never])]
  refine ih _ (fun d hd=>?_) (by simp;omega)
  rcases List.mem_append.1 hd with h|h
  ·exact hL d h
  ·rw [List.mem_singleton.1 h]
   exact hx.step m
theorem outD_eq (most:Nat) (mv:Ex→List Mv) {b:List Lt} (hmv : ∀ x,∀ m∈mv x,(stepX x m).2=true) : ∀ (f k:Nat) (L:List Fd),(∀ d∈L,Grow b d.x.h)→L.length≤most→
 outG most never mv f k L=((outD most mv f k L).1,-1,(outD most mv f k L).2)∧∀ d∈(outD most mv f k L).1,Grow b d.x.h
 | 0,k,L,hL,_=>⟨rfl,hL⟩
 | f+1,k,L,hL,hl=>by
  unfold outG outD
  cases hk:L[k]? with
  | none=>exact ⟨rfl,hL⟩
  | some d=>
   obtain ⟨h1,h2,h3⟩:=inD_eq most d.x k (hL d (zE hk)) (mv d.x) L (hmv d.x) hL hl
   simp only
   rw [h1]
   rcases hb:(inD most d.x k (mv d.x) L).2
   ·simp only [Bool.false_eq_true,if_false,if_true,hb]
    exact ⟨trivial,h2⟩
   ·simp only [Bool.true_eq_false,if_false,if_true]
    exact outD_eq most mv hmv f (k+1) _ h2 h3
theorem goD_eq (most:Nat) (mv:Ex→List Mv) (x:Ex) (hm:1≤most) (hmv : ∀ x,∀ m∈mv x,(stepX x m).2=true) :
 goG most never mv x=((goD most mv x).1,-1,(goD most mv x).2)∧∀ d∈(goD most mv x).1,Grow x.h d.x.h:=by
 unfold goG goD
 rw [if_neg (by simp [never])]
 exact outD_eq most mv hmv _ _ _ (fun d hd=>by rw [List.mem_singleton.1 hd];exact Grow.refl _) (by simpa using hm)
end Go.Proofs.YtlnmhocehgmbbaaGreatDoor
namespace Go.Proofs.YtlnmhocehgmbbaaGreatDoor
open Go.RowKit
attribute [local go_sem ↓] eql_lEq eql_sEq eql_eEq eql_oEq neq_lEq neq_sEq neq_eEq neq_oEq eql_vEq neq_vEq eql_nil
attribute [local go_sem] ExtOf.cell ExtOf.frozen ExtOf.lt ExtOf.le
attribute [local go_sem high] ExtOf.cell2 ExtOf.frozen2 ExtOf.lt2 ExtOf.cell3 ExtOf.frozen3 ExtOf.lt3
def DH (wS:World) (x0:Ex) (v0:Value) (w:World) (p:Fd×Value):Prop:=(∃ B : {n // wS.heap.size≤n},Own w B.1 p.1.x.h p.2)∨((Hrd wS p.1.x p.2∧(p.2 = .slice none 0 0∨∃ a n c,p.2 = .slice (some a) n c))∧p.1.x.h=x0.h∧p.2=v0)
theorem DH.hrd {wS:World} {x0:Ex} {v0:Value} {w w':World} {p:Fd×Value} (h:DH wS x0 v0 w p) (e:Ext wS w) (e':Ext w w'):Hrd w' p.1.x p.2:=by
 rcases h with ⟨B,o⟩|⟨⟨o,_⟩,_⟩
 ·exact Row.of_own (own_ext o e')
 ·exact o.ext (e.trans e')
theorem DH.vv {wS:World} {x0:Ex} {v0:Value} {w:World} {p:Fd×Value} (h:DH wS x0 v0 w p):p.2 = .slice none 0 0∨∃ a n c,p.2 = .slice (some a) n c:=by
 rcases h with ⟨B,o⟩|⟨⟨_,o⟩,_⟩
 ·rcases o.2 with ⟨hv,_⟩|⟨g,cap,cur,hv,_⟩
  ·exact .inl hv
  ·exact .inr ⟨_,_,_,hv⟩
 ·exact o
theorem DH.one {wS:World} {x0:Ex} {v0:Value} {w:World} {p:Fd×Value} (h:DH wS x0 v0 w p):p.2.oneCell'=true:=by rcases h.vv with h|⟨_,_,_,h⟩<;>(rw [h];rfl)
structure DAt (wS:World) (x0:Ex) (v0:Value) (gr:Nat) (r:Rg) (tv:Value) (L:List (Fd×Value)) (lv:Value) (w:World):Prop where
 ext:Ext wS w
 rg:RgAt w gr r tv
 lr:DRow w wS.heap.size L lv
 hh : ∀ p∈L,DH wS x0 v0 w p
section
variable {wS:World} {x0:Ex} {v0:Value} {gr:Nat} {r:Rg} {tv:Value} {L:List (Fd×Value)} {lv:Value} {w w' w3:World}
theorem DAt.ext' (h:DAt wS x0 v0 gr r tv L lv w) (e:Ext w w'):DAt wS x0 v0 gr r tv L lv w':=⟨h.ext.trans e,h.rg.ext e,h.lr.ext e,fun p hp=>(h.hh p hp).imp (fun ⟨B,o⟩=>⟨B,own_ext o e⟩) id⟩
theorem DAt.tag (h:DAt wS x0 v0 gr r tv L lv w) (g3:w.grownBy w3 lv.ownBlock) {b:Nat} {cs:Array Value} {t:TypeId} {fr:Nat×Nat} (hb:w.heap[b]?=some (.cells cs t fr)) (ht:t≠54):w3.heap[b]?=some (.cells cs t fr):=by
 rw [g3.block b (zL hb) (fun he=>tag_ne h.lr hb ht (by unfold rowB;rw [←he];exact .head _))]
 exact hb
theorem DAt.row (h:DAt wS x0 v0 gr r tv L lv w) (g3:w.grownBy w3 lv.ownBlock) {B:Nat} {e:TypeId} {size n:Nat} {v:Value} {xs:List Value} (ho:w.ownsRow B e size v n xs) (he:e≠54):w3.ownsRow B e size v n xs:=own_at ho fun b hb=>by
 obtain ⟨cur,hc⟩:=row_tag ho hb
 rw [hc]
 exact h.tag g3 hc he
theorem drow_one {B:Nat} {p:Fd×Value} {v:Value} {n:Nat} {xs:List Value} (h:w.ownsRow B 54 36 v n xs) (hn:n=L.length+1) (hx:xs=L.flatMap fvC++fvC p):DRow w B (L++[p]) v:=by
 subst hn hx
 unfold DRow
 rw [List.length_append,List.flatMap_append]
 simpa using h
theorem DAt.add (h:DAt wS x0 v0 gr r tv L lv w) {p:Fd×Value} {lv':Value} (o3:DRow w3 wS.heap.size (L++[p]) lv') (g3:w.grownBy w3 lv.ownBlock) (b3:Below wS.heap.size w w3) (hp : ∃ B : {n // wS.heap.size≤n},Own w B.1 p.1.x.h p.2):DAt wS x0 v0 gr r tv (L++[p]) lv' w3:=by
 refine ⟨h.ext.trans' b3,h.tag g3 h.rg (by decide),o3,fun q hq=>?_⟩
 rcases List.mem_append.1 hq with hq|hq
 ·exact (h.hh q hq).imp (fun ⟨B,o⟩=>⟨B,h.row g3 o (by decide)⟩) id
 ·rw [List.mem_singleton.1 hq]
  obtain ⟨B,o⟩:=hp
  exact .inl ⟨B,h.row g3 o (by decide)⟩
end
theorem mv_range {w:World} {g off:Nat} {L:List Mv} {k:Nat} {x:Mv} (h : ∀ j u,(L.flatMap Mv.cs)[j]?=some u→w.cell? ⟨g,off+j,none⟩=some u) (hx:L[k]?=some x):w.rangeAt g (off+k*9) x.arr.toList:=fun j u hj=>by
 have hjl:j<9:=zM hj
 rw [Nat.add_assoc]
 refine h _ _ ?_
 rw [flat_get Mv.cs 9 (fun _=>rfl) L k x hx j hjl]
 exact hj
theorem info_found2:(Tryz.prog.info? 54).map (fun i=>(i.zero,i.size,i.bytes))=some (some fdZ,36,344):=by kernel_rfl
def DaP (w:World) (x:Ex) (v:Value) (R:List Fd×Bool) (e:Ending) (w':World):Prop:=
 ∃ (L:List (Fd×Value)) (lv:Value),L.map (·.1)=R.1∧e = .returned (.tuple #[lv,.bool R.2])∧DRow w' w.heap.size L lv∧(∀ p∈L,Hrd w' p.1.x p.2∧(p.2 = .slice none 0 0∨∃ a n c,p.2 = .slice (some a) n c)∧p.1.x.h.length≤300∧((∃ B : {n // w.heap.size≤n},Own w' B.1 p.1.x.h p.2)∨(p.1.x.h=x.h∧p.2=v)))∧Ext w w'
theorem rr_all (x:Ex) (v:Value) (r:Rg) (tv:Value) (w:World) (hR:Hrd w x v) (hv:v = .slice none 0 0∨∃ a n c,v = .slice (some a) n c) (hn:x.h.length≤100) (hT:Row w 1 tv r.t.length (r.t.map Value.string)) (hTn:r.t.length≤1000) (hm:r.m≤100) :
 Calls Tryz.prog 12 #[.agg (x.arr v),.agg (r.arr tv)] w (DaP w x v (goD (mostR r) (movesR evsS · r) x)):=by
 have HRD:=zd hR
 have HVV:=zd hv
 have HT:=zd hT
 obtain ⟨R,hRR⟩ : ∃ R,R=goD (mostR r) (movesR evsS · r) x:=⟨_,rfl⟩
 rw [←hRR]
 have HR:=zd hRR
 obtain ⟨most,hmost⟩ : ∃ most,mostR r=most:=⟨_,rfl⟩
 have HMO:=zd hmost
 have hm1:min (max r.m 1) 20000=(most:Int):=by
  rw [←hmost]
  unfold mostR
  omega
 have hml:1≤most∧most≤100:=by omega
 have HML:=zd hml
 have HM1:=zd hm1
 clear hR hv hT hRR hmost hm1 hml
 go_enter Tryz.func12,Tryz.ntmps12
 go_upto_region 1 with fail
 refine wp_forget (fun w'=>∃ gx gr,gx=w.heap.size∧gr=w.heap.size+1∧ExAt w' gx x v∧RgAt w' gr r tv∧Ext w w') ⟨_,_,rfl,rfl,(two_new zR).1,(two_new zR).2.1,(two_new zR).2.2⟩ ?_
 rintro W1 ⟨gx,gr,hgx,hgr,h1,h2,x1⟩
 rw [←hgr,←hgx]
 clear hgr hgx
 have HX1:=zd h1
 have HR1:=zd h2
 have HE1:=zd x1
 unfold RgAt Rg.arr at h2
 have qr3:=zQ h2 3
 have lr1:gr<W1.heap.size:=zL h2
 clear h1 h2 x1
 go_upto_if 16 with fail
 go_cut [6] from 13 (fun s6 wc=>s6 = .int .i64 (most:Int)∧wc=W1)
 case first=>
  have hm1:=HM1.out
  have hml:=HML.out
  by_cases hlow:r.m<1
  ·have e1:most=1:=by omega
   have E1:=zd e1
   clear hm1 hml e1
   go_wp2_with fail
   go_meet
   exact ⟨by rw [E1.out];rfl,rfl⟩
  ·have e1:r.m=(most:Int):=by omega
   have E1:=zd e1
   clear hm1 hml e1
   go_wp2_with fail
   go_meet
   exact ⟨by rw [E1.out],rfl⟩
 case rest=>
 obtain ⟨rfl,rfl⟩:=hcut
 rename World=>W1
 have e2 : ¬(20000:Int)<(most:Int):=by have:=HML.out;omega
 go_upto_region 6 with fail
 clear e2
 go_upto_region 7 with ((with_reducible refine wpList_load_rowG ?_ 33 (.tmp 2) ?_ gx ?_ 33 #[.int .u64 x.c,.int .i64 x.s0.r,.int .u64 x.s0.c,.string x.s0.t,.int .i64 x.s0.ph,.int .i64 x.s0.p.k,.int .i64 x.s0.p.f,.int .u64 x.s0.p.c,.string x.s0.p.t,.bool x.s0.p.b,.int .i64 x.s1.r,.int .u64 x.s1.c,.string x.s1.t,.int .i64 x.s1.ph,.int .i64 x.s1.p.k,.int .i64 x.s1.p.f,.int .u64 x.s1.p.c,.string x.s1.p.t,.bool x.s1.p.b,.int .u64 x.v.c,.int .i64 x.v.k,.string x.v.t,.bool x.b0,.bool x.b1,.bool x.full,v] (0,0) _ ?_ zu33 ?_ ?_ ?_);(·rfl);(·rfl);(·rfl);(·exact HX1.out);(·rfl);(·exact info_ex))
 refine wp_forget (fun w'=>∃ gb,Hid (gb=W1.heap.size)∧w'.heap[gb]?=some (.cells (fvC (⟨x,-1,m0⟩,v)).toArray 54 (0,0))∧Ext W1 w') ⟨W1.heap.size,zd rfl,heap_new rfl,zR.alloc _⟩ ?_
 rintro W3 ⟨gb,HGB,h32,x3⟩
 rw [←HGB.out]
 have K6:Hid (DAt w x v gr r tv [(⟨x,-1,m0⟩,v)] (.slice (some ⟨gb,0,none⟩) 1 1) W3):=zd (by
  have hgb:=HGB.out
  have s1:=HE1.out.size
  refine ⟨HE1.out.trans x3,HR1.out.ext x3,⟨by simp [fvC_len],.inr ⟨gb,1,_,rfl,by omega,h32,Nat.le_refl _,by decide,by simp [fvC_len],by
   rw [List.take_of_length_le (by simp [fvC_len])]
   simp⟩⟩,fun p hp=>?_⟩
  rw [List.mem_singleton.1 hp]
  exact .inr ⟨⟨HRD.out,HVV.out⟩,rfl,rfl⟩)
 have HR2:Hid (R=outD most (movesR evsS · r) (most+1) 0 [⟨x,-1,m0⟩]):=zd (by
  have:=HR.out
  rw [HMO.out] at this
  exact this)
 have hml:=HML.out
 clear h32 x3 HGB HR HMO HX1 HR1 HE1 qr3 lr1
 go_wp2_with fail
 go_loopg [7,8] (most+1) (fun g l ii wr=>∃ (k:Nat) (L:List (Fd×Value)),ii = .int .i64 (k:Int)∧k+g=most+1∧k≤L.length∧L.length≤most∧Hid (DAt w x v gr r tv L l wr)∧Hid (∀ p∈L,p.1.x.h.length≤100+L.length)∧Hid (R=outD most (movesR evsS · r) g k (L.map (·.1))))
 case atStart=>exact ⟨0,[(⟨x,-1,m0⟩,v)],rfl,by omega,Nat.zero_le _,by simp;omega,K6,zd (fun p hp=>by rw [List.mem_singleton.1 hp];simp;omega),HR2⟩
 case round=>
  clear K6 HR2
  obtain ⟨k,L,rfl,hg,hkL,hLm,HK,HOK,HRk⟩:=hrel
  rename World=>Wr
  obtain ⟨ga,gcap,hlv⟩:=own_sl HK.out.lr
  subst hlv
  by_cases hlt:k<L.length
  case neg=>
   have i1 : ¬(k:Int)<(L.length:Int):=by omega
   go_wp2_with fail
   refine ⟨rfl,.tuple #[.slice ga L.length gcap,.bool true],by simp [results,go_sem],?_⟩
   have h1:=HRk.out
   rw [outD_none (List.getElem?_eq_none (by rw [List.length_map];omega))] at h1
   rw [h1]
   exact ⟨L,_,rfl,rfl,HK.out.lr,fun p hp=>⟨(HK.out.hh p hp).hrd HK.out.ext zR,(HK.out.hh p hp).vv,by have:=HOK.out p hp;omega,(HK.out.hh p hp).imp id (·.2)⟩,HK.out.ext⟩
  have i1:(k:Int)<(L.length:Int):=by omega
  obtain ⟨p,hp⟩ : ∃ p,L[k]?=some p:=⟨_,zG hlt⟩
  obtain ⟨g0,cap,hv,hgl,hmx,hrg0⟩:=drow_f HK.out.lr hp
  have hrg:=drow_x hrg0
  cases hv
  unfold maxLen at hmx
  have hop:=HK.out.hh p (zE hp)
  have hpx:=HOK.out p (zE hp)
  have hM:=fun w' (hw:Ext Wr w')=>rr_moves p.1.x p.2 r tv w' (hop.hrd HK.out.ext hw) hop.vv (by omega) (Row.ext HT.out (HK.out.ext.trans hw)) hTn
  have HM:=zd hM
  have HP:=zd hp
  have HRG:=zd hrg
  clear hM hop hrg hrg0 hp
  go_upto_region 10 with fail
  refine wp_region_mixE (af:=?af) [true,true,true,true,true,true,false,false] 74 (by kernel_rfl) rfl (by kernel_rfl) ?q ?r
  case q=>
   intro y
   simp only [pickT,if_true,if_false,Bool.false_eq_true]
   repeat (go_big_quiet_step (fail))
   (go_big_quiet_want;refine quiet_load_midA 33 _ rfl g0 (k*36) rfl (p.1.x.arr p.2) (.struct _) (fun j v hj=>cell_keep (HRG.out j v hj) y.ext) zu33 rfl info_ex ?_;go_big_quiet_on;simp only [Act.put,List.setIfInBounds_toArray,List.set_cons_succ,List.set_cons_zero])
   (go_big_quiet_want;refine quiet_load_rowX 36 _ rfl _ rfl _ _ (0,0) _ (HK.out.rg.ext y.ext) zu36 rfl info_range ?_;go_big_quiet_on;simp only [Act.put,List.setIfInBounds_toArray,List.set_cons_succ,List.set_cons_zero])
   repeat (go_big_quiet_step (fail))
   exact rfl
  case r=>
   simp only [pickF,if_true,if_false,Bool.false_eq_true]
   intro x1
   go_wp2_with fail
   refine (HM.out _ ((Ext.refl Wr).drew.val x1)).mono ?_
   rintro e w7 ⟨mv,rfl,ho7,hx7⟩
   have e7:Ext Wr w7:=((Ext.refl Wr).drew.val x1).trans hx7
   obtain ⟨va7,vc7,rfl⟩:=own_sl ho7
   go_wp2_with fail
   refine ⟨e7,?_⟩
   intro x2
   go_wp2_with fail
   refine ⟨e7.val x2,?_⟩
   intro x3
   have k8:=HK.out.ext' ((e7.val x2).val x3)
   have r8 : ∃ B,Own9 x3.val B (movesR evsS p.1.x r) _:=⟨_,own_ext (own_ext ho7 x2.ext) x3.ext⟩
   have HR8:Hid (R=midD most (movesR evsS · r) (most - k) k p.1.x (movesR evsS p.1.x r) (L.map (·.1))):=zd (by
    have h1:=HRk.out
    rw [show gk=(most - k)+1 by omega,outD_some (d:=p.1) (by rw [List.getElem?_map,HP.out];rfl)] at h1
    exact h1)
   generalize movesR evsS p.1.x r=ms at r8 HR8
   generalize x3.val=W8 at k8 r8
   have K8:=zd k8
   have R8:=zd r8
   clear k8 r8 x3 x2 e7 ho7 hx7 x1 HRG HM HK hgl HRk
   have hkL:=hlt
   have hPn:Hid (L[k]?=some p):=HP
   go_wp2_with fail
   go_loopg [7,10] ms.length (fun g l jj wr=>∃ (j:Nat) (L2:List (Fd×Value)),jj = .int .i64 (j:Int)∧j+g=ms.length∧k<L2.length∧L2.length≤most∧Hid (L2[k]?=some p)∧Hid (DAt w x v gr r tv L2 l wr)∧Hid (∀ p∈L2,p.1.x.h.length≤100+L2.length)∧Hid (∃ B,Own9 wr B ms (.slice va7 ms.length vc7))∧Hid (R=midD most (movesR evsS · r) (most - k) k p.1.x (ms.drop j) (L2.map (·.1))))
   case atStart=>exact ⟨0,L,rfl,by omega,hlt,hLm,HP,K8,HOK,R8,HR8⟩
   case round=>
    clear K8 R8 HR8 HP hPn HOK hLm hkL hlt hmx i1 hpx
    obtain ⟨j,L2,rfl,hg2,hkL,hLm,HP,HK,HOK,R9,HRk⟩:=hrel
    rename World=>W9
    by_cases hj:j<ms.length
    case neg=>
     have i1 : ¬(j:Int)<(ms.length:Int):=by omega
     go_wp2_with fail
     go_roundg (most - k)
     case rel=>
      refine ⟨k+1,L2,rfl,by omega,hkL,hLm,HK,HOK,zd ?_⟩
      have h1:=HRk.out
      rw [List.drop_eq_nil_of_le (by omega),midD_nil] at h1
      exact h1
     case measure=>omega
    have i1:(j:Int)<(ms.length:Int):=by omega
    obtain ⟨m,hm0⟩ : ∃ m,ms[j]?=some m:=⟨_,zG hj⟩
    have HM0:=zd hm0
    obtain ⟨B9,hr9⟩:=R9.out
    obtain ⟨a9,c9,hv9,hm9,hvw9⟩:=row_view (Row.of_own hr9)
    cases hv9
    obtain ⟨g9,o9,rfl,hg9,hc9⟩:=hvw9 (by omega)
    have hg9:=hg9 (by omega)
    have HC9:=zd hc9
    have HRD2:Hid (ms.drop j=m::ms.drop (j+1)):=zd (by
     obtain ⟨h1,h2⟩:=List.getElem?_eq_some_iff.1 hm0
     rw [List.drop_eq_getElem_cons h1,h2])
    unfold maxLen at hm9
    clear hc9 hr9 hm0
    obtain ⟨g0,cap,hlv,hgl,hmx,hrg0⟩:=drow_f HK.out.lr HP.out
    subst hlv
    have hrg:=drow_x hrg0
    unfold maxLen at hmx
    have hop:=HK.out.hh p (zE HP.out)
    have hpx:=HOK.out p (zE HP.out)
    have hS:=fun w' (hw:Ext W9 w')=>rx_step p.1.x p.2 m w' (hop.hrd HK.out.ext hw) hop.vv (by omega)
    have hyl:=zT (step_len p.1.x m) (Nat.succ_le_succ hpx)
    obtain ⟨y,hy⟩ : ∃ y,(stepX p.1.x m).1=y:=⟨_,rfl⟩
    obtain ⟨ok,hok⟩ : ∃ ok,(stepX p.1.x m).2=ok:=⟨_,rfl⟩
    rw [hy,hok] at hS
    rw [hy] at hyl
    have HY:=zd hy
    have HS:=zd hS
    have HRG:=zd hrg
    have i2:(k:Int)<(L2.length:Int):=by omega
    clear hop hS hy hok hrg hrg0 hpx
    go_upto_region 14 with fail
    refine wp_region_mixF (af:=?af2) exZ 33 [true,true,true,true,true,true,true,true,true,false,false,false,false,false,false,false] [false,false,false,false,false,false,false,false,false,false,true,true,true,false,false,true] 74 4 (C:=Ext W9) (by kernel_rfl) rfl (by kernel_rfl) (fun _ _ h e=>Ext.trans h e) zR.drew ?q ?r
    case q=>
     intro w' hw'
     obtain ⟨y1,rfl⟩:=ext_of hw'
     have HMR:=zd (mv_range (fun j u hj=>cell_keep (HC9.out j u hj) y1.ext) HM0.out)
     simp only [pickT,if_true,if_false,Bool.false_eq_true]
     repeat (go_big_quiet_step (fail))
     (go_big_quiet_want;refine quiet_load_midA 33 _ rfl g0 (k*36) rfl (p.1.x.arr p.2) (.struct _) (fun j v hj=>cell_keep (HRG.out j v hj) y1.ext) zu33 rfl info_ex ?_;go_big_quiet_on;simp only [Act.put,List.setIfInBounds_toArray,List.set_cons_succ,List.set_cons_zero])
     repeat (go_big_quiet_step (fail))
     (go_big_quiet_want;refine quiet_load_midA 52 _ rfl g9 (o9+j*9) rfl m.arr (.struct _) HMR.out zu52 rfl (info_mv9 m) ?_;go_big_quiet_on;simp only [Act.put,List.setIfInBounds_toArray,List.set_cons_succ,List.set_cons_zero])
     refine wpQuiet_nil ?_
     exact rfl
    case r=>
     simp only [restL,if_true,if_false,Bool.false_eq_true]
     refine ⟨fun a w=>by simp [go_sem,exZ],?_⟩
     intro x1
     go_wp2_with fail
     refine (HS.out _ ((Ext.refl W9).drew.val x1)).mono ?_
     rintro e w4 ⟨v',rfl,hO',hx4⟩
     go_wp2_with fail
     refine ⟨hx4,?_⟩
     refine ⟨.tuple #[.agg (y.arr v'),.bool ok],.inl ⟨rfl,fun w _=>⟨rfl,rfl⟩⟩,?_⟩
     refine ⟨.agg (y.arr v'),.inl ⟨rfl,fun w _=>⟨rfl,rfl⟩⟩,?_⟩
     refine ⟨.bool ok,.inl ⟨rfl,fun w _=>⟨rfl,rfl⟩⟩,?_⟩
     intro x2 gT hgT hzT
     have e2:Ext W9 x2.val:=(((Ext.refl W9).drew.val x1).trans hx4).val x2
     have hv'1:v'.oneCell'=true:=by obtain ⟨sa,sn,hsv⟩:=own_sl hO';rw [hsv];rfl
     intro x3
     go_wp2_with (refine wpList_store_row rfl 33 _ _ rfl gT _ rfl rfl 33 _ (heap_ext hzT x3.ext) info_ex rfl (arr_one y hv'1) ?_)
     refine ⟨(e2.val x3).setRow hgT _,?_⟩
     refine ⟨.bool ok,.inl ⟨rfl,fun w _=>⟨rfl,rfl⟩⟩,?_⟩
     intro x4
     have eT:ExAt x4.val gT y v':=heap_ext (setRow_heap _ _ _ _ _ _ (heap_ext hzT x3.ext)) x4.ext
     have eX:Ext W9 x4.val:=((e2.val x3).setRow hgT _).val x4
     have eO : ∃ B : {n // w.heap.size≤n},Own x4.val B.1 y.h v':=⟨⟨_,zT HK.out.ext.size ((Ext.refl W9).drew.val x1).size⟩,own_ext (own_setRow (own_ext hO' (x2.ext.trans x3.ext)) (heap_ext hzT x3.ext) (by decide) _) x4.ext⟩
     have k10:=HK.out.ext' eX
     have r10:=own9_exts R9.out eX
     have hc10:=fun j u hj=>cell_keep (HC9.out j u hj) eX
     have hl10:=zU hg9 eX.size
     generalize x4.val=W10 at eT eO k10 r10 hc10 hl10 ⊢
     have K10:=zd k10
     have R10:=zd r10
     have HC10:=zd hc10
     have HT10:=zd eT
     have HO10:=zd eO
     clear k10 r10 hc10 eT eO eX x4 x3 hzT hgT e2 x2 hx4 hO' x1 HRG R9 HK HS hgl hg9 HC9
     have hF:=fun w' (hw:Ext W10 w')=>rr_find L2 _ _ y v' w' (K10.out.lr.ext hw) (fun p hp=>(K10.out.hh p hp).hrd K10.out.ext hw) (HO10.out.elim fun B o=>Row.of_own (own_ext o hw))
     have HF:=zd hF
     clear hF
     generalize hb:(L2.any fun p=>sameD p.1.x y)=has at HF
     have HB:=zd hb
     have HBM:Hid ((L2.map (·.1)).any (fun f=>sameD f.x y)=has):=zd (by rw [List.any_map];exact hb)
     clear hb
     rcases has
     case true=>
      go_wp2_with (first|((with_reducible refine wpList_load_rowG ?_ 33 (.tmp 11) ?_ gT ?_ 33 (y.arr v') (0,0) _ ?_ zu33 ?_ ?_ ?_);(·rfl);(·rfl);(·rfl);(·exact HT10.out);(·rfl);(·exact info_ex))|(go_at_call 30;refine (HF.out _ zR).mono ?_;rintro e w13 ⟨n,rfl,hn13,hx13⟩;have hn0:0≤n:=of_decide_eq_true hn13;clear hn13))
      go_roundg (gk - 1)
      case rel=>
       refine ⟨j+1,L2,rfl,by omega,hkL,hLm,HP,zd (K10.out.ext' hx13),HOK,zd (own9_exts R10.out hx13),zd ?_⟩
       have h1:=HRk.out
       rw [HRD2.out,midD_old (by rw [HY.out];exact HBM.out)] at h1
       exact h1
      case measure=>omega
     go_upto_region 16 with (first|((with_reducible refine wpList_load_rowG ?_ 33 (.tmp 11) ?_ gT ?_ 33 (y.arr v') (0,0) _ ?_ zu33 ?_ ?_ ?_);(·rfl);(·rfl);(·rfl);(·exact HT10.out);(·rfl);(·exact info_ex))|(go_at_call 30;refine (HF.out _ zR).mono ?_;rintro e w13 ⟨n,rfl,hn13,hx13⟩;have hn0 : ¬0≤n:=of_decide_eq_false hn13;clear hn13))
     have K13:=zd (K10.out.ext' hx13)
     have R13:=zd (own9_exts R10.out hx13)
     have HT13:=zd (heap_ext HT10.out hx13)
     have HO13:Hid (∃ B : {n // w.heap.size≤n},Own w13 B.1 y.h v'):=zd (HO10.out.imp fun B o=>own_ext o hx13)
     have lt13:gT<w13.heap.size:=zL HT13.out
     clear hx13 K10 R10 HT10 HO10 HF HB HC10
     by_cases hful:most≤L2.length
     case pos=>
      have hful':(most:Int)≤(L2.length:Int):=by omega
      go_wp2_with fail
      refine ⟨rfl,.tuple #[.slice (some ⟨g0,0,none⟩) L2.length cap,.bool false],by (simp [results,go_sem];try omega),?_⟩
      have h1:=HRk.out
      rw [HRD2.out,midD_full (by rw [HY.out];exact HBM.out) (by rw [List.length_map];exact hful)] at h1
      rw [h1]
      exact ⟨L2,_,rfl,rfl,K13.out.lr,fun p hp=>⟨(K13.out.hh p hp).hrd K13.out.ext zR,(K13.out.hh p hp).vv,by have:=HOK.out p hp;omega,(K13.out.hh p hp).imp id (·.2)⟩,K13.out.ext⟩
     have hful' : ¬(most:Int)≤(L2.length:Int):=by omega
     go_upto_region 18 with fail
     refine wp_region_mixR (af:=?af18) [true,true,true,true,true,true,true,false,false,false,false] 74 #[true,true,true,true,true,true,true,false,false,false,false] (fun w'=>ExAt w' gT y v'∧∃ B,Own9 w' B ms (.slice (some ⟨g9,o9,none⟩) ms.length vc7)) (by kernel_rfl) rfl (by kernel_rfl) (fun _ _ h e=>⟨heap_ext h.1 e,own9_exts h.2 e⟩) ⟨heap_ext HT13.out zR.drew,own9_exts R13.out zR.drew⟩ ?q18 ?r18
     case q18=>
      rintro w' ⟨hw1,B',ho'⟩
      obtain ⟨a',c',hv',hm',hvw'⟩:=row_view (Row.of_own ho')
      cases hv'
      obtain ⟨g',o',he',hg',hc'⟩:=hvw' (by omega)
      cases he'
      have HMR:=zd (mv_range hc' HM0.out)
      have HW1:=zd hw1
      clear hc' hvw' ho' hw1
      simp only [pickT,if_true,if_false,Bool.false_eq_true]
      repeat (go_big_quiet_step (fail))
      (go_big_quiet_want;refine quiet_load_rowX 33 _ rfl _ rfl _ #[.int .u64 y.c,.int .i64 y.s0.r,.int .u64 y.s0.c,.string y.s0.t,.int .i64 y.s0.ph,.int .i64 y.s0.p.k,.int .i64 y.s0.p.f,.int .u64 y.s0.p.c,.string y.s0.p.t,.bool y.s0.p.b,.int .i64 y.s1.r,.int .u64 y.s1.c,.string y.s1.t,.int .i64 y.s1.ph,.int .i64 y.s1.p.k,.int .i64 y.s1.p.f,.int .u64 y.s1.p.c,.string y.s1.p.t,.bool y.s1.p.b,.int .u64 y.v.c,.int .i64 y.v.k,.string y.v.t,.bool y.b0,.bool y.b1,.bool y.full,v'] (0,0) _ HW1.out zu33 rfl info_ex ?_;go_big_quiet_on;simp only [Act.put,List.setIfInBounds_toArray,List.set_cons_succ,List.set_cons_zero])
      repeat (go_big_quiet_step (fail))
      (go_big_quiet_want;refine quiet_load_midA 52 _ rfl g9 (o9+j*9) rfl #[.int .i64 m.k,.int .i64 m.who,.string m.t,.int .i64 m.l.k,.int .i64 m.l.f,.int .u64 m.l.c,.string m.l.t,.bool m.l.b,.bool m.lost] (.struct _) HMR.out zu52 rfl (info_mv9 m) ?_;go_big_quiet_on;simp only [Act.put,List.setIfInBounds_toArray,List.set_cons_succ,List.set_cons_zero])
      repeat (go_big_quiet_step (fail))
      refine wpQuiet_nil ?_
      exact rfl
     case r18=>
      refine wpAnyT_one (i:=7) (by kernel_rfl) rfl ?_
      intro x0
      go_wp2_with fail
      have c0:=And.intro (heap_ext HT13.out ((Ext.refl w13).drew.val x0)) (own9_exts R13.out ((Ext.refl w13).drew.val x0))
      refine ⟨by first|exact c0|exact fun _=>c0,?_⟩
      refine wpAnyT_one (i:=8) (by kernel_rfl) rfl ?_
      intro x1
      go_wp2_with fail
      have e1:Ext w13 (x1.val.alloc (.cells (fvC (⟨y,(k:Int),m⟩,v')).toArray 54)):=(((Ext.refl w13).drew.val x0).val x1).alloc _
      have c1:=And.intro (heap_ext HT13.out e1) (own9_exts R13.out e1)
      refine ⟨by first|exact c1|exact fun _=>c1,?_⟩
      refine wpAnyT_one (i:=9) (by kernel_rfl) rfl ?_
      intro x2
      have e2:=e1.val x2
      have KB:=K13.out.ext' e2
      obtain ⟨i1,hi,hz0,hz1,hz2⟩:=info_parts info_found2
      have hv'1:v'.oneCell'=true:=by obtain ⟨By,hoy⟩:=HO13.out;obtain ⟨sa,sn,hsv⟩:=own_sl hoy;rw [hsv];rfl
      refine wpList_app6 w.heap.size 44 54 i1 _ 36 344 zu44 hi hz0 hz1 hz2 rfl (by decide) rfl _ _ rfl (.slice (some ⟨g0,0,none⟩) L2.length cap) L2.length _ rfl KB.lr KB.ext.size x1.val.heap.size 1 1 _ (by omega) rfl (heap_ext (heap_new rfl) x2.ext) rfl (fv_one (⟨y,(k:Int),m⟩,v') hv'1) (by unfold maxLen;omega) (by omega) ?_
      intro lv' w21 o21 b21 g21 nw21
      go_wp2_with fail
      have k21:=KB.add (p:=(⟨y,(k:Int),m⟩,v')) (drow_one o21 rfl rfl) g21 b21 (HO13.out.imp fun B o=>own_ext o e2)
      have t21:ExAt w21 gT y v':=KB.tag g21 (heap_ext HT13.out e2) (by decide)
      have r21 : ∃ B,Own9 w21 B ms (.slice (some ⟨g9,o9,none⟩) ms.length vc7):=(own9_exts R13.out e2).imp fun B o=>KB.row g21 o (by decide)
      have c2:=And.intro t21 r21
      refine ⟨by first|exact c2|exact fun _=>c2,?_⟩
      refine wpAnyT_one (i:=10) (by kernel_rfl) rfl ?_
      intro x3
      go_wp2_with fail
      refine ⟨fun h=>absurd h (by decide),?_⟩
      refine wpAnyT_end (by kernel_rfl) fun x9=>?_
      have K21:=zd (k21.ext' (x3.ext.trans x9.ext))
      have R21:=zd (own9_exts r21 (x3.ext.trans x9.ext))
      generalize x9.val=W21 at K21 R21 ⊢
      go_wp2_with fail
      go_roundg (gk - 1)
      case rel=>
       refine ⟨j+1,L2++[(⟨y,(k:Int),m⟩,v')],rfl,by omega,by simp;omega,by simp;omega,?_,K21,?_,R21,?_⟩
       ·refine zd ?_
        rw [List.getElem?_append_left hkL]
        exact HP.out
       ·refine zd fun q hq=>?_
        rw [List.length_append]
        rcases List.mem_append.1 hq with hq|hq
        ·have:=HOK.out q hq
         simp;omega
        ·rw [List.mem_singleton.1 hq]
         simp;omega
       ·refine zd ?_
        have h1:=HRk.out
        rw [HRD2.out,midD_new (by rw [HY.out];exact HBM.out) (by rw [List.length_map];exact hful),HY.out] at h1
        rw [h1,List.map_append]
        rfl
      case measure=>omega

end Go.Proofs.YtlnmhocehgmbbaaGreatDoor

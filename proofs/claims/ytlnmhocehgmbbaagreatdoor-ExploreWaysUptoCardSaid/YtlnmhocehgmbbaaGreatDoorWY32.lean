/- No condition. -/
import Derived.Test.YtlnmhocehgmbbaaGreatDoorWY18
import Derived.Test.YtlnmhocehgmbbaaGreatDoorWY19
import Derived.Test.YtlnmhocehgmbbaaGreatDoorWY21
import Derived.Test.YtlnmhocehgmbbaaGreatDoorWY22
import Derived.Test.YtlnmhocehgmbbaaGreatDoorWY25
import Derived.Test.YtlnmhocehgmbbaaGreatDoorWY31
import Derived.Deep.CutRange
set_option linter.all false
set_option maxRecDepth 100000
set_option maxHeartbeats 6400000
namespace Go.Proofs.YtlnmhocehgmbbaaGreatDoor
open Go.RowKit
attribute [local go_sem ↓] eql_lEq eql_sEq eql_eEq eql_oEq neq_lEq neq_sEq neq_eEq neq_oEq eql_vEq neq_vEq eql_nil
attribute [local go_sem] ExtOf.cell ExtOf.frozen ExtOf.lt ExtOf.le
attribute [local go_sem high] ExtOf.cell2 ExtOf.frozen2 ExtOf.lt2 ExtOf.cell3 ExtOf.frozen3 ExtOf.lt3
theorem rr_moves (x:Ex) (v:Value) (r:Rg) (tv:Value) (w:World) (hR:Hrd w x v) (hv:v = .slice none 0 0∨∃ a n c,v = .slice (some a) n c) (hn:x.h.length≤1000) (hT:Row w 1 tv r.t.length (r.t.map Value.string)) (hTn:r.t.length≤1000) :
 Calls Tryz.prog 15 #[.agg (x.arr v),.agg (r.arr tv)] w (Made w 52 9 (movesR evsS x r).length ((movesR evsS x r).flatMap Mv.cs)):=by
 obtain ⟨i0,hi,hz0,hz1,hz2⟩:=info_parts info_move
 have hM:=fun w' (hw:Ext w w')=>rx_moves x v tv r.t w' (hR.ext hw) hv hn (hT.ext hw) hTn
 rw [movesR_eq]
 have hML:=movesS_len x r.t hTn
 generalize movesS evsS x r.t=C at hM hML ⊢
 have HM:=zd hM
 obtain ⟨ta,tc,rfl,_,_⟩:=row_view hT
 clear hM hR hT hv
 go_enter Tryz.func15,Tryz.ntmps15
 go_upto_region 2 with fail
 refine wp_forget (fun w'=>∃ gx gr,gx=w.heap.size∧gr=w.heap.size+1∧ExAt w' gx x v∧RgAt w' gr r (.slice ta r.t.length tc)∧Ext w w') ⟨_,_,rfl,rfl,(two_new zR).1,(two_new zR).2.1,(two_new zR).2.2⟩ ?_
 rintro W1 ⟨gx,gr,hgx,hgr,h1,h2,x1⟩
 rw [←hgr,←hgx]
 clear hgx hgr
 have HX1:=zd h1
 have HR1:=zd h2
 have HE1:=zd x1
 unfold RgAt Rg.arr at h2
 have p0:=zQ h2 0
 have l1:gr<W1.heap.size:=zL h2
 clear h1 h2 x1
 go_upto_region 3 with (first|((with_reducible refine wpList_load_rowG ?_ 33 (.tmp 2) ?_ gx ?_ 33 (x.arr v) (0,0) _ ?_ zu33 ?_ ?_ ?_);(·rfl);(·rfl);(·rfl);(·exact HX1.out);(·rfl);(·exact info_ex))|(go_at_call 34;refine (HM.out _ HE1.out).mono ?_;rintro e w3 ⟨vr,rfl,hv,hx⟩;have HRV:=zd hv;have HX3:=zd hx;obtain ⟨a,cap,rfl,hm,hvw⟩:=row_view (Row.of_own hv);have HV:=zd hvw;unfold maxLen at hm;clear hvw hv hx))
 have hr3:=HR1.out.ext HX3.out
 unfold RgAt Rg.arr at hr3
 have p1:=zQ hr3 1
 have p2:=zQ hr3 2
 have l3:gr<w3.heap.size:=zL hr3
 clear hr3 p0 l1
 refine wp_forget (fun w'=>w3=w') rfl ?_
 rintro _ rfl
 go_upto_region 4 with fail
 go_loopg [5,7] C.length (fun g l ii wr=>∃ (n:Nat) (y:ExtOf w3),ii = .int .i64 (n:Int)∧n+g=C.length∧wr=y.val∧Hid (Own9 wr w3.heap.size ((C.take n).filter fun m=>!delB r m) l))
 case atStart=>exact ⟨0,⟨w3,zR⟩,rfl,by omega,rfl,zd (World.ownsRow_nil _ _ _ _)⟩
 case round=>
  obtain ⟨n,y,rfl,hg,rfl,HOwn⟩:=hrel
  by_cases hlt:n<C.length
  case neg=>
   have hge : ¬(n:Int)<(C.length:Int):=by omega
   go_wp2_with fail
   go_ret
   have hO:=HOwn.out
   rw [List.take_of_length_le (by omega)] at hO
   exact ⟨_,rfl,own_base hO (zT HE1.out.size HX3.out.size),HE1.out.trans (HX3.out.trans y.ext)⟩
  obtain ⟨g,off,rfl,hgl,hcell⟩:=HV.out (by omega)
  have hgl:=hgl (by omega)
  obtain ⟨z,hz⟩ : ∃ z,C[n]?=some z:=⟨_,zG hlt⟩
  obtain ⟨q0,q1,q2,q3,q4,q5,q6,q7,q8⟩:=mv_cells hcell hz
  have HZ:=zd hz
  clear hz hcell
  have hlt':(n:Int)<(C.length:Int):=by omega
  have hfl:((C.take n).filter fun m=>!delB r m).length≤20000:=zT (List.length_filter_le _ _) (by rw [List.length_take];omega)
  have hW1:w3.heap.size≤y.val.heap.size:=y.ext.size
  have key : ∀ p:Bool,delB r z=p→Hid (((C.take (n+1)).filter fun m=>!delB r m)=if p=true then (C.take n).filter fun m=>!delB r m else ((C.take n).filter fun m=>!delB r m)++[z]):=fun p hp=>zd (by
   rw [filter_take HZ.out,hp]
   cases p<;>simp)
  have hdel:delB r z=((z.k == 5 && !r.b) || (z.lost && !r.l)):=rfl
  rcases h5:(z.k != 5)
  ·have h5':(z.k == 5)=true:=by simpa using h5
   rcases hb:r.b
   ·rw [hb] at p1
    have HK:=key true (by rw [hdel,h5',hb];rfl)
    clear key hdel
    go_wp2_with fail
    go_roundg (gk - 1)
    case rel=>
     refine ⟨n+1,⟨_,y.ext⟩,rfl,by omega,rfl,zd ?_⟩
     rw [HK.out]
     exact HOwn.out
    case measure=>omega
   ·rw [hb] at p1
    rcases hl:z.lost
    ·rw [hl] at q8
     have HK:=key false (by rw [hdel,h5',hl];simp [hb])
     clear key hdel
     go_wp2_with (at_builtin;refine wpList_app6 w3.heap.size 48 52 i0 _ 9 88 zu48 hi hz0 hz1 hz2 rfl (by decide) rfl _ _ rfl _ _ _ rfl (Own9.ext HOwn.out ((Ext.refl y.val).alloc _)) (zT y.ext.size ((Ext.refl y.val).alloc _).size) y.val.heap.size 1 1 _ (by omega) rfl (heap_new rfl) rfl (by simp [Value.oneCell']) (by unfold maxLen;omega) (by omega) ?_;intro v2 w5 hv2 hb2 _ _)
     go_roundg (gk - 1)
     case rel=>
      refine ⟨n+1,⟨w5,(y.ext.alloc _).trans' hb2⟩,rfl,by omega,rfl,zd ?_⟩
      rw [HK.out]
      exact own9_one hv2 rfl (by simp [Mv.cs,hl])
     case measure=>omega
    ·rw [hl] at q8
     rcases hr:r.l
     ·rw [hr] at p2
      have HK:=key true (by rw [hdel,hl,hr];cases (z.k == 5 && !r.b)<;>rfl)
      clear key hdel
      go_wp2_with fail
      go_roundg (gk - 1)
      case rel=>
       refine ⟨n+1,⟨_,y.ext⟩,rfl,by omega,rfl,zd ?_⟩
       rw [HK.out]
       exact HOwn.out
      case measure=>omega
     ·rw [hr] at p2
      have HK:=key false (by rw [hdel,h5',hr];simp [hb])
      clear key hdel
      go_wp2_with (at_builtin;refine wpList_app6 w3.heap.size 48 52 i0 _ 9 88 zu48 hi hz0 hz1 hz2 rfl (by decide) rfl _ _ rfl _ _ _ rfl (Own9.ext HOwn.out ((Ext.refl y.val).alloc _)) (zT y.ext.size ((Ext.refl y.val).alloc _).size) y.val.heap.size 1 1 _ (by omega) rfl (heap_new rfl) rfl (by simp [Value.oneCell']) (by unfold maxLen;omega) (by omega) ?_;intro v2 w5 hv2 hb2 _ _)
      go_roundg (gk - 1)
      case rel=>
       refine ⟨n+1,⟨w5,(y.ext.alloc _).trans' hb2⟩,rfl,by omega,rfl,zd ?_⟩
       rw [HK.out]
       exact own9_one hv2 rfl (by simp [Mv.cs,hl])
      case measure=>omega
  ·have h5':(z.k == 5)=false:=by simpa using h5
   rcases hl:z.lost
   ·rw [hl] at q8
    have HK:=key false (by rw [hdel,h5',hl];simp)
    clear key hdel
    go_wp2_with (at_builtin;refine wpList_app6 w3.heap.size 48 52 i0 _ 9 88 zu48 hi hz0 hz1 hz2 rfl (by decide) rfl _ _ rfl _ _ _ rfl (Own9.ext HOwn.out ((Ext.refl y.val).alloc _)) (zT y.ext.size ((Ext.refl y.val).alloc _).size) y.val.heap.size 1 1 _ (by omega) rfl (heap_new rfl) rfl (by simp [Value.oneCell']) (by unfold maxLen;omega) (by omega) ?_;intro v2 w5 hv2 hb2 _ _)
    go_roundg (gk - 1)
    case rel=>
     refine ⟨n+1,⟨w5,(y.ext.alloc _).trans' hb2⟩,rfl,by omega,rfl,zd ?_⟩
     rw [HK.out]
     exact own9_one hv2 rfl (by simp [Mv.cs,hl])
    case measure=>omega
   ·rw [hl] at q8
    rcases hr:r.l
    ·rw [hr] at p2
     have HK:=key true (by rw [hdel,hl,hr];cases (z.k == 5 && !r.b)<;>rfl)
     clear key hdel
     go_wp2_with fail
     go_roundg (gk - 1)
     case rel=>
      refine ⟨n+1,⟨_,y.ext⟩,rfl,by omega,rfl,zd ?_⟩
      rw [HK.out]
      exact HOwn.out
     case measure=>omega
    ·rw [hr] at p2
     have HK:=key false (by rw [hdel,h5',hr];simp)
     clear key hdel
     go_wp2_with (at_builtin;refine wpList_app6 w3.heap.size 48 52 i0 _ 9 88 zu48 hi hz0 hz1 hz2 rfl (by decide) rfl _ _ rfl _ _ _ rfl (Own9.ext HOwn.out ((Ext.refl y.val).alloc _)) (zT y.ext.size ((Ext.refl y.val).alloc _).size) y.val.heap.size 1 1 _ (by omega) rfl (heap_new rfl) rfl (by simp [Value.oneCell']) (by unfold maxLen;omega) (by omega) ?_;intro v2 w5 hv2 hb2 _ _)
     go_roundg (gk - 1)
     case rel=>
      refine ⟨n+1,⟨w5,(y.ext.alloc _).trans' hb2⟩,rfl,by omega,rfl,zd ?_⟩
      rw [HK.out]
      exact own9_one hv2 rfl (by simp [Mv.cs,hl])
     case measure=>omega
end Go.Proofs.YtlnmhocehgmbbaaGreatDoor
namespace Go.Proofs.YtlnmhocehgmbbaaGreatDoor
def PreG (L:List Fd):Prop:=∀ (i:Nat) (d:Fd),L[i]?=some d→d.p = -1∨(0≤d.p∧d.p<(i:Int))
theorem pre_one (x:Ex) (m:Mv):PreG [⟨x,-1,m⟩]:=fun i d h=>by
 cases i with
 | zero=>cases h;exact .inl rfl
 | succ i=>simp at h
theorem pre_app {L:List Fd} {x:Ex} {k:Nat} {m:Mv} (h:PreG L) (hk:k<L.length):PreG (L++[⟨x,(k:Int),m⟩]):=fun i d hi=>by
 by_cases hl:i<L.length
 ·rw [List.getElem?_append_left hl] at hi
  exact h i d hi
 ·have h2:=zM hi
  rw [List.length_append] at h2
  simp only [List.length_cons,List.length_nil] at h2
  have he:i=L.length:=by omega
  subst he
  rw [List.getElem?_append_right zN,Nat.sub_self] at hi
  cases hi
  exact .inr ⟨by simp,by simpa using hk⟩
theorem in_pre (most:Nat) (stop:Ex→Bool) (x:Ex) (k:Nat) : ∀ (ms:List Mv) (L:List Fd),PreG L→k<L.length→PreG (inG most stop x k ms L).1∧k<(inG most stop x k ms L).1.length
 | [],L,h,hk=>⟨h,hk⟩
 | m::ms,L,h,hk=>by
  have hk':k<(L++[(⟨(stepX x m).1,(k:Int),m⟩:Fd)]).length:=by rw [List.length_append];omega
  unfold inG
  split
  ·exact in_pre most stop x k ms L h hk
  split
  ·exact in_pre most stop x k ms L h hk
  split
  ·exact ⟨h,hk⟩
  split
  ·exact ⟨pre_app h hk,hk'⟩
  ·exact in_pre most stop x k ms _ (pre_app h hk) hk'
theorem out_pre (most:Nat) (stop:Ex→Bool) (mv:Ex→List Mv) : ∀ (f k:Nat) (L:List Fd),PreG L→PreG (outG most stop mv f k L).1
 | 0,_,L,h=>h
 | f+1,k,L,h=>by
  unfold outG
  split
  ·exact h
  ·rename_i d hd
   have h2:=in_pre most stop d.x k (mv d.x) L h (zM hd)
   split
   ·rename_i he
    rw [he] at h2
    exact h2.1
   ·rename_i he
    rw [he] at h2
    exact out_pre most stop mv f (k+1) _ h2.1
theorem go_pre (most:Nat) (stop:Ex→Bool) (mv:Ex→List Mv) (x:Ex):PreG (goG most stop mv x).1:=by
 unfold goG
 split
 ·exact pre_one x m0
 ·exact out_pre most stop mv _ _ _ (pre_one x m0)
theorem in_at (most:Nat) (stop:Ex→Bool) (x:Ex) (k:Nat) : ∀ (ms:List Mv) (L:List Fd),L.length≤most→(inG most stop x k ms L).1.length≤most∧
 ∀ r,(inG most stop x k ms L).2=some r→r=(-1,false)∨(r.2=true∧0≤r.1∧r.1<((inG most stop x k ms L).1.length:Int))
 | [],L,h=>⟨h,fun r hr=>by simp [inG] at hr⟩
 | m::ms,L,h=>by
  unfold inG
  split
  ·exact in_at most stop x k ms L h
  split
  ·exact in_at most stop x k ms L h
  split
  ·exact ⟨h,fun r hr=>by simp only [Option.some.injEq] at hr;exact .inl hr.symm⟩
  rename_i hne
  split
  ·refine ⟨by simp;omega,fun r hr=>?_⟩
   simp only [Option.some.injEq] at hr
   subst hr
   exact .inr ⟨rfl,by simp,by simp;omega⟩
  ·exact in_at most stop x k ms _ (by simp;omega)
theorem out_at (most:Nat) (stop:Ex→Bool) (mv:Ex→List Mv) : ∀ (f k:Nat) (L:List Fd),L.length≤most→(outG most stop mv f k L).1.length≤most∧
 ((outG most stop mv f k L).2.1 = -1∨((outG most stop mv f k L).2.2=true∧0≤(outG most stop mv f k L).2.1∧(outG most stop mv f k L).2.1<((outG most stop mv f k L).1.length:Int)))
 | 0,_,L,h=>⟨h,.inl rfl⟩
 | f+1,k,L,h=>by
  unfold outG
  split
  ·exact ⟨h,.inl rfl⟩
  ·rename_i d hd
   have h2:=in_at most stop d.x k (mv d.x) L h
   split
   ·rename_i r he
    rw [he] at h2
    refine ⟨h2.1,?_⟩
    rcases h2.2 r rfl with e|e
    ·subst e;exact .inl rfl
    ·exact .inr e
   ·rename_i he
    rw [he] at h2
    exact out_at most stop mv f (k+1) _ h2.1
theorem go_at {most:Nat} (hm:1≤most) (stop:Ex→Bool) (mv:Ex→List Mv) (x:Ex):(goG most stop mv x).1.length≤most∧
 ((goG most stop mv x).2.1 = -1∨((goG most stop mv x).2.2=true∧0≤(goG most stop mv x).2.1∧(goG most stop mv x).2.1<((goG most stop mv x).1.length:Int))):=by
 unfold goG
 split
 ·exact ⟨hm,.inr ⟨rfl,Int.le_refl 0,by show (0:Int)<1;decide⟩⟩
 ·exact out_at most stop mv _ _ _ hm
def wayN (L:List Fd):Nat→Nat→List Mv
 | 0,_=>[]
 | f+1,i=>match L[i]? with|none=>[]|some d=>if 0≤d.p then wayN L f d.p.toNat++[d.m] else []
theorem wayN_len (L:List Fd) : ∀ (f i:Nat),(wayN L f i).length≤f
 | 0,_=>Nat.le_refl _
 | f+1,i=>by
  unfold wayN
  split
  ·simp
  ·rename_i d hd
   split
   ·have:=wayN_len L f d.p.toNat
    simp
    omega
   ·simp
theorem way_yes {L:List Fd} {f i:Nat} {d:Fd} (h:L[i]?=some d) (hp:0≤d.p):wayN L (f+1) i=wayN L f d.p.toNat++[d.m]:=by
 conv=>lhs;unfold wayN
 rw [h]
 simp only
 rw [if_pos hp]
theorem way_no {L:List Fd} {f i:Nat} {d:Fd} (h:L[i]?=some d) (hp : ¬0≤d.p):wayN L (f+1) i=[]:=by
 conv=>lhs;unfold wayN
 rw [h]
 simp only
 rw [if_neg hp]
def wayS (R:List Fd×Int×Bool):List Mv×Int:=if R.2.1<0 then ([],if R.2.2=true then 1 else 2) else (wayN R.1 R.1.length R.2.1.toNat,0)
def replS (x:Ex):List Mv→Ex×Nat
 | []=>(x,0)
 | m::ms=>if (stepX x m).2=true then ((replS (stepX x m).1 ms).1,(replS (stepX x m).1 ms).2+1) else (x,0)
def runX (x:Ex):List Mv→Ex×Nat
 | []=>(x,0)
 | m::ms=>if (stepX x m).2=true then ((runX (stepX x m).1 ms).1,(runX (stepX x m).1 ms).2+1) else runX x ms
end Go.Proofs.YtlnmhocehgmbbaaGreatDoor
namespace Go.Proofs.YtlnmhocehgmbbaaGreatDoor
open Go.RowKit
attribute [local go_sem] ExtOf.cell ExtOf.frozen ExtOf.lt ExtOf.le
attribute [local go_sem high] ExtOf.cell2 ExtOf.frozen2 ExtOf.lt2 ExtOf.cell3 ExtOf.frozen3 ExtOf.lt3
def backF (gl gb go:Nat):Value:=.func (.func 41) #[] #[.pointer (some ⟨gl,0,none⟩),.pointer (some ⟨gb,0,none⟩),.pointer (some ⟨go,0,none⟩)]
structure BackAt (wS:World) (gl gb go:Nat) (M:List Mv) (ov:Value) (w:World):Prop where
 ext:Ext wS w
 low:wS.heap.size≤gb∧wS.heap.size≤go
 fc:w.heap[gb]?=some (.cells #[backF gl gb go] 97 (0,0))
 oc:w.heap[go]?=some (.cells #[ov] 48 (0,0))
 ro:Own9 w wS.heap.size M ov
section
variable {wS:World} {gl gb go:Nat} {M:List Mv} {ov:Value} {w w':World}
theorem BackAt.ext' (h:BackAt wS gl gb go M ov w) (e:Ext w w'):BackAt wS gl gb go M ov w' where
 ext:=h.ext.trans e
 low:=h.low
 fc:=heap_ext h.fc e
 oc:=heap_ext h.oc e
 ro:=h.ro.ext e
theorem BackAt.add (h:BackAt wS gl gb go M ov w) {m:Mv} {ov':Value} {w3:World} (o3:Own9 w3 wS.heap.size (M++[m]) ov') (g3:w.grownBy w3 ov.ownBlock) (nw : ∀ g∈rowB ov',g∈rowB ov∨w.heap.size≤g) :
 BackAt wS gl gb go (M++[m]) ov' (w3.setCell ⟨go,0,none⟩ ov'):=by
 have hgo:go∉rowB ov:=tag_ne h.ro h.oc (by decide)
 have lgo:=zL h.oc
 have same : ∀ b,b<w.heap.size→b≠go→b∉rowB ov→(w3.setCell ⟨go,0,none⟩ ov').heap[b]?=w.heap[b]?:=fun b hb h1 h2=>by
  rw [cell_other h1,g3.block b hb (fun he=>h2 (by unfold rowB;rw [←he];exact .head _))]
 have hgo3:go∉rowB ov':=fun hm=>by
  rcases nw go hm with h1|h1
  ·exact hgo h1
  ·omega
 have hgb:gb≠go:=fun e=>by
  have:=h.fc
  rw [e,h.oc] at this
  simp only [Option.some.injEq,Obj.cells.injEq] at this
  exact absurd this.2.1 (by decide)
 refine ⟨?_,h.low,?_,?_,own_at o3 fun b hb=>cell_other fun e=>hgo3 (e ▸ hb)⟩
 ·have hs:=h.ext.size
  refine ⟨g3.os.trans h.ext.os,g3.tape.trans h.ext.tape,g3.output.trans h.ext.output,?_,fun b hb=>?_⟩
  ·have:=g3.size
   simp only [World.setCell,Array.size_modify]
   omega
  ·rw [same b (by omega) (by have:=h.low.2;omega) fun hm=>by have:=(own_rowB9 h.ro b hm).1;omega]
   exact h.ext.block b hb
 ·rw [same gb (zL h.fc) hgb (tag_ne h.ro h.fc (by decide))]
  exact h.fc
 ·have h1:=kept_grown h.oc g3 hgo
  have:=heap_setCell_same _ _ 0 _ _ ov' h1
  exact this
end
theorem BackAt.re {wS:World} {gl gb go:Nat} {M M':List Mv} {ov:Value} {w:World} (h:BackAt wS gl gb go M ov w) (e:M'=M):BackAt wS gl gb go M' ov w:=by subst e;exact h
theorem grown_ext {w w' w2:World} {b:Option Nat} (h:w.grownBy w' b) (e:Ext w' w2):w.grownBy w2 b:=
 ⟨e.os.trans h.os,e.tape.trans h.tape,e.output.trans h.output,zT h.size e.size,fun k hk hx=>(e.block k (zU hk h.size)).trans (h.block k hk hx)⟩
theorem fv_mv (p:Fd×Value) : ∀ (j:Nat) (v:Value),p.1.m.arr.toList[j]?=some v→(fvC p)[27+j]?=some v:=fun j v h=>by
 unfold fvC
 rw [List.getElem?_append_right (by show 26≤27+j;omega)]
 show (Value.int .i64 p.1.p::p.1.m.cs)[27+j - 26]?=some v
 rw [show 27+j - 26=j+1 by omega,List.getElem?_cons_succ]
 exact h
def BackP (wS:World) (gl gb go:Nat) (M:List Mv) (e:Ending) (w':World):Prop:=e = .returned (.tuple #[])∧∃ ov',BackAt wS gl gb go M ov' w'
theorem ex_back (wS:World) (B gl gb go:Nat) (L:List (Fd×Value)) (lv:Value) (hlc:wS.heap[gl]?=some (.cells #[lv] 83 (0,0))) (hlr:FRow wS B L lv) (hpre:PreG (L.map (·.1))) (hLn:L.length≤1000) :
 ∀ (f i:Nat),i<f→i<L.length→f≤1000→∀ (M:List Mv) (ov:Value) (w:World),M.length≤1000→BackAt wS gl gb go M ov w→
  Calls Tryz.prog 41 #[.int .i64 (i:Int),.pointer (some ⟨gl,0,none⟩),.pointer (some ⟨gb,0,none⟩),.pointer (some ⟨go,0,none⟩)] w (BackP wS gl gb go (M++wayN (L.map (·.1)) f i)):=by
 intro f
 induction f with
 | zero=>exact fun i hi=>absurd hi (Nat.not_lt_zero i)
 | succ f IH0=>
  intro i hi hiL hf M ov w hM hB
  have IH:=zd IH0
  clear IH0
  obtain ⟨p,hp⟩ : ∃ p,L[i]?=some p:=⟨_,zG hiL⟩
  have hpL:(L.map (·.1))[i]?=some p.1:=by rw [List.getElem?_map,hp];rfl
  obtain ⟨g0,cap,hlv,hgl,hmx,hrg⟩:=frow_f hlr hp
  subst hlv
  unfold maxLen at hmx
  have HGL:=zd hgl
  have hgl:=zU hgl hB.ext.size
  have hl:=heap_ext hlc hB.ext
  have ql:=zQ hl 0
  have ll:gl<w.heap.size:=zL hl
  have qp:w.cell? ⟨g0,i*36+26,none⟩=some (.int .i64 p.1.p):=cell_keep (hrg 26 _ rfl) hB.ext
  have HB:=zd hB
  have HRG:=zd hrg
  have HL0:=zd hlc
  have HPL:=zd hpL
  have HPRE:=zd (hpre i p.1 hpL)
  clear hrg hB hlc hlr hpre hp hl hpL
  have i1:(i:Int)<(L.length:Int):=by omega
  by_cases hpp:0≤p.1.p
  case neg=>
   have HW:=way_no (f:=f) HPL.out hpp
   rw [HW,List.append_nil]
   go_enter Tryz.func41,Tryz.ntmps41
   go_wp2_with fail
   exact ⟨rfl,.tuple #[],by simp [results,go_sem],rfl,ov,HB.out⟩
  have HW:=way_yes (f:=f) HPL.out hpp
  rw [HW,←List.append_assoc]
  clear HW
  go_enter Tryz.func41,Tryz.ntmps41
  have hlt:=HPRE.out.resolve_left (by omega)
  obtain ⟨n,hn⟩ : ∃ n:Nat,p.1.p=(n:Int):=⟨p.1.p.toNat,by omega⟩
  have hnt:p.1.p.toNat=n:=by omega
  have hni:n<i:=by omega
  rw [hnt]
  have IHn:=zd (fun w' (h:BackAt wS gl gb go M ov w')=>IH.out n (by omega) (by omega) (by omega) M ov w' hM h)
  rw [hn] at qp hpp
  have HPN:=zd hn
  have qf:w.cell? ⟨gb,0,none⟩=some (.func (.func 41) #[] #[.pointer (some ⟨gl,0,none⟩),.pointer (some ⟨gb,0,none⟩),.pointer (some ⟨go,0,none⟩)]):=zQ HB.out.fc 0
  have lf:gb<w.heap.size:=zL HB.out.fc
  clear IH HPRE hlt hn hnt
  go_upto_region 1 with fail
  refine wp_region_mixD (af:=?af1) [true,true,true,true,true,true,false] 26 (Ext w) (by kernel_rfl) rfl (by kernel_rfl) (fun _ _ h e=>Ext.trans h e) zR.drew ?q1 ?r1
  case q1=>
   intro w' hw'
   obtain ⟨y,rfl⟩:=ext_of hw'
   simp only [pickT,if_true,if_false,Bool.false_eq_true]
   repeat (go_big_quiet_step (fail))
   exact rfl
  case r1=>
   simp only [pickF,if_true,if_false,Bool.false_eq_true]
   intro x1
   go_wp2_with fail
   refine (IHn.out _ (HB.out.ext' ((Ext.refl w).drew.val x1))).mono ?_
   rintro e w2 ⟨rfl,ov2,hb2⟩
   have HB2:=zd hb2
   clear hb2 ql ll qp qf lf hgl
   go_wp2_with fail
   refine ⟨fun h=>absurd rfl h,?_⟩
   intro x2
   have HB3:=zd (HB2.out.ext' x2.ext)
   have hlen:(M++wayN (L.map (·.1)) f n).length≤2000:=by
    have:=wayN_len (L.map (·.1)) f n
    simp
    omega
   obtain ⟨M2,hM2⟩ : ∃ M2,M++wayN (L.map (·.1)) f n=M2:=⟨_,rfl⟩
   rw [hM2] at HB3 hlen
   have HM2:=zd hM2
   clear hM2
   clear HB2
   generalize x2.val=W4 at HB3 ⊢
   clear x2 x1
   have HRG4:Hid (W4.rangeAt g0 (i*36+27) p.1.m.arr.toList):=zd fun j v hj=>by
    rw [show i*36+27+j=i*36+(27+j) by omega]
    exact cell_keep (HRG.out _ v (fv_mv p j v hj)) HB3.out.ext
   have HL4:=zd (heap_ext HL0.out HB3.out.ext)
   have hgl4:g0<W4.heap.size:=zU HGL.out HB3.out.ext.size
   have HC : ∀ w',Ext W4 w'→(w'.heap[gl]?=some (.cells #[.slice (some ⟨g0,0,none⟩) L.length cap] 83 (0,0))∧w'.heap[go]?=some (.cells #[ov2] 48 (0,0))∧w'.rangeAt g0 (i*36+27) p.1.m.arr.toList∧g0<w'.heap.size):=fun w' e=>⟨heap_ext HL4.out e,heap_ext HB3.out.oc e,fun j v hj=>cell_keep (HRG4.out j v hj) e,zU hgl4 e.size⟩
   have HC4:=zd HC
   obtain ⟨i0,hi0,hz0,hz1,hz2⟩:=info_parts info_move
   clear HC HRG4 HL4
   go_upto_region 2 with fail
   refine wp_region_mixD (af:=?af2) [true,true,true,true,true,true,false,false,false] 26 (fun w'=>w'.heap[gl]?=some (.cells #[.slice (some ⟨g0,0,none⟩) L.length cap] 83 (0,0))∧w'.heap[go]?=some (.cells #[ov2] 48 (0,0))∧w'.rangeAt g0 (i*36+27) p.1.m.arr.toList∧g0<w'.heap.size) (by kernel_rfl) rfl (by kernel_rfl) (fun _ _ h e=>⟨heap_ext h.1 e,heap_ext h.2.1 e,fun j v hj=>cell_keep (h.2.2.1 j v hj) e,zU h.2.2.2 e.size⟩) (HC4.out _ zR.drew) ?q2 ?r2
   case q2=>
    rintro w' ⟨h1,h2,h3,h4⟩
    have HR3:=zd h3
    have q1:=zQ h1 0
    have l1:gl<w'.heap.size:=zL h1
    have q2:=zQ h2 0
    have l2:go<w'.heap.size:=zL h2
    clear h1 h2 h3
    simp only [pickT,if_true,if_false,Bool.false_eq_true]
    go_big_quiet_step (fail)
    go_big_quiet_step (fail)
    go_big_quiet_step (fail)
    go_big_quiet_step (fail)
    go_big_quiet_step (fail)
    (go_big_quiet_want;refine quiet_load_midA 52 _ rfl g0 (i*36+27) rfl #[.int .i64 p.1.m.k,.int .i64 p.1.m.who,.string p.1.m.t,.int .i64 p.1.m.l.k,.int .i64 p.1.m.l.f,.int .u64 p.1.m.l.c,.string p.1.m.l.t,.bool p.1.m.l.b,.bool p.1.m.lost] (.struct _) HR3.out zu52 rfl (info_mv9 p.1.m) ?_;go_big_quiet_on;simp only [Act.put,List.setIfInBounds_toArray,List.set_cons_succ,List.set_cons_zero])
    refine wpQuiet_nil ?_
    exact rfl
   case r2=>
    simp only [pickF,if_true,if_false,Bool.false_eq_true]
    intro x1
    go_wp2_with fail
    refine ⟨fun _=>HC4.out _ (((Ext.refl W4).drew.val x1).alloc _),?_⟩
    intro x2
    have D2:=HB3.out.ext' ((((Ext.refl W4).drew.val x1).alloc (.cells p.1.m.arr 52)).val x2)
    have hx2:=D2.ext.size
    go_wp2_with (at_builtin;refine wpList_app6 wS.heap.size 48 52 i0 _ 9 88 zu48 hi0 hz0 hz1 hz2 rfl (by decide) rfl _ _ rfl ov2 M2.length _ rfl D2.ro hx2 x1.val.heap.size 1 1 _ (by omega) rfl (heap_ext (heap_new rfl) x2.ext) rfl (by simp [Value.oneCell']) (by unfold maxLen;omega) (by omega) ?_;intro ov3 w5 o5 b5 g5 nw5)
    have E5:Ext wS w5:=D2.ext.trans' b5
    have ho5:=kept_grown D2.oc g5 (tag_ne D2.ro D2.oc (by decide))
    refine ⟨⟨heap_ext HL0.out E5,ho5,fun j v hj=>?_,zU HGL.out E5.size⟩,?_⟩
    ·rw [show i*36+27+j=i*36+(27+j) by omega]
     exact cell_keep (HRG.out _ v (fv_mv p j v hj)) E5
    intro x3
    have ho3:=heap_ext ho5 x3.ext
    have qo:=zQ ho3 0
    have fo:=zF ho3 0
    have lo:go<x3.val.heap.size:=zL ho3
    have D3:=D2.add (m:=p.1.m) (own9_one (own_ext o5 x3.ext) rfl rfl) (grown_ext g5 x3.ext) nw5
    obtain ⟨la,lcc,hla⟩:=own_sl o5
    subst hla
    clear ho3 ho5 E5 o5 b5 g5 nw5
    go_wp2_with fail
    refine ⟨fun h=>absurd rfl h,?_⟩
    intro x4
    have D4:=D3.ext' x4.ext
    exact ⟨rfl,.tuple #[],by simp [results,go_sem],rfl,_,D4.re (by rw [HM2.out])⟩
end Go.Proofs.YtlnmhocehgmbbaaGreatDoor
namespace Go.Proofs.YtlnmhocehgmbbaaGreatDoor
open Go.RowKit
attribute [local go_sem ↓] eql_lEq eql_sEq eql_eEq eql_oEq neq_lEq neq_sEq neq_eEq neq_oEq eql_vEq neq_vEq eql_nil
attribute [local go_sem] ExtOf.cell ExtOf.frozen ExtOf.lt ExtOf.le
attribute [local go_sem high] ExtOf.cell2 ExtOf.frozen2 ExtOf.lt2 ExtOf.cell3 ExtOf.frozen3 ExtOf.lt3
def AskC (stop:Ex→Bool) (gw:Nat) (w:World):Prop:=
 ∀ (x:Ex) (v:Value) (w':World),Ext w w'→Hrd w' x v→x.h.length≤300→Calls Tryz.prog 40 #[.agg (x.arr v),.pointer (some ⟨gw,0,none⟩)] w' fun e w''=>e = .returned (.bool (stop x))∧Ext w' w''
theorem AskC.ext {stop:Ex→Bool} {gw:Nat} {w w':World} (h:AskC stop gw w) (e:Ext w w'):AskC stop gw w':=fun x v w2 h2=>h x v w2 (e.trans h2)
theorem go_stop (stop:Ex→Bool) (gw:Nat) (x:Ex) (v:Value) (B0:Nat) (r:Rg) (tv:Value) (w:World) (hst:AskC stop gw w) (hO:Own w B0 x.h v) (hn:x.h.length≤100) (hT:Row w 1 tv r.t.length (r.t.map Value.string)) (hTn:r.t.length≤1000) (hm:r.m≤100) (hx:RngX x) (htab:TabW w) :
 Calls Tryz.prog 28 #[.agg (x.arr v),.agg (r.arr tv),.func (.func 40) #[] #[.pointer (some ⟨gw,0,none⟩)]] w (GoP w (goG (mostR r) stop (movesR evsS · r) x)):=by
 exact go_gen stop _ #[.pointer (some ⟨gw,0,none⟩)] x v B0 r tv w ⟨fun _ _=>by simp [go_sem],fun y u w' h1 h2 h3=>hst y u w' h1 h2 h3⟩ hO hn hT hTn hm hx htab
end Go.Proofs.YtlnmhocehgmbbaaGreatDoor

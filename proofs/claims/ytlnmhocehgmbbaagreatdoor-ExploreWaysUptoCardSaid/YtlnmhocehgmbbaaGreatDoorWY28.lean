/- No condition. -/
import Derived.Test.YtlnmhocehgmbbaaGreatDoorWY27
set_option linter.all false
set_option maxRecDepth 100000
set_option maxHeartbeats 6400000
namespace Go.Proofs.YtlnmhocehgmbbaaGreatDoor
open Go.RowKit
attribute [local go_sem ↓] eql_lEq eql_sEq eql_eEq eql_oEq neq_lEq neq_sEq neq_eEq neq_oEq
attribute [local go_sem] ExtOf.cell ExtOf.frozen ExtOf.lt ExtOf.le
attribute [local go_sem high] ExtOf.cell2 ExtOf.frozen2 ExtOf.lt2 ExtOf.cell3 ExtOf.frozen3 ExtOf.lt3
theorem rx_heard (x:Ex) (v:Value) (l:Lt) (w:World) (hR:Hrd w x v) :
 Calls Tryz.prog 35 #[.agg (x.arr v),.agg #[.int .i64 l.k,.int .i64 l.f,.int .u64 l.c,.string l.t,.bool l.b]] w fun e w'=>e = .returned (.bool (decide (l∈x.h)))∧Ext w w':=by
 obtain ⟨a,cap,rfl,hm,hvw⟩:=row_view hR
 have HV:=zd hvw
 clear hvw hR
 unfold maxLen at hm
 generalize hL:x.h=L at HV hm ⊢
 go_enter Tryz.func35,Tryz.ntmps35
 go_upto_region 1 with fail
 refine wp_forget (fun w'=>∃ g g2,Hid (g=w.heap.size∧g2=w.heap.size+1)∧Hid (w'.heap[g]?=some (.cells (x.arr (.slice a L.length cap)) 33 (0,0)))∧Hid (LtAt w' g2 l)∧Hid (Ext w w')) ⟨_,_,zd ⟨rfl,rfl⟩,zd (two_new zR).1,zd (two_new zR).2.1,zd (two_new zR).2.2⟩ ?_
 rintro W1 ⟨g,g2,hg,H1,H2,HE1⟩
 rw [←hg.out.2,←hg.out.1]
 clear hg
 have q25:W1.cell? ⟨g,25,none⟩=some (.slice a L.length cap):=zQ H1.out 25
 have c1:=zQ H2.out
 have l1:g<W1.heap.size:=zL H1.out
 have l2:g2<W1.heap.size:=zL H2.out
 clear hL H1 H2
 generalize x.arr (.slice a L.length cap)=xa
 go_wp2_with fail
 go_loopg [5] L.length (fun g ii wr=>∃ (n:Nat) (y:ExtOf W1),ii = .int .i64 (n:Int)∧n+g=L.length∧wr=y.val∧Hid (∀ (j:Nat) z,j<n→L[j]?=some z→z≠l))
 case atStart=>exact ⟨0,⟨W1,zR⟩,rfl,by omega,rfl,zd fun _ _ h=>by omega⟩
 case round=>
  obtain ⟨n,y,rfl,hg,rfl,HN⟩:=hrel
  by_cases hlt:n<L.length
  ·obtain ⟨g0,off,rfl,hgl,hcell⟩:=HV.out (by omega)
   have hgl:=hgl (by omega)
   obtain ⟨z,hz⟩ : ∃ z,L[n]?=some z:=⟨_,zG hlt⟩
   obtain ⟨q0,q1,q2,q3,q4⟩:=lt_cellsO (fun j u hj=>cell_keep (hcell j u hj) HE1.out) hz
   have HX:=zd hz
   have hgl1:g0<W1.heap.size:=zU hgl HE1.out.size
   clear hz hcell hgl
   have hlt':(n:Int)<(L.length:Int):=by omega
   by_cases he:z=l
   ·have he':lEq z.k z.f z.c z.t z.b l.k l.f l.c l.t l.b=true:=by rw [lEq_lt];simpa using he
    have HE:=zd he
    clear he
    go_wp2_with fail
    refine wp_region_ext (by kernel_rfl) (by kernel_rfl) ?_
    repeat (go_big_quiet_step (fail))
    refine wpQuiet_nil ?_
    intro _ hx'
    obtain ⟨u,rfl⟩:=hx'
    go_wp2_with fail
    go_ret
    refine ⟨?_,HE1.out.trans (y.ext.val u)⟩
    rw [decide_eq_true (HE.out ▸ mem_of_get HX.out)]
    rfl
   ·have he':lEq z.k z.f z.c z.t z.b l.k l.f l.c l.t l.b=false:=by rw [lEq_lt];simpa using he
    have HE:=zd he
    clear he
    go_wp2_with fail
    refine wp_region_ext (by kernel_rfl) (by kernel_rfl) ?_
    repeat (go_big_quiet_step (fail))
    refine wpQuiet_nil ?_
    intro _ hx'
    obtain ⟨u,rfl⟩:=hx'
    go_wp2_with fail
    go_roundg (gk - 1)
    case rel=>
     refine ⟨n+1,⟨_,y.ext.val u⟩,rfl,by omega,rfl,zd fun j z' hj hz'=>?_⟩
     by_cases hjn:j=n
     ·subst hjn
      rw [HX.out,Option.some.injEq] at hz'
      rw [←hz']
      exact HE.out
     ·exact HN.out j z' (by omega) hz'
    case measure=>omega
  ·have hge : ¬(n:Int)<(L.length:Int):=by omega
   go_wp2_with fail
   go_ret
   refine ⟨?_,HE1.out.trans y.ext⟩
   rw [decide_eq_false]
   ·rfl
   intro hz
   obtain ⟨j,hj⟩:=List.getElem?_of_mem hz
   have:=zM hj
   exact HN.out j l (by omega) hj rfl
theorem wishS_k (h:List Lt) (l:Lt) (k f c:Int):wishS h ⟨k,f,c,l.t,l.b⟩=wishS h l:=rfl
theorem rx_resolved (x:Ex) (v:Value) (t:ByteArray) (b:Bool) (w:World) (hR:Hrd w x v) :
 Calls Tryz.prog 74 #[.agg (x.arr v),.string t,.bool b] w fun e w'=>e = .returned (.bool (wishS x.h ⟨0,0,0,t,b⟩))∧Ext w w':=by
 obtain ⟨a,cap,rfl,hm,hvw⟩:=row_view hR
 have HV:=zd hvw
 clear hvw hR
 unfold maxLen at hm
 generalize hL:x.h=L at HV hm ⊢
 go_enter Tryz.func74,Tryz.ntmps74
 go_upto_region 1 with fail
 refine wp_forget (fun w'=>∃ g,Hid (g=w.heap.size)∧Hid (w'.heap[g]?=some (.cells (x.arr (.slice a L.length cap)) 33 (0,0)))∧Hid (Ext w w')) ⟨_,zd rfl,zd (one_new zR).1,zd (one_new zR).2⟩ ?_
 rintro W1 ⟨g,hg,H1,HE1⟩
 rw [←hg.out]
 clear hg
 have q25:W1.cell? ⟨g,25,none⟩=some (.slice a L.length cap):=zQ H1.out 25
 have l1:g<W1.heap.size:=zL H1.out
 clear hL H1
 generalize x.arr (.slice a L.length cap)=xa
 go_wp2_with fail
 go_loopg [7] L.length (fun g ii wr=>∃ (n:Nat) (y:ExtOf W1),ii = .int .i64 (n:Int)∧n+g=L.length∧wr=y.val∧Hid (∀ (j:Nat) z,j<n→L[j]?=some z→wish1 z ⟨0,0,0,t,b⟩=false))
 case atStart=>exact ⟨0,⟨W1,zR⟩,rfl,by omega,rfl,zd fun _ _ h=>by omega⟩
 case round=>
  obtain ⟨n,y,rfl,hg,rfl,HN⟩:=hrel
  by_cases hlt:n<L.length
  ·obtain ⟨g0,off,rfl,hgl,hcell⟩:=HV.out (by omega)
   have hgl:=hgl (by omega)
   obtain ⟨z,hz⟩ : ∃ z,L[n]?=some z:=⟨_,zG hlt⟩
   obtain ⟨q0,q1,q2,q3,q4⟩:=lt_cellsO (fun j u hj=>cell_keep (hcell j u hj) HE1.out) hz
   have HX:=zd hz
   have hgl1:g0<W1.heap.size:=zU hgl HE1.out.size
   clear hz hcell hgl
   have hlt':(n:Int)<(L.length:Int):=by omega
   obtain ⟨zk,zf,zc,zt,zb⟩:=z
   simp only at q0 q1 q2 q3 q4
   have key : ∀ p:Bool,wish1 ⟨zk,zf,zc,zt,zb⟩ ⟨0,0,0,t,b⟩=p→Hid (wish1 ⟨zk,zf,zc,zt,zb⟩ ⟨0,0,0,t,b⟩=p):=fun _ h=>zd h
   by_cases h4:zk=4
   case neg=>
    have HK:=key false (by simp [wish1,h4])
    have h4':(zk == 4)=false:=by simpa using h4
    clear h4 key
    go_wp2_with fail
    go_roundg (gk - 1)
    case rel=>
     refine ⟨n+1,⟨_,y.ext.alloc _⟩,rfl,by omega,rfl,zd fun j z' hj hz'=>?_⟩
     by_cases hjn:j=n
     ·subst hjn
      rw [HX.out,Option.some.injEq] at hz'
      rw [←hz']
      exact HK.out
     ·exact HN.out j z' (by omega) hz'
    case measure=>omega
   subst h4
   by_cases h5:zb=b
   case neg=>
    have HK:=key false (by simp [wish1,h5])
    have h5':(zb == b)=false:=by simpa using h5
    clear h5 key
    go_wp2_with fail
    go_roundg (gk - 1)
    case rel=>
     refine ⟨n+1,⟨_,y.ext.alloc _⟩,rfl,by omega,rfl,zd fun j z' hj hz'=>?_⟩
     by_cases hjn:j=n
     ·subst hjn
      rw [HX.out,Option.some.injEq] at hz'
      rw [←hz']
      exact HK.out
     ·exact HN.out j z' (by omega) hz'
    case measure=>omega
   subst h5
   by_cases h6:zt=t
   case neg=>
    have HK:=key false (by simp [wish1,h6])
    have h6':(zt.toList == t.toList)=false:=by rw [beq_eq_false_iff_ne];exact fun h=>h6 ((toList_eq_iff _ _).1 h)
    clear h6 key
    go_wp2_with fail
    go_roundg (gk - 1)
    case rel=>
     refine ⟨n+1,⟨_,y.ext.alloc _⟩,rfl,by omega,rfl,zd fun j z' hj hz'=>?_⟩
     by_cases hjn:j=n
     ·subst hjn
      rw [HX.out,Option.some.injEq] at hz'
      rw [←hz']
      exact HK.out
     ·exact HN.out j z' (by omega) hz'
    case measure=>omega
   have HK:=key true (by simp [wish1,h6])
   clear key
   subst h6
   go_wp2_with fail
   go_ret
   refine ⟨?_,HE1.out.trans (y.ext.alloc _)⟩
   rw [wishS_any,List.any_eq_true.2 ⟨_,mem_of_get HX.out,HK.out⟩]
   rfl
  ·have hge : ¬(n:Int)<(L.length:Int):=by omega
   go_wp2_with fail
   go_ret
   refine ⟨?_,HE1.out.trans y.ext⟩
   rw [wishS_any,List.any_eq_false.2]
   ·rfl
   intro z hz
   obtain ⟨j,hj⟩:=List.getElem?_of_mem hz
   have:=zM hj
   rw [HN.out j z (by omega) hj]
   simp
theorem rx_can0 (x:Ex) (v:Value) (k f r:Int) (c:Int) (t:ByteArray) (b:Bool) (w:World) (HLC:Hid (∀ w,Calls Tryz.prog 73 #[.agg #[.int .i64 k,.int .i64 f,.int .u64 c,.string t,.bool b]] w fun e w'=>e = .returned (.int .i64 r)∧Ext w w')) (hr:(r != 0)=true) :
 Calls Tryz.prog 46 #[.agg (x.arr v),.agg #[.int .i64 k,.int .i64 f,.int .u64 c,.string t,.bool b]] w fun e w'=>e = .returned (.bool false)∧Ext w w':=by
 unfold Ex.arr
 go_enter Tryz.func46,Tryz.ntmps46
 go_wp2_with (first|(go_at_call 73;refine (HLC.out _).mono ?_;rintro e W1 ⟨rfl,hx⟩;obtain ⟨h1,h2,h3⟩:=ca_open (x:=x) (v:=v) (l:=⟨_,_,_,_,_⟩) hx;clear hx;have HX:=zd h1;have HLt:=zd h2;have HE:=zd h3;unfold Ex.arr at h1;have q1:=zQ h1;have q2:=zQ h2;have l1:w.heap.size<W1.heap.size:=(zL h1);have l2:w.heap.size+1<W1.heap.size:=(zL h2);clear h1 h2;clear h3;try have hbb:=HB.out))
 go_ret
 exact ⟨rfl,HE.out⟩
theorem rx_canc (x:Ex) (v:Value) (k f:Int) (c:Int) (t:ByteArray) (b:Bool) (w:World) (HLC:Hid (∀ w,Calls Tryz.prog 73 #[.agg #[.int .i64 k,.int .i64 f,.int .u64 c,.string t,.bool b]] w fun e w'=>e = .returned (.int .i64 0)∧Ext w w')) (hc':(c != x.c)=true) :
 Calls Tryz.prog 46 #[.agg (x.arr v),.agg #[.int .i64 k,.int .i64 f,.int .u64 c,.string t,.bool b]] w fun e w'=>e = .returned (.bool false)∧Ext w w':=by
 unfold Ex.arr
 go_enter Tryz.func46,Tryz.ntmps46
 go_wp2_with (first|(go_at_call 73;refine (HLC.out _).mono ?_;rintro e W1 ⟨rfl,hx⟩;obtain ⟨h1,h2,h3⟩:=ca_open (x:=x) (v:=v) (l:=⟨_,_,_,_,_⟩) hx;clear hx;have HX:=zd h1;have HLt:=zd h2;have HE:=zd h3;unfold Ex.arr at h1;have q1:=zQ h1;have q2:=zQ h2;have l1:w.heap.size<W1.heap.size:=(zL h1);have l2:w.heap.size+1<W1.heap.size:=(zL h2);clear h1 h2;clear h3;try have hbb:=HB.out))
 go_ret
 exact ⟨rfl,HE.out⟩
theorem rx_canh (x:Ex) (v:Value) (k f:Int) (c:Int) (t:ByteArray) (b:Bool) (w:World) (HLC:Hid (∀ w,Calls Tryz.prog 73 #[.agg #[.int .i64 k,.int .i64 f,.int .u64 c,.string t,.bool b]] w fun e w'=>e = .returned (.int .i64 0)∧Ext w w')) (hc':(c != x.c)=false) (HCo:Hid (∀ w',Ext w w'→Calls Tryz.prog 35 #[.agg (x.arr v),.agg #[.int .i64 k,.int .i64 f,.int .u64 c,.string t,.bool b]] w' fun e w''=>e = .returned (.bool true)∧Ext w' w'')) :
 Calls Tryz.prog 46 #[.agg (x.arr v),.agg #[.int .i64 k,.int .i64 f,.int .u64 c,.string t,.bool b]] w fun e w'=>e = .returned (.bool true)∧Ext w w':=by
 unfold Ex.arr
 go_enter Tryz.func46,Tryz.ntmps46
 go_wp2_with (first|(go_at_call 73;refine (HLC.out _).mono ?_;rintro e W1 ⟨rfl,hx⟩;obtain ⟨h1,h2,h3⟩:=ca_open (x:=x) (v:=v) (l:=⟨_,_,_,_,_⟩) hx;clear hx;have HX:=zd h1;have HLt:=zd h2;have HE:=zd h3;unfold Ex.arr at h1;have q1:=zQ h1;have q2:=zQ h2;have l1:w.heap.size<W1.heap.size:=(zL h1);have l2:w.heap.size+1<W1.heap.size:=(zL h2);clear h1 h2;clear h3;try have hbb:=HB.out)|(go_at_call 35;refine (HCo.out _ HE.out).mono ?_;rintro e W2 ⟨rfl,hx⟩;clear q1 q2 l1 l2;have h1:=heap_ext HX.out hx;have h2:=HLt.out.ext hx;have HE2:=zd (HE.out.trans hx);have HX2:=zd h1;have HLt2:=zd h2;clear hx;unfold Ex.arr at h1;have q1:=zQ h1;have q2:=zQ h2;have l1:w.heap.size<W2.heap.size:=(zL h1);have l2:w.heap.size+1<W2.heap.size:=(zL h2);clear h1 h2)|(refine wpList_load_rowG rfl 33 _ rfl _ rfl _ _ (0,0) _ HX.out zu33 rfl info_ex ?_))
 go_ret
 exact ⟨rfl,HE2.out⟩
theorem rx_can1 (x:Ex) (v:Value) (f:Int) (hf:f=0∨f=1) (c:Int) (t:ByteArray) (b:Bool) (w:World) (HLC:Hid (∀ w,Calls Tryz.prog 73 #[.agg #[.int .i64 1,.int .i64 f,.int .u64 c,.string t,.bool b]] w fun e w'=>e = .returned (.int .i64 0)∧Ext w w')) (hc':(c != x.c)=false) (HCo:Hid (∀ w',Ext w w'→Calls Tryz.prog 35 #[.agg (x.arr v),.agg #[.int .i64 1,.int .i64 f,.int .u64 c,.string t,.bool b]] w' fun e w''=>e = .returned (.bool false)∧Ext w' w'')) (wi:Bool) (HWi:Hid (∀ w',Ext w w'→Calls Tryz.prog 74 #[.agg (x.arr v),.string t,.bool b] w' fun e w''=>e = .returned (.bool wi)∧Ext w' w'')) :
 Calls Tryz.prog 46 #[.agg (x.arr v),.agg #[.int .i64 1,.int .i64 f,.int .u64 c,.string t,.bool b]] w fun e w'=>e = .returned (.bool (x.bad (if b=true then 1 - f else f) || wi))∧Ext w w':=by
 obtain ⟨p,hp⟩ : ∃ p,x.bad (if b=true then 1 - f else f)=p:=⟨_,rfl⟩
 rw [hp]
 rcases hf with rfl|rfl<;>cases b<;>cases p<;>simp [Ex.bad] at hp
 all_goals
  have HB:=zd hp
  clear hp
  unfold Ex.arr
  go_enter Tryz.func46,Tryz.ntmps46
  go_wp2_with (first|(go_at_call 73;refine (HLC.out _).mono ?_;rintro e W1 ⟨rfl,hx⟩;obtain ⟨h1,h2,h3⟩:=ca_open (x:=x) (v:=v) (l:=⟨_,_,_,_,_⟩) hx;clear hx;have HX:=zd h1;have HLt:=zd h2;have HE:=zd h3;unfold Ex.arr at h1;have q1:=zQ h1;have q2:=zQ h2;have l1:w.heap.size<W1.heap.size:=(zL h1);have l2:w.heap.size+1<W1.heap.size:=(zL h2);clear h1 h2;clear h3;try have hbb:=HB.out)|(go_at_call 35;refine (HCo.out _ HE.out).mono ?_;rintro e W2 ⟨rfl,hx⟩;clear q1 q2 l1 l2;have h1:=heap_ext HX.out hx;have h2:=HLt.out.ext hx;have HE2:=zd (HE.out.trans hx);have HX2:=zd h1;have HLt2:=zd h2;clear hx;unfold Ex.arr at h1;have q1:=zQ h1;have q2:=zQ h2;have l1:w.heap.size<W2.heap.size:=(zL h1);have l2:w.heap.size+1<W2.heap.size:=(zL h2);clear h1 h2)|(go_at_call 74;refine (HWi.out _ HE2.out).mono ?_;rintro e W3 ⟨rfl,hx⟩;obtain ⟨x3,rfl⟩:=ext_of hx;clear hx)|(refine wpList_load_rowG rfl 33 _ rfl _ rfl _ _ (0,0) _ HX2.out zu33 rfl info_ex ?_)|(refine wpList_load_rowG rfl 33 _ rfl _ rfl _ _ (0,0) _ HX.out zu33 rfl info_ex ?_))
  go_ret
  exact ⟨rfl,by first|exact HE2.out.val x3|exact HE2.out⟩
theorem rx_can2 (x:Ex) (v:Value) (f:Int) (hf:f=0∨f=1) (c:Int) (t:ByteArray) (b:Bool) (w:World) (HLC:Hid (∀ w,Calls Tryz.prog 73 #[.agg #[.int .i64 2,.int .i64 f,.int .u64 c,.string t,.bool b]] w fun e w'=>e = .returned (.int .i64 0)∧Ext w w')) (hc':(c != x.c)=false) (HCo:Hid (∀ w',Ext w w'→Calls Tryz.prog 35 #[.agg (x.arr v),.agg #[.int .i64 2,.int .i64 f,.int .u64 c,.string t,.bool b]] w' fun e w''=>e = .returned (.bool false)∧Ext w' w'')) :
 Calls Tryz.prog 46 #[.agg (x.arr v),.agg #[.int .i64 2,.int .i64 f,.int .u64 c,.string t,.bool b]] w fun e w'=>e = .returned (.bool (x.bad f))∧Ext w w':=by
 rcases hf with rfl|rfl
 all_goals
  unfold Ex.arr
  go_enter Tryz.func46,Tryz.ntmps46
  go_wp2_with (first|(go_at_call 73;refine (HLC.out _).mono ?_;rintro e W1 ⟨rfl,hx⟩;obtain ⟨h1,h2,h3⟩:=ca_open (x:=x) (v:=v) (l:=⟨_,_,_,_,_⟩) hx;clear hx;have HX:=zd h1;have HLt:=zd h2;have HE:=zd h3;unfold Ex.arr at h1;have q1:=zQ h1;have q2:=zQ h2;have l1:w.heap.size<W1.heap.size:=(zL h1);have l2:w.heap.size+1<W1.heap.size:=(zL h2);clear h1 h2;clear h3;try have hbb:=HB.out)|(go_at_call 35;refine (HCo.out _ HE.out).mono ?_;rintro e W2 ⟨rfl,hx⟩;clear q1 q2 l1 l2;have h1:=heap_ext HX.out hx;have h2:=HLt.out.ext hx;have HE2:=zd (HE.out.trans hx);have HX2:=zd h1;have HLt2:=zd h2;clear hx;unfold Ex.arr at h1;have q1:=zQ h1;have q2:=zQ h2;have l1:w.heap.size<W2.heap.size:=(zL h1);have l2:w.heap.size+1<W2.heap.size:=(zL h2);clear h1 h2)|(refine wpList_load_rowG rfl 33 _ rfl _ rfl _ _ (0,0) _ HX2.out zu33 rfl info_ex ?_)|(refine wpList_load_rowG rfl 33 _ rfl _ rfl _ _ (0,0) _ HX.out zu33 rfl info_ex ?_))
  go_ret
  exact ⟨rfl,HE2.out⟩
theorem rx_can3 (x:Ex) (v:Value) (f:Int) (c:Int) (t:ByteArray) (b:Bool) (w:World) (HLC:Hid (∀ w,Calls Tryz.prog 73 #[.agg #[.int .i64 3,.int .i64 f,.int .u64 c,.string t,.bool b]] w fun e w'=>e = .returned (.int .i64 0)∧Ext w w')) (hc':(c != x.c)=false) (HCo:Hid (∀ w',Ext w w'→Calls Tryz.prog 35 #[.agg (x.arr v),.agg #[.int .i64 3,.int .i64 f,.int .u64 c,.string t,.bool b]] w' fun e w''=>e = .returned (.bool false)∧Ext w' w'')) :
 Calls Tryz.prog 46 #[.agg (x.arr v),.agg #[.int .i64 3,.int .i64 f,.int .u64 c,.string t,.bool b]] w fun e w'=>e = .returned (.bool x.b0)∧Ext w w':=by
 unfold Ex.arr
 go_enter Tryz.func46,Tryz.ntmps46
 go_wp2_with (first|(go_at_call 73;refine (HLC.out _).mono ?_;rintro e W1 ⟨rfl,hx⟩;obtain ⟨h1,h2,h3⟩:=ca_open (x:=x) (v:=v) (l:=⟨_,_,_,_,_⟩) hx;clear hx;have HX:=zd h1;have HLt:=zd h2;have HE:=zd h3;unfold Ex.arr at h1;have q1:=zQ h1;have q2:=zQ h2;have l1:w.heap.size<W1.heap.size:=(zL h1);have l2:w.heap.size+1<W1.heap.size:=(zL h2);clear h1 h2;clear h3;try have hbb:=HB.out)|(go_at_call 35;refine (HCo.out _ HE.out).mono ?_;rintro e W2 ⟨rfl,hx⟩;clear q1 q2 l1 l2;have h1:=heap_ext HX.out hx;have h2:=HLt.out.ext hx;have HE2:=zd (HE.out.trans hx);have HX2:=zd h1;have HLt2:=zd h2;clear hx;unfold Ex.arr at h1;have q1:=zQ h1;have q2:=zQ h2;have l1:w.heap.size<W2.heap.size:=(zL h1);have l2:w.heap.size+1<W2.heap.size:=(zL h2);clear h1 h2)|(refine wpList_load_rowG rfl 33 _ rfl _ rfl _ _ (0,0) _ HX2.out zu33 rfl info_ex ?_)|(refine wpList_load_rowG rfl 33 _ rfl _ rfl _ _ (0,0) _ HX.out zu33 rfl info_ex ?_))
 go_ret
 exact ⟨rfl,HE2.out⟩
theorem rx_can4 (x:Ex) (v:Value) (f:Int) (hf:f=0∨f=1) (c:Int) (t:ByteArray) (b:Bool) (w:World) (HLC:Hid (∀ w,Calls Tryz.prog 73 #[.agg #[.int .i64 4,.int .i64 f,.int .u64 c,.string t,.bool b]] w fun e w'=>e = .returned (.int .i64 0)∧Ext w w')) (hc':(c != x.c)=false) (HCo:Hid (∀ w',Ext w w'→Calls Tryz.prog 35 #[.agg (x.arr v),.agg #[.int .i64 4,.int .i64 f,.int .u64 c,.string t,.bool b]] w' fun e w''=>e = .returned (.bool false)∧Ext w' w'')) (p p0 p1 R:Bool) (hp:Hid (x.bad f=p)) (hR:Hid ((p && (p0 && p1))=R)) (HP0:Hid (∀ w',Ext w w'→Calls Tryz.prog 46 #[.agg (x.arr v),.agg #[.int .i64 1,.int .i64 0,.int .u64 c,.string t,.bool b]] w' fun e w''=>e = .returned (.bool p0)∧Ext w' w'')) (HP1:Hid (∀ w',Ext w w'→Calls Tryz.prog 46 #[.agg (x.arr v),.agg #[.int .i64 1,.int .i64 1,.int .u64 c,.string t,.bool b]] w' fun e w''=>e = .returned (.bool p1)∧Ext w' w'')) :
 Calls Tryz.prog 46 #[.agg (x.arr v),.agg #[.int .i64 4,.int .i64 f,.int .u64 c,.string t,.bool b]] w fun e w'=>e = .returned (.bool R)∧Ext w w':=by
 obtain rfl:c=x.c:=by simpa using hc'
 unfold Ex.arr
 go_enter Tryz.func46,Tryz.ntmps46
 go_upto_region 18 with (first|(go_at_call 73;refine (HLC.out _).mono ?_;rintro e W1 ⟨rfl,hx⟩;obtain ⟨h1,h2,h3⟩:=ca_open (x:=x) (v:=v) (l:=⟨_,_,_,_,_⟩) hx;clear hx;have HX:=zd h1;have HLt:=zd h2;have HE:=zd h3;unfold Ex.arr at h1;have q1:=zQ h1;have q2:=zQ h2;have l1:w.heap.size<W1.heap.size:=(zL h1);have l2:w.heap.size+1<W1.heap.size:=(zL h2);clear h1 h2;clear h3;try have hbb:=HB.out)|(go_at_call 35;refine (HCo.out _ HE.out).mono ?_;rintro e W2 ⟨rfl,hx⟩;clear q1 q2 l1 l2;have h1:=heap_ext HX.out hx;have h2:=HLt.out.ext hx;have HE2:=zd (HE.out.trans hx);have HX2:=zd h1;have HLt2:=zd h2;clear hx;unfold Ex.arr at h1;have q1:=zQ h1;have q2:=zQ h2;have l1:w.heap.size<W2.heap.size:=(zL h1);have l2:w.heap.size+1<W2.heap.size:=(zL h2);clear h1 h2)|(refine wpList_load_rowG rfl 33 _ rfl _ rfl _ _ (0,0) _ HX.out zu33 rfl info_ex ?_))
 refine wp_forget (fun w'=>∃ g5 g6,Hid (g5=W2.heap.size∧g6=W2.heap.size+1)∧Hid (LtAt w' g5 ⟨1,0,x.c,t,b⟩)∧Hid (LtAt w' g6 ⟨1,1,x.c,t,b⟩)∧Hid (Ext W2 w')) ⟨_,_,zd ⟨rfl,rfl⟩,zd (two_new zR).1,zd (two_new zR).2.1,zd (two_new zR).2.2⟩ ?_
 rintro W3 ⟨g5,g6,hg,H5,H6,HE23⟩
 rw [←hg.out.2,←hg.out.1]
 clear hg q1 q2 l1 l2
 have HE3:=zd (HE2.out.trans HE23.out)
 have HX3:=zd (heap_ext HX2.out HE23.out)
 have HL3:=zd (HLt2.out.ext HE23.out)
 have q5:=zQ H5.out
 have q6:=zQ H6.out
 have l5:g5<W3.heap.size:=zL H5.out
 have l6:g6<W3.heap.size:=zL H6.out
 rcases hf with rfl|rfl<;>cases p<;>cases p0
 all_goals
  have hp2:=hp.out
  simp [Ex.bad] at hp2
  have h1:=HX3.out
  have h2:=HL3.out
  unfold Ex.arr at h1
  have q1:=zQ h1
  have q2:=zQ h2
  have l1:w.heap.size<W3.heap.size:=zL h1
  have l2:w.heap.size+1<W3.heap.size:=zL h2
  clear h1 h2
  go_wp2_with (first|(refine wpList_load_rowG rfl 33 _ rfl _ rfl _ _ (0,0) _ HX4.out zu33 rfl info_ex ?_)|(refine wpList_load_rowG rfl 33 _ rfl _ rfl _ _ (0,0) _ HX3.out zu33 rfl info_ex ?_)|(go_at_call 46;refine (HP0.out _ HE3.out).mono ?_;rintro e W4 ⟨rfl,hx⟩;have HE4:=zd (HE3.out.trans hx);have HX4:=zd (heap_ext HX3.out hx);have h6:=H6.out.ext hx;have h1:=HX4.out;clear hx q1 q2 q5 q6 l1 l2 l5 l6 HP0;unfold Ex.arr at h1;have q1:=zQ h1;have q6:=zQ h6;have l1:w.heap.size<W4.heap.size:=(zL h1);have l6:g6<W4.heap.size:=(zL h6);clear h1 h6)|(go_at_call 46;refine (HP1.out _ HE4.out).mono ?_;rintro e w1 ⟨rfl,hx⟩;obtain ⟨x4,rfl⟩:=ext_of hx;clear hx))
  go_ret
  exact ⟨by rw [←hR.out];rfl,by first|exact HE4.out.val x4|exact HE4.out|exact HE3.out⟩
theorem rx_can5 (x:Ex) (v:Value) (k f:Int) (hk:k=5∨k=6∨k=7) (c:Int) (t:ByteArray) (b:Bool) (w:World) (HLC:Hid (∀ w,Calls Tryz.prog 73 #[.agg #[.int .i64 k,.int .i64 f,.int .u64 c,.string t,.bool b]] w fun e w'=>e = .returned (.int .i64 0)∧Ext w w')) (hc':(c != x.c)=false) (HCo:Hid (∀ w',Ext w w'→Calls Tryz.prog 35 #[.agg (x.arr v),.agg #[.int .i64 k,.int .i64 f,.int .u64 c,.string t,.bool b]] w' fun e w''=>e = .returned (.bool false)∧Ext w' w'')) :
 Calls Tryz.prog 46 #[.agg (x.arr v),.agg #[.int .i64 k,.int .i64 f,.int .u64 c,.string t,.bool b]] w fun e w'=>e = .returned (.bool (decide (k=7)))∧Ext w w':=by
 rcases hk with rfl|rfl|rfl
 all_goals
  unfold Ex.arr
  go_enter Tryz.func46,Tryz.ntmps46
  go_wp2_with (first|(go_at_call 73;refine (HLC.out _).mono ?_;rintro e W1 ⟨rfl,hx⟩;obtain ⟨h1,h2,h3⟩:=ca_open (x:=x) (v:=v) (l:=⟨_,_,_,_,_⟩) hx;clear hx;have HX:=zd h1;have HLt:=zd h2;have HE:=zd h3;unfold Ex.arr at h1;have q1:=zQ h1;have q2:=zQ h2;have l1:w.heap.size<W1.heap.size:=(zL h1);have l2:w.heap.size+1<W1.heap.size:=(zL h2);clear h1 h2;clear h3;try have hbb:=HB.out)|(go_at_call 35;refine (HCo.out _ HE.out).mono ?_;rintro e W2 ⟨rfl,hx⟩;clear q1 q2 l1 l2;have h1:=heap_ext HX.out hx;have h2:=HLt.out.ext hx;have HE2:=zd (HE.out.trans hx);have HX2:=zd h1;have HLt2:=zd h2;clear hx;unfold Ex.arr at h1;have q1:=zQ h1;have q2:=zQ h2;have l1:w.heap.size<W2.heap.size:=(zL h1);have l2:w.heap.size+1<W2.heap.size:=(zL h2);clear h1 h2)|(refine wpList_load_rowG rfl 33 _ rfl _ rfl _ _ (0,0) _ HX2.out zu33 rfl info_ex ?_)|(refine wpList_load_rowG rfl 33 _ rfl _ rfl _ _ (0,0) _ HX.out zu33 rfl info_ex ?_))
  go_ret
  exact ⟨rfl,HE2.out⟩
theorem rx_canX (x:Ex) (v:Value) (l:Lt) (w:World) (hR:Hrd w x v) (hP:l.k=4→∀ n,n=0∨n=1→∀ w',Ext w w'→Calls Tryz.prog 46 #[.agg (x.arr v),.agg #[.int .i64 1,.int .i64 n,.int .u64 l.c,.string l.t,.bool l.b]] w' fun e w''=>e = .returned (.bool (canP x ⟨1,n,l.c,l.t,l.b⟩))∧Ext w' w'') :
 Calls Tryz.prog 46 #[.agg (x.arr v),.agg #[.int .i64 l.k,.int .i64 l.f,.int .u64 l.c,.string l.t,.bool l.b]] w fun e w'=>e = .returned (.bool (canS x l))∧Ext w w':=by
 obtain ⟨k,f,c,t,b⟩:=l
 have hlc:=rl_check k f c t b
 have hco:=fun w' (hw:Ext w w')=>rx_heard x v ⟨k,f,c,t,b⟩ w' (hR.ext hw)
 have hwi:=fun w' (hw:Ext w w')=>rx_resolved x v t b w' (hR.ext hw)
 simp only at hlc hco hP ⊢
 by_cases h0:lchk ⟨k,f,c,t,b⟩=0
 case neg=>
  rw [show canS x ⟨k,f,c,t,b⟩=false by unfold canS;rw [if_pos (.inl h0)]]
  exact rx_can0 x v k f _ c t b w (zd hlc) (by simpa using h0)
 rw [h0] at hlc
 by_cases hc:c=x.c
 case neg=>
  rw [show canS x ⟨k,f,c,t,b⟩=false by unfold canS;rw [if_pos (.inr hc)]]
  exact rx_canc x v k f c t b w (zd hlc) (by simpa using hc)
 have hc':(c != x.c)=false:=by simpa using hc
 have hno : ¬(lchk ⟨k,f,c,t,b⟩≠0∨(⟨k,f,c,t,b⟩:Lt).c≠x.c):=by
  rintro (h|h)
  ·exact h h0
  ·exact h hc
 have hsz:=lchk_size h0
 by_cases hm:(⟨k,f,c,t,b⟩:Lt)∈x.h
 ·rw [decide_eq_true hm] at hco
  rw [show canS x ⟨k,f,c,t,b⟩=true by unfold canS;rw [if_neg hno,if_pos hm]]
  exact rx_canh x v k f c t b w (zd hlc) hc' (zd hco)
 rw [decide_eq_false hm] at hco
 have key2:canS x ⟨k,f,c,t,b⟩=(if k=1 then x.bad (if b=true then 1 - f else f) || wishS x.h ⟨k,f,c,t,b⟩ else if k=2 then x.bad f else if k=3 then x.b0 else if k=4 then x.bad f && (canP x ⟨1,0,c,t,b⟩ && canP x ⟨1,1,c,t,b⟩) else decide (k=7)):=by unfold canS;rw [if_neg hno,if_neg hm]
 rw [key2]
 simp only at hsz
 obtain ⟨_,hf,hk1,hk7,_⟩:=hsz
 obtain rfl|rfl|rfl|rfl|hk:k=1∨k=2∨k=3∨k=4∨(k=5∨k=6∨k=7):=by omega
 ·exact rx_can1 x v f hf c t b w (zd hlc) hc' (zd hco) _ (zd hwi)
 ·exact rx_can2 x v f hf c t b w (zd hlc) hc' (zd hco)
 ·exact rx_can3 x v f c t b w (zd hlc) hc' (zd hco)
 ·exact rx_can4 x v f hf c t b w (zd hlc) hc' (zd hco) _ _ _ _ (zd rfl) (zd rfl) (zd (hP rfl 0 (.inl rfl))) (zd (hP rfl 1 (.inr rfl)))
 ·rw [if_neg (by omega),if_neg (by omega),if_neg (by omega),if_neg (by omega)]
  exact rx_can5 x v k f hk c t b w (zd hlc) hc' (zd hco)
theorem rx_can (x:Ex) (v:Value) (l:Lt) (w:World) (hR:Hrd w x v) :
 Calls Tryz.prog 46 #[.agg (x.arr v),.agg #[.int .i64 l.k,.int .i64 l.f,.int .u64 l.c,.string l.t,.bool l.b]] w fun e w'=>e = .returned (.bool (canS x l))∧Ext w w':=by
 refine rx_canX x v l w hR fun _ n hn w' hw=>?_
 have:=rx_canX x v ⟨1,n,l.c,l.t,l.b⟩ w' (hR.ext hw) fun h=>absurd (show (1:Int)=4 from h) (by decide)
 rw [canS_P _ _ rfl] at this
 exact this
def zeX (h:List Lt):Ex:=⟨0,⟨0,0,{ data:=#[] },0,l0⟩,⟨0,0,{ data:=#[] },0,l0⟩,v0,false,false,false,h⟩
theorem hears_lost : ∀ (h:List Lt) (ls:List Lt),hearsS h true ls=h
 | _,[]=>rfl
 | h,_::ls=>hears_lost h ls
theorem hears_take {h:List Lt} {b:Bool} {ls:List Lt} {i:Nat} {z:Lt} (hz:ls[i]?=some z):hearsS h b (ls.take (i+1))=hearS (hearsS h b (ls.take i)) b z:=by
 unfold hearsS
 rw [List.take_add_one,hz,List.foldl_append]
 rfl
theorem hears_len (b:Bool) : ∀ (ls:List Lt) (h:List Lt),(hearsS h b ls).length≤h.length+ls.length
 | [],h=>by simp [hearsS]
 | l::ls,h=>by
  have h1:(hearS h b l).length≤h.length+1:=by unfold hearS;split<;>simp
  have h2:(hearsS (hearS h b l) b ls).length≤_:=hears_len b ls (hearS h b l)
  show (hearsS (hearS h b l) b ls).length≤_
  simp only [List.length_cons]
  omega
theorem row_loZ {w:World} {B:Nat} {e:TypeId} {size n:Nat} {v:Value} {xs:List Value} (h:w.ownsRow B e size v n xs) : ∀ g∈rowB v,B≤g:=by
 intro g hg
 rcases h.2 with ⟨hv,_⟩|⟨b,cap,cur,hv,hb,_⟩
 ·rw [hv] at hg;simp [rowB,Value.ownBlock] at hg
 ·rw [hv] at hg
  simp [rowB,Value.ownBlock] at hg
  omega
def HearsP (w:World) (x:Ex) (e:Ending) (w':World):Prop:=∃ v',e = .returned (.agg (x.arr v'))∧Own w' w.heap.size x.h v'∧Ext w w'
theorem rx_hears (x:Ex) (v lv:Value) (L:List Lt) (lost:Bool) (w:World) (hR:Hrd w x v) (hv:v = .slice none 0 0∨∃ a n c,v = .slice (some a) n c) (hL:Row w 5 lv L.length (L.flatMap Lt.cs)) (hn:x.h.length≤100000) (hn2:L.length≤1000) :
 Calls Tryz.prog 77 #[.agg (x.arr v),lv,.bool lost] w (HearsP w { x with h:=hearsS x.h lost L }):=by
 obtain ⟨ti0,hi,hz0,hz1,hz2⟩:=info_parts info_letter
 have HR:=zd hR
 have HVV:=zd hv
 obtain ⟨a,cap,rfl,hm,_⟩:=row_view hR
 obtain ⟨la,lcap,rfl,hml,hlv⟩:=row_view hL
 have HLV:=zd hlv
 clear hR hv hm hL hlv
 unfold maxLen at hml
 go_enter Tryz.func77,Tryz.ntmps77
 go_upto_region 1 with fail
 refine wp_forget (fun w'=>Hid (ExAt w' w.heap.size x (.slice a x.h.length cap)∧w'.heap[w.heap.size+1]?=some (.cells ((zeX []).arr (.slice none 0 0)) 33 (0,0))∧Ext w w')) (zd ⟨heap_ext (heap_new rfl) (zR.alloc _),heap_new (by simp),((Ext.refl w).alloc _).alloc _⟩) ?_
 intro W1 H1
 have q25:W1.cell? ⟨w.heap.size,25,none⟩=some (.slice a x.h.length cap):=zQ H1.out.1 25
 have l1:w.heap.size<W1.heap.size:=zL H1.out.1
 go_upto_region 2 with (first|(at_builtin;refine unHd ?_))
 unfold Hd2
 refine wpList_app4 W1.heap.size 31 24 ti0 _ 5 48 zu31 hi hz0 hz1 hz2 rfl (by decide) rfl _ _ rfl _ 0 [] rfl (own_new (Ext.refl W1) rfl (by decide) rfl rfl) (by simp) _ x.h.length (x.h.flatMap Lt.cs) rfl
  ((HR.out.ext H1.out.2.2).ext (zR.alloc _)) HVV.out (lt_one x.h) (by unfold maxLen;omega) (by omega) ?_
 intro v' w2 ho2 hb2 hg2
 rw [Nat.zero_add,List.nil_append] at ho2
 replace hg2:(W1.alloc (.cells #[] 24)).grownBy w2 (some W1.heap.size):=hg2
 have blk : ∀ k,k<W1.heap.size→w2.heap[k]?=W1.heap[k]?:=fun k hk=>(hg2.block k (by simp;omega) (by simp;omega)).trans (((Ext.refl W1).alloc (.cells #[] 24)).block k hk)
 have hx2:Ext W1 w2:=⟨hg2.os,hg2.tape,hg2.output,zT (by simp) hg2.size,blk⟩
 have HO2:=zd ho2
 have HX2:=zd hx2
 clear ho2 hb2 hg2 blk hx2 q25 l1
 go_upto_region 3 with fail
 have hli : ∀ i:Nat,(((L.take i).length:Nat):Int)≤1000:=fun i=>by rw [List.length_take];omega
 go_loopg [7,8] L.length (fun g t7 t8 wr=>∃ (i:Nat) (H:List Lt) (v7:Value),v7=t7∧t8 = .int .i64 (i:Int)∧i+g=L.length∧Hid (H=hearsS x.h lost (L.take i))∧Hid (Ext W1 wr)∧Hid (Own wr W1.heap.size H v7))
 case atStart=>exact ⟨0,x.h,_,rfl,rfl,by omega,zd rfl,HX2,HO2⟩
 case round=>
  obtain ⟨i,H,v7,rfl,rfl,hg,HH,HE4,HH2⟩:=hrel
  rename World=>w4
  cases lost
  case true=>
   by_cases hlt:(i:Int)<(L.length:Int)
   all_goals
    go_upto_region 7 with fail
    have hfin:Hid (H=hearsS x.h true L):=zd (by rw [HH.out,hears_lost,hears_lost])
    have hb:=heap_ext H1.out.1 HE4.out
    obtain ⟨a7,c7,rfl,_,_⟩:=own_view HH2.out
    have q4:=zQ hb
    have f4:=zF hb
    have l4:w.heap.size<w4.heap.size:=zL hb
    have HB:=zd hb
    clear hb
    unfold Ex.arr at q4
    go_upto_region 8 with fail
    have hE:ExAt (w4.setCell ⟨w.heap.size,25,none⟩ (.slice a7 H.length c7)) w.heap.size x (.slice a7 H.length c7):=setCell_row HB.out (.slice a7 H.length c7)
    have hR2:(w4.setCell ⟨w.heap.size,25,none⟩ (.slice a7 H.length c7)).heap[w.heap.size+1]?=some (.cells ((zeX []).arr (.slice none 0 0)) 33 (0,0)):=(cell_other (by omega)).trans (heap_ext H1.out.2.1 HE4.out)
    have hlo : ∀ k∈rowB (.slice a7 H.length c7),w.heap.size+1<k:=fun k hk=>by
     have:=row_loZ HH2.out _ hk
     have:=zL H1.out.2.1
     omega
    have hO:Own (w4.setCell ⟨w.heap.size,25,none⟩ (.slice a7 H.length c7)) w.heap.size H (.slice a7 H.length c7):=own_base (own_at HH2.out fun k hk=>cell_other (show k≠w.heap.size from by have:=hlo k hk;omega)) (Nat.le_of_lt (zL H1.out.1))
    have hx3:Ext w (w4.setCell ⟨w.heap.size,25,none⟩ (.slice a7 H.length c7)):=(H1.out.2.2.trans HE4.out).setCell zN _
    clear q4 f4 l4
    generalize w4.setCell ⟨w.heap.size,25,none⟩ (.slice a7 H.length c7)=w6 at hE hR2 hO hx3 ⊢
    go_wp2_with (first|(refine wpList_load_row rfl 33 _ rfl _ rfl _ _ (0,0) _ hE zu33 rfl info_ex ?_)|(refine wpList_store_row rfl 33 _ _ rfl _ _ rfl rfl 33 _ hR2 info_ex rfl (arr_one x rfl) ?_))
    refine bodyPost_ret (results_cell_row rfl _ _ (w.heap.size+1) 33 (x.arr (.slice a7 H.length c7)) (0,0) _ rfl (setRow_heap _ _ _ _ _ _ hR2) zu33 rfl info_ex) rfl ?_
    rw [←hfin.out]
    exact ⟨_,rfl,own_at hO fun k hk=>setRow_other _ _ _ _ (by have:=hlo k hk;omega),hx3.setRow (Nat.le_succ _) _⟩
  by_cases hlt:i<L.length
  case neg=>
   have hlt' : ¬(i:Int)<(L.length:Int):=by omega
   go_upto_region 7 with fail
   have hfin:Hid (H=hearsS x.h false L):=zd (by rw [HH.out,List.take_of_length_le (by omega)])
   have hb:=heap_ext H1.out.1 HE4.out
   obtain ⟨a7,c7,rfl,_,_⟩:=own_view HH2.out
   have q4:=zQ hb
   have f4:=zF hb
   have l4:w.heap.size<w4.heap.size:=zL hb
   have HB:=zd hb
   clear hb
   unfold Ex.arr at q4
   go_upto_region 8 with fail
   have hE:ExAt (w4.setCell ⟨w.heap.size,25,none⟩ (.slice a7 H.length c7)) w.heap.size x (.slice a7 H.length c7):=setCell_row HB.out (.slice a7 H.length c7)
   have hR2:(w4.setCell ⟨w.heap.size,25,none⟩ (.slice a7 H.length c7)).heap[w.heap.size+1]?=some (.cells ((zeX []).arr (.slice none 0 0)) 33 (0,0)):=(cell_other (by omega)).trans (heap_ext H1.out.2.1 HE4.out)
   have hlo : ∀ k∈rowB (.slice a7 H.length c7),w.heap.size+1<k:=fun k hk=>by
    have:=row_loZ HH2.out _ hk
    have:=zL H1.out.2.1
    omega
   have hO:Own (w4.setCell ⟨w.heap.size,25,none⟩ (.slice a7 H.length c7)) w.heap.size H (.slice a7 H.length c7):=own_base (own_at HH2.out fun k hk=>cell_other (show k≠w.heap.size from by have:=hlo k hk;omega)) (Nat.le_of_lt (zL H1.out.1))
   have hx3:Ext w (w4.setCell ⟨w.heap.size,25,none⟩ (.slice a7 H.length c7)):=(H1.out.2.2.trans HE4.out).setCell zN _
   clear q4 f4 l4
   generalize w4.setCell ⟨w.heap.size,25,none⟩ (.slice a7 H.length c7)=w6 at hE hR2 hO hx3 ⊢
   go_wp2_with (first|(refine wpList_load_row rfl 33 _ rfl _ rfl _ _ (0,0) _ hE zu33 rfl info_ex ?_)|(refine wpList_store_row rfl 33 _ _ rfl _ _ rfl rfl 33 _ hR2 info_ex rfl (arr_one x rfl) ?_))
   refine bodyPost_ret (results_cell_row rfl _ _ (w.heap.size+1) 33 (x.arr (.slice a7 H.length c7)) (0,0) _ rfl (setRow_heap _ _ _ _ _ _ hR2) zu33 rfl info_ex) rfl ?_
   rw [←hfin.out]
   exact ⟨_,rfl,own_at hO fun k hk=>setRow_other _ _ _ _ (by have:=hlo k hk;omega),hx3.setRow (Nat.le_succ _) _⟩
  have hlt':(i:Int)<(L.length:Int):=by omega
  obtain ⟨z,hz⟩ : ∃ z,L[i]?=some z:=⟨_,zG hlt⟩
  obtain ⟨g0,off,rfl,hgl,hcell⟩:=HLV.out (by omega)
  have hgl:=hgl (by omega)
  obtain ⟨q0,q1,q2,q3,q4⟩:=lt_cellsO (fun j u hj=>cell_keep (hcell j u hj) (H1.out.2.2.trans HE4.out)) hz
  have hgl1:g0<w4.heap.size:=zU hgl (H1.out.2.2.trans HE4.out).size
  have HZ:=zd hz
  have hl7:H.length≤101000:=by
   rw [HH.out]
   have:=hears_len false (L.take i) x.h
   have:=hli i
   omega
  have HHD:=fun w' (hw:Ext w4 w')=>rx_heard (zeX H) v7 z w' (Row.of_own (own_ext HH2.out hw))
  have HHD2:=zd HHD
  obtain ⟨a7,c7,rfl,_,_⟩:=own_view HH2.out
  clear hgl hcell hz HHD hli
  rcases hd:decide (z∈H)
  case true=>
   have HD:=zd hd
   clear hd
   go_wp2_with (go_at_call 35;refine (HHD2.out _ zR).mono ?_;rw [show decide (z∈(zeX H).h)=_ from HD.out];rintro e w5 ⟨rfl,hx5⟩;have HX5:=zd hx5;clear hx5;have p0:=cell_keep q0 HX5.out;have p1:=cell_keep q1 HX5.out;have p2:=cell_keep q2 HX5.out;have p3:=cell_keep q3 HX5.out;have p4:=cell_keep q4 HX5.out;have hgl5:g0<w5.heap.size:=zU hgl1 HX5.out.size;clear q0 q1 q2 q3 q4 hgl1)
   go_roundg (gk - 1)
   case rel=>
    refine ⟨i+1,H,_,rfl,rfl,by omega,zd ?_,zd (HE4.out.trans HX5.out),zd (own_ext HH2.out HX5.out)⟩
    rw [hears_take HZ.out,←HH.out]
    unfold hearS
    rw [if_pos (.inr (of_decide_eq_true HD.out))]
   case measure=>omega
  have HD:=zd hd
  clear hd
  go_upto_region 6 with (go_at_call 35;refine (HHD2.out _ zR).mono ?_;rw [show decide (z∈(zeX H).h)=_ from HD.out];rintro e w5 ⟨rfl,hx5⟩;have HX5:=zd hx5;clear hx5;have p0:=cell_keep q0 HX5.out;have p1:=cell_keep q1 HX5.out;have p2:=cell_keep q2 HX5.out;have p3:=cell_keep q3 HX5.out;have p4:=cell_keep q4 HX5.out;have hgl5:g0<w5.heap.size:=zU hgl1 HX5.out.size;clear q0 q1 q2 q3 q4 hgl1)
  have HHE:=zd (own_ext HH2.out HX5.out)
  go_wp2_with (at_builtin;refine wpList_app W1.heap.size 31 24 ti0 _ 5 48 zu31 hi hz0 hz1 hz2 rfl (by decide) rfl _ _ rfl _ H.length (H.flatMap Lt.cs) rfl (own_ext HHE.out (zR.alloc _)) (zT (HE4.out.trans HX5.out).size ((Ext.refl w5).alloc _).size) w5.heap.size 1 1 #[.int .i64 z.k,.int .i64 z.f,.int .u64 z.c,.string z.t,.bool z.b] rfl (heap_new rfl) rfl (by simp [Value.oneCell']) (by unfold maxLen;omega) (by omega) ?_;intro v9 w9 k1 k2 k3;have HK1:=zd k1;have HE9:=zd (ext_append ((HE4.out.trans HX5.out).alloc _) (own_ext HHE.out (zR.alloc _)) zN k3);clear k1 k2 k3)
  go_roundg (gk - 1)
  case rel=>
   refine ⟨i+1,H++[z],_,rfl,rfl,by omega,zd ?_,HE9,zd ?_⟩
   ·rw [hears_take HZ.out,←HH.out]
    unfold hearS
    rw [if_neg]
    rintro (h|h)
    ·cases h
    ·exact of_decide_eq_false HD.out h
   ·have:=HK1.out
    show World.ownsRow _ _ _ _ _ (H++[z]).length ((H++[z]).flatMap Lt.cs)
    rw [List.length_append,List.flatMap_append]
    exact this
  case measure=>omega
def zXx (w:World) (x:Ex) (m:Mv) (W1:World) (a2:Option Addr) (c2:Nat) (w':World):Prop:=Hid (ExAt w' w.heap.size x (.slice a2 x.h.length c2))∧Hid (w'.heap[w.heap.size+1]?=some (.cells m.arr 52 (0,0)))∧Hid (w'.heap[w.heap.size+1+1]?=some (.cells ((zeX []).arr (.slice none 0 0)) 33 (0,0)))∧Hid (Own w' W1.heap.size x.h (.slice a2 x.h.length c2))∧Hid (Ext w w')
def zY (w:World) (x:Ex) (m:Mv) (a:Option Addr) (cap:Nat) (w':World):Prop:=Hid (ExAt w' w.heap.size x (.slice a x.h.length cap)∧w'.heap[w.heap.size+1]?=some (.cells m.arr 52 (0,0))∧w'.heap[w.heap.size+1+1]?=some (.cells ((zeX []).arr (.slice none 0 0)) 33 (0,0))∧Ext w w')
end Go.Proofs.YtlnmhocehgmbbaaGreatDoor

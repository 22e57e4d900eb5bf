/- No condition. -/
import Derived.Test.YtlnmhocehgmbbaaGreatDoorWY10
set_option linter.all false
set_option maxRecDepth 100000
set_option maxHeartbeats 6400000
namespace Go.Proofs.YtlnmhocehgmbbaaGreatDoor
open Go.RowKit
attribute [local go_sem ↓] eql_lEq eql_sEq eql_eEq eql_oEq neq_lEq neq_sEq neq_eEq neq_oEq eql_vEq neq_vEq eql_nil
attribute [local go_sem] ExtOf.cell ExtOf.frozen ExtOf.lt ExtOf.le
attribute [local go_sem high] ExtOf.cell2 ExtOf.frozen2 ExtOf.lt2 ExtOf.cell3 ExtOf.frozen3 ExtOf.lt3
theorem Heard1.from {B gx:Nat} {x:Ex} {v:Value} {w a b:World} (k:Keeps (gx::rowB v) w a) (h:Heard1 B gx x v a b):Heard1 B gx x v w b:=by
 obtain ⟨v',h1,h2,h3,h4⟩:=h
 exact ⟨v',h1,h2,k.trans h3,fun g hg=>(h4 g hg).imp id (zT k.size)⟩
theorem tell_some {c:Int} {v:Vd} {l:Lt} (h:saysS v=some l):tellS c v=l:=by unfold tellS;rw [h];rfl
theorem tell_none {c:Int} {v:Vd} (h:saysS v=none):tellS c v=⟨7,0,c,{ data:=#[] },false⟩:=by unfold tellS;rw [h];rfl
theorem askX_no {x:Ex} {m:Mv} (h : ¬((m.l.k=4∧m.l.b=false)∨m.l.k=3)):askX x m=x:=by unfold askX;rw [if_neg h]
theorem askX_do {x:Ex} {m:Mv} (h:(m.l.k=4∧m.l.b=false)∨m.l.k=3):askX x m = { x with v:=askV x m.l,h:=hearS x.h m.lost (tellS x.c (askV x m.l)) }:=by unfold askX;rw [if_pos h]
theorem mo_asked0 (gx:Nat) (x:Ex) (v:Value) (m:Mv) (w:World) (hX:ExAt w gx x v) (h : ¬((m.l.k=4∧m.l.b=false)∨m.l.k=3)) :
 Calls Tryz.prog 69 #[.pointer (some ⟨gx,0,none⟩),.agg m.arr] w fun e w'=>e = .returned (.tuple #[])∧Ext w w':=by
 have hX':=hX
 unfold ExAt Ex.arr at hX'
 have qx:=zQ hX'
 have lx:gx<w.heap.size:=zL hX
 clear hX hX'
 have n3:(m.l.k != 3)=true:=by
  rw [bne_iff_ne];exact fun h3=>h (.inr h3)
 unfold Mv.arr
 by_cases h4:m.l.k=4
 ·have hb:m.l.b=true:=by
   cases hb:m.l.b
   ·exact absurd (.inl ⟨h4,hb⟩) h
   ·rfl
  clear h
  go_enter Tryz.func69,Tryz.ntmps69
  go_wp2_with fail
  exact ⟨rfl,.tuple #[],by simp [results,go_sem],rfl,((zR.alloc _).alloc _).alloc _⟩
 ·have h4':(m.l.k == 4)=false:=by simpa using h4
  clear h h4
  go_enter Tryz.func69,Tryz.ntmps69
  go_wp2_with fail
  exact ⟨rfl,.tuple #[],by simp [results,go_sem],rfl,((zR.alloc _).alloc _).alloc _⟩
theorem mo_askedB4 (B gx:Nat) (x:Ex) (v:Value) (mk who:Int) (mt:ByteArray) (lf lc:Int) (lt:ByteArray) (lost:Bool) (w:World) (hX:ExAt w gx x v) (hO:Own w B x.h v)
 (hB:gx<B) (hBw:B≤w.heap.size) (hn:x.h.length≤100000) :
 Calls Tryz.prog 69 #[.pointer (some ⟨gx,0,none⟩),.agg (Mv.arr ⟨mk,who,mt,⟨4,lf,lc,lt,false⟩,lost⟩)] w fun e w'=>e = .returned (.tuple #[])∧Heard1 B gx { x with v:=askV x ⟨4,lf,lc,lt,false⟩,h:=hearS x.h lost (tellS x.c (askV x ⟨4,lf,lc,lt,false⟩)) } v w w':=by
 have hX':=hX
 unfold ExAt Ex.arr at hX'
 have qx:=zQ hX'
 have lx:gx<w.heap.size:=zL hX
 have HX:=zd hX
 have HO:=zd hO
 clear hX hX' hO
 unfold Mv.arr
 go_enter Tryz.func69,Tryz.ntmps69
 go_wp2_with fail
 go_region
 go_upto_region 6 with fail
 refine wp_forget (fun w'=>w'.heap[w.heap.size]?=some (.cells (Mv.arr ⟨mk,who,mt,⟨4,lf,lc,lt,false⟩,lost⟩) 52 (0,0))∧w'.heap[w.heap.size+1]?=some (.cells #[.int .i64 4,.int .i64 lf,.int .u64 lc,.string lt,.bool false] 24 (0,0))∧w'.heap[w.heap.size+1+1]?=some (.cells #[.int .u64 x.c,.int .i64 2,.string lt] 29 (0,0))∧Ext w w') (by first|exact three_new zR|exact three_new zR.drew) ?_
 rintro W1 ⟨h1,_,h2,e1⟩
 clear qx
 have hx1:=HX.out.ext e1
 have hx1':=hx1
 unfold ExAt Ex.arr at hx1'
 have qx:=zQ hx1'
 have fx:=zF hx1'
 have qv:=zQ h2
 have lx1:gx<W1.heap.size:=zL hx1
 have lv1:w.heap.size+1+1<W1.heap.size:=zL h2
 have HM1:=zd h1
 have HX1:=zd hx1
 have HE1:=zd e1
 clear h1 h2 hx1 hx1' e1
 have hv3:(x.v.k=0∧x.full=false)∨((x.v.k == 0)=false∧¬(x.v.k=0∧x.full=false))∨(x.v.k=0∧x.full=true):=by
  by_cases h0:x.v.k=0
  ·cases hf:x.full
   ·exact .inl ⟨h0,rfl⟩
   ·exact .inr (.inr ⟨h0,rfl⟩)
  ·exact .inr (.inl ⟨by simpa using h0,fun h=>h0 h.1⟩)
 generalize hV:askV x ⟨4,lf,lc,lt,false⟩=V
 rcases hv3 with ⟨h0,hf⟩|⟨h0,hf⟩|⟨h0,hf⟩
 ·have hV':V=⟨x.c,2,lt⟩:=by rw [←hV];unfold askV;rw [if_pos ⟨h0,hf⟩];rw [if_pos ⟨rfl,rfl⟩]
  go_upto_region 8 with fail
  refine wp_forget (fun w'=>Hid (ExAt w' gx { x with v:=V } v∧Own w' B x.h v∧Keeps (gx::rowB v) w w'∧w'.heap[w.heap.size]?=some (.cells (Mv.arr ⟨mk,who,mt,⟨4,lf,lc,lt,false⟩,lost⟩) 52 (0,0)))) (zd ⟨?g1,?g2,?g3,?g4⟩) ?gr
  case g1=>
   rw [hV']
   exact setCell_row (o:=21) (setCell_row (o:=20) (setCell_row (o:=19) HX1.out _) _) _
  case g2=>
   have o1:=own_ext HO.out HE1.out
   exact own_same (own_same (own_same o1 fun k hk _=>cell_other (o:=19) (v:=.int .u64 x.c) (show k≠gx by omega)) fun k hk _=>cell_other (o:=20) (v:=.int .i64 2) (show k≠gx by omega)) fun k hk _=>cell_other (o:=21) (v:=.string lt) (show k≠gx by omega)
  case g3=>exact ((((Keeps.refl _ w).ext HE1.out).setCell (.inl (.head _)) _ _).setCell (.inl (.head _)) _ _).setCell (.inl (.head _)) _ _
  case g4=>exact (cell_other (by omega)).trans ((cell_other (by omega)).trans ((cell_other (by omega)).trans HM1.out))
  rintro W2 HA
  clear h0 hV' qv lx1 lv1 fx HX1 HE1 HM1 hf
  clear qx
  have hA1:=HA.out.1
  unfold ExAt Ex.arr at hA1
  have qx:=zQ hA1
  clear hA1
  have hsy:=ve_says V.c V.k V.t
  unfold saysL at hsy
  rcases hs:saysS V with _|⟨lk',lf',lc',lt',lb'⟩
  ·have TL:=zd (tell_none (c:=x.c) hs)
   rw [show (⟨V.c,V.k,V.t⟩:Vd)=V from rfl,hs] at hsy
   unfold l0 at hsy
   simp only [Option.getD_none,Option.isSome_none] at hsy
   have HS:=zd hsy
   clear hsy hs
   go_wp2_with (first
    | (go_at_call 65;refine (HS.out _).mono ?_;rintro e W3 ⟨rfl,hx⟩;clear qx;have hx3:=HA.out.1.ext hx;have HX3:=zd hx3;have HO3:=zd (HA.out.2.1.ext hx);have HK3:=zd (HA.out.2.2.1.ext hx);unfold ExAt Ex.arr at hx3;have qx:=zQ hx3;have hm3:=heap_ext HA.out.2.2.2 hx;unfold Mv.arr at hm3;have qm:=zQ hm3;have lx3:gx<W3.heap.size:=(zL hx3);have lm3:w.heap.size<W3.heap.size:=(zL hm3);clear hx hx3 hm3)
    | (go_at_call 71;refine (mo_hears B gx _ { x with v:=V } v ⟨mk,who,mt,⟨4,lf,lc,lt,false⟩,lost⟩ ⟨7,0,x.c,{ data:=#[] },false⟩ _ (HX3.out.ext ((zR.alloc _).alloc _)) (HO3.out.ext ((zR.alloc _).alloc _)) (heap_new (by simp)) hB (zT hBw (zT HK3.out.size ((zR.alloc _).alloc _).size)) hn).mono ?_;rintro e w4 ⟨rfl,hH⟩;have HH:=zd hH;clear hH))
   refine ⟨rfl,.tuple #[],by simp [results,go_sem],rfl,?_⟩
   rw [hV,TL.out]
   exact Heard1.from (HK3.out.ext ((zR.alloc _).alloc _)) HH.out
  ·have TL:=zd (tell_some (c:=x.c) hs)
   rw [show (⟨V.c,V.k,V.t⟩:Vd)=V from rfl,hs] at hsy
   simp only [Option.getD_some,Option.isSome_some] at hsy
   have HS:=zd hsy
   clear hsy hs
   go_wp2_with (first
    | (go_at_call 65;refine (HS.out _).mono ?_;rintro e W3 ⟨rfl,hx⟩;clear qx;have hx3:=HA.out.1.ext hx;have HX3:=zd hx3;have HO3:=zd (HA.out.2.1.ext hx);have HK3:=zd (HA.out.2.2.1.ext hx);unfold ExAt Ex.arr at hx3;have qx:=zQ hx3;have hm3:=heap_ext HA.out.2.2.2 hx;unfold Mv.arr at hm3;have qm:=zQ hm3;have lx3:gx<W3.heap.size:=(zL hx3);have lm3:w.heap.size<W3.heap.size:=(zL hm3);clear hx hx3 hm3)
    | (go_at_call 71;refine (mo_hears B gx _ { x with v:=V } v ⟨mk,who,mt,⟨4,lf,lc,lt,false⟩,lost⟩ ⟨lk',lf',lc',lt',lb'⟩ _ (HX3.out.ext ((zR.alloc _).alloc _)) (HO3.out.ext ((zR.alloc _).alloc _)) (heap_new (by simp)) hB (zT hBw (zT HK3.out.size ((zR.alloc _).alloc _).size)) hn).mono ?_;rintro e w4 ⟨rfl,hH⟩;have HH:=zd hH;clear hH))
   refine ⟨rfl,.tuple #[],by simp [results,go_sem],rfl,?_⟩
   rw [hV,TL.out]
   exact Heard1.from (HK3.out.ext ((zR.alloc _).alloc _)) HH.out
 ·have hV':V=x.v:=by rw [←hV];unfold askV;rw [if_neg hf]
  clear hf
  go_upto_region 8 with fail
  refine wp_forget (fun w'=>Hid (ExAt w' gx { x with v:=V } v∧Own w' B x.h v∧Keeps (gx::rowB v) w w'∧w'.heap[w.heap.size]?=some (.cells (Mv.arr ⟨mk,who,mt,⟨4,lf,lc,lt,false⟩,lost⟩) 52 (0,0)))) (zd ⟨by rw [hV'];exact HX1.out,HO.out.ext HE1.out,(Keeps.refl _ w).ext HE1.out,HM1.out⟩) ?_
  rintro W2 HA
  clear h0 hV' qv lx1 lv1 fx HX1 HE1 HM1
  clear qx
  have hA1:=HA.out.1
  unfold ExAt Ex.arr at hA1
  have qx:=zQ hA1
  clear hA1
  have hsy:=ve_says V.c V.k V.t
  unfold saysL at hsy
  rcases hs:saysS V with _|⟨lk',lf',lc',lt',lb'⟩
  ·have TL:=zd (tell_none (c:=x.c) hs)
   rw [show (⟨V.c,V.k,V.t⟩:Vd)=V from rfl,hs] at hsy
   unfold l0 at hsy
   simp only [Option.getD_none,Option.isSome_none] at hsy
   have HS:=zd hsy
   clear hsy hs
   go_wp2_with (first
    | (go_at_call 65;refine (HS.out _).mono ?_;rintro e W3 ⟨rfl,hx⟩;clear qx;have hx3:=HA.out.1.ext hx;have HX3:=zd hx3;have HO3:=zd (HA.out.2.1.ext hx);have HK3:=zd (HA.out.2.2.1.ext hx);unfold ExAt Ex.arr at hx3;have qx:=zQ hx3;have hm3:=heap_ext HA.out.2.2.2 hx;unfold Mv.arr at hm3;have qm:=zQ hm3;have lx3:gx<W3.heap.size:=(zL hx3);have lm3:w.heap.size<W3.heap.size:=(zL hm3);clear hx hx3 hm3)
    | (go_at_call 71;refine (mo_hears B gx _ { x with v:=V } v ⟨mk,who,mt,⟨4,lf,lc,lt,false⟩,lost⟩ ⟨7,0,x.c,{ data:=#[] },false⟩ _ (HX3.out.ext ((zR.alloc _).alloc _)) (HO3.out.ext ((zR.alloc _).alloc _)) (heap_new (by simp)) hB (zT hBw (zT HK3.out.size ((zR.alloc _).alloc _).size)) hn).mono ?_;rintro e w4 ⟨rfl,hH⟩;have HH:=zd hH;clear hH))
   refine ⟨rfl,.tuple #[],by simp [results,go_sem],rfl,?_⟩
   rw [hV,TL.out]
   exact Heard1.from (HK3.out.ext ((zR.alloc _).alloc _)) HH.out
  ·have TL:=zd (tell_some (c:=x.c) hs)
   rw [show (⟨V.c,V.k,V.t⟩:Vd)=V from rfl,hs] at hsy
   simp only [Option.getD_some,Option.isSome_some] at hsy
   have HS:=zd hsy
   clear hsy hs
   go_wp2_with (first
    | (go_at_call 65;refine (HS.out _).mono ?_;rintro e W3 ⟨rfl,hx⟩;clear qx;have hx3:=HA.out.1.ext hx;have HX3:=zd hx3;have HO3:=zd (HA.out.2.1.ext hx);have HK3:=zd (HA.out.2.2.1.ext hx);unfold ExAt Ex.arr at hx3;have qx:=zQ hx3;have hm3:=heap_ext HA.out.2.2.2 hx;unfold Mv.arr at hm3;have qm:=zQ hm3;have lx3:gx<W3.heap.size:=(zL hx3);have lm3:w.heap.size<W3.heap.size:=(zL hm3);clear hx hx3 hm3)
    | (go_at_call 71;refine (mo_hears B gx _ { x with v:=V } v ⟨mk,who,mt,⟨4,lf,lc,lt,false⟩,lost⟩ ⟨lk',lf',lc',lt',lb'⟩ _ (HX3.out.ext ((zR.alloc _).alloc _)) (HO3.out.ext ((zR.alloc _).alloc _)) (heap_new (by simp)) hB (zT hBw (zT HK3.out.size ((zR.alloc _).alloc _).size)) hn).mono ?_;rintro e w4 ⟨rfl,hH⟩;have HH:=zd hH;clear hH))
   refine ⟨rfl,.tuple #[],by simp [results,go_sem],rfl,?_⟩
   rw [hV,TL.out]
   exact Heard1.from (HK3.out.ext ((zR.alloc _).alloc _)) HH.out
 ·have hV':V=x.v:=by rw [←hV];unfold askV;rw [if_neg (by rw [hf];simp)]
  go_upto_region 8 with fail
  refine wp_forget (fun w'=>Hid (ExAt w' gx { x with v:=V } v∧Own w' B x.h v∧Keeps (gx::rowB v) w w'∧w'.heap[w.heap.size]?=some (.cells (Mv.arr ⟨mk,who,mt,⟨4,lf,lc,lt,false⟩,lost⟩) 52 (0,0)))) (zd ⟨by rw [hV'];exact HX1.out,HO.out.ext HE1.out,(Keeps.refl _ w).ext HE1.out,HM1.out⟩) ?_
  rintro W2 HA
  clear h0 hV' qv lx1 lv1 fx HX1 HE1 HM1 hf
  clear qx
  have hA1:=HA.out.1
  unfold ExAt Ex.arr at hA1
  have qx:=zQ hA1
  clear hA1
  have hsy:=ve_says V.c V.k V.t
  unfold saysL at hsy
  rcases hs:saysS V with _|⟨lk',lf',lc',lt',lb'⟩
  ·have TL:=zd (tell_none (c:=x.c) hs)
   rw [show (⟨V.c,V.k,V.t⟩:Vd)=V from rfl,hs] at hsy
   unfold l0 at hsy
   simp only [Option.getD_none,Option.isSome_none] at hsy
   have HS:=zd hsy
   clear hsy hs
   go_wp2_with (first
    | (go_at_call 65;refine (HS.out _).mono ?_;rintro e W3 ⟨rfl,hx⟩;clear qx;have hx3:=HA.out.1.ext hx;have HX3:=zd hx3;have HO3:=zd (HA.out.2.1.ext hx);have HK3:=zd (HA.out.2.2.1.ext hx);unfold ExAt Ex.arr at hx3;have qx:=zQ hx3;have hm3:=heap_ext HA.out.2.2.2 hx;unfold Mv.arr at hm3;have qm:=zQ hm3;have lx3:gx<W3.heap.size:=(zL hx3);have lm3:w.heap.size<W3.heap.size:=(zL hm3);clear hx hx3 hm3)
    | (go_at_call 71;refine (mo_hears B gx _ { x with v:=V } v ⟨mk,who,mt,⟨4,lf,lc,lt,false⟩,lost⟩ ⟨7,0,x.c,{ data:=#[] },false⟩ _ (HX3.out.ext ((zR.alloc _).alloc _)) (HO3.out.ext ((zR.alloc _).alloc _)) (heap_new (by simp)) hB (zT hBw (zT HK3.out.size ((zR.alloc _).alloc _).size)) hn).mono ?_;rintro e w4 ⟨rfl,hH⟩;have HH:=zd hH;clear hH))
   refine ⟨rfl,.tuple #[],by simp [results,go_sem],rfl,?_⟩
   rw [hV,TL.out]
   exact Heard1.from (HK3.out.ext ((zR.alloc _).alloc _)) HH.out
  ·have TL:=zd (tell_some (c:=x.c) hs)
   rw [show (⟨V.c,V.k,V.t⟩:Vd)=V from rfl,hs] at hsy
   simp only [Option.getD_some,Option.isSome_some] at hsy
   have HS:=zd hsy
   clear hsy hs
   go_wp2_with (first
    | (go_at_call 65;refine (HS.out _).mono ?_;rintro e W3 ⟨rfl,hx⟩;clear qx;have hx3:=HA.out.1.ext hx;have HX3:=zd hx3;have HO3:=zd (HA.out.2.1.ext hx);have HK3:=zd (HA.out.2.2.1.ext hx);unfold ExAt Ex.arr at hx3;have qx:=zQ hx3;have hm3:=heap_ext HA.out.2.2.2 hx;unfold Mv.arr at hm3;have qm:=zQ hm3;have lx3:gx<W3.heap.size:=(zL hx3);have lm3:w.heap.size<W3.heap.size:=(zL hm3);clear hx hx3 hm3)
    | (go_at_call 71;refine (mo_hears B gx _ { x with v:=V } v ⟨mk,who,mt,⟨4,lf,lc,lt,false⟩,lost⟩ ⟨lk',lf',lc',lt',lb'⟩ _ (HX3.out.ext ((zR.alloc _).alloc _)) (HO3.out.ext ((zR.alloc _).alloc _)) (heap_new (by simp)) hB (zT hBw (zT HK3.out.size ((zR.alloc _).alloc _).size)) hn).mono ?_;rintro e w4 ⟨rfl,hH⟩;have HH:=zd hH;clear hH))
   refine ⟨rfl,.tuple #[],by simp [results,go_sem],rfl,?_⟩
   rw [hV,TL.out]
   exact Heard1.from (HK3.out.ext ((zR.alloc _).alloc _)) HH.out
theorem mo_askedB3 (B gx:Nat) (x:Ex) (v:Value) (mk who:Int) (mt:ByteArray) (lf lc:Int) (lt:ByteArray) (lb:Bool) (lost:Bool) (w:World) (hX:ExAt w gx x v) (hO:Own w B x.h v)
 (hB:gx<B) (hBw:B≤w.heap.size) (hn:x.h.length≤100000) :
 Calls Tryz.prog 69 #[.pointer (some ⟨gx,0,none⟩),.agg (Mv.arr ⟨mk,who,mt,⟨3,lf,lc,lt,lb⟩,lost⟩)] w fun e w'=>e = .returned (.tuple #[])∧Heard1 B gx { x with v:=askV x ⟨3,lf,lc,lt,lb⟩,h:=hearS x.h lost (tellS x.c (askV x ⟨3,lf,lc,lt,lb⟩)) } v w w':=by
 have hX':=hX
 unfold ExAt Ex.arr at hX'
 have qx:=zQ hX'
 have lx:gx<w.heap.size:=zL hX
 have HX:=zd hX
 have HO:=zd hO
 clear hX hX' hO
 unfold Mv.arr
 go_enter Tryz.func69,Tryz.ntmps69
 go_upto_region 6 with fail
 refine wp_forget (fun w'=>w'.heap[w.heap.size]?=some (.cells (Mv.arr ⟨mk,who,mt,⟨3,lf,lc,lt,lb⟩,lost⟩) 52 (0,0))∧w'.heap[w.heap.size+1]?=some (.cells #[.int .i64 3,.int .i64 lf,.int .u64 lc,.string lt,.bool lb] 24 (0,0))∧w'.heap[w.heap.size+1+1]?=some (.cells #[.int .u64 x.c,.int .i64 1,.string { data:=#[] }] 29 (0,0))∧Ext w w') (by first|exact three_new zR|exact three_new zR.drew) ?_
 rintro W1 ⟨h1,_,h2,e1⟩
 clear qx
 have hx1:=HX.out.ext e1
 have hx1':=hx1
 unfold ExAt Ex.arr at hx1'
 have qx:=zQ hx1'
 have fx:=zF hx1'
 have qv:=zQ h2
 have lx1:gx<W1.heap.size:=zL hx1
 have lv1:w.heap.size+1+1<W1.heap.size:=zL h2
 have HM1:=zd h1
 have HX1:=zd hx1
 have HE1:=zd e1
 clear h1 h2 hx1 hx1' e1
 have hv3:(x.v.k=0∧x.full=false)∨((x.v.k == 0)=false∧¬(x.v.k=0∧x.full=false))∨(x.v.k=0∧x.full=true):=by
  by_cases h0:x.v.k=0
  ·cases hf:x.full
   ·exact .inl ⟨h0,rfl⟩
   ·exact .inr (.inr ⟨h0,rfl⟩)
  ·exact .inr (.inl ⟨by simpa using h0,fun h=>h0 h.1⟩)
 generalize hV:askV x ⟨3,lf,lc,lt,lb⟩=V
 rcases hv3 with ⟨h0,hf⟩|⟨h0,hf⟩|⟨h0,hf⟩
 ·have hV':V=⟨x.c,1,{ data:=#[] }⟩:=by rw [←hV];unfold askV;rw [if_pos ⟨h0,hf⟩];rw [if_neg (by simp)]
  go_upto_region 8 with fail
  refine wp_forget (fun w'=>Hid (ExAt w' gx { x with v:=V } v∧Own w' B x.h v∧Keeps (gx::rowB v) w w'∧w'.heap[w.heap.size]?=some (.cells (Mv.arr ⟨mk,who,mt,⟨3,lf,lc,lt,lb⟩,lost⟩) 52 (0,0)))) (zd ⟨?g1,?g2,?g3,?g4⟩) ?gr
  case g1=>
   rw [hV']
   exact setCell_row (o:=21) (setCell_row (o:=20) (setCell_row (o:=19) HX1.out _) _) _
  case g2=>
   have o1:=own_ext HO.out HE1.out
   exact own_same (own_same (own_same o1 fun k hk _=>cell_other (o:=19) (v:=.int .u64 x.c) (show k≠gx by omega)) fun k hk _=>cell_other (o:=20) (v:=.int .i64 1) (show k≠gx by omega)) fun k hk _=>cell_other (o:=21) (v:=.string { data:=#[] }) (show k≠gx by omega)
  case g3=>exact ((((Keeps.refl _ w).ext HE1.out).setCell (.inl (.head _)) _ _).setCell (.inl (.head _)) _ _).setCell (.inl (.head _)) _ _
  case g4=>exact (cell_other (by omega)).trans ((cell_other (by omega)).trans ((cell_other (by omega)).trans HM1.out))
  rintro W2 HA
  clear h0 hV' qv lx1 lv1 fx HX1 HE1 HM1 hf
  clear qx
  have hA1:=HA.out.1
  unfold ExAt Ex.arr at hA1
  have qx:=zQ hA1
  clear hA1
  have hsy:=ve_says V.c V.k V.t
  unfold saysL at hsy
  rcases hs:saysS V with _|⟨lk',lf',lc',lt',lb'⟩
  ·have TL:=zd (tell_none (c:=x.c) hs)
   rw [show (⟨V.c,V.k,V.t⟩:Vd)=V from rfl,hs] at hsy
   unfold l0 at hsy
   simp only [Option.getD_none,Option.isSome_none] at hsy
   have HS:=zd hsy
   clear hsy hs
   go_wp2_with (first
    | (go_at_call 65;refine (HS.out _).mono ?_;rintro e W3 ⟨rfl,hx⟩;clear qx;have hx3:=HA.out.1.ext hx;have HX3:=zd hx3;have HO3:=zd (HA.out.2.1.ext hx);have HK3:=zd (HA.out.2.2.1.ext hx);unfold ExAt Ex.arr at hx3;have qx:=zQ hx3;have hm3:=heap_ext HA.out.2.2.2 hx;unfold Mv.arr at hm3;have qm:=zQ hm3;have lx3:gx<W3.heap.size:=(zL hx3);have lm3:w.heap.size<W3.heap.size:=(zL hm3);clear hx hx3 hm3)
    | (go_at_call 71;refine (mo_hears B gx _ { x with v:=V } v ⟨mk,who,mt,⟨3,lf,lc,lt,lb⟩,lost⟩ ⟨7,0,x.c,{ data:=#[] },false⟩ _ (HX3.out.ext ((zR.alloc _).alloc _)) (HO3.out.ext ((zR.alloc _).alloc _)) (heap_new (by simp)) hB (zT hBw (zT HK3.out.size ((zR.alloc _).alloc _).size)) hn).mono ?_;rintro e w4 ⟨rfl,hH⟩;have HH:=zd hH;clear hH))
   refine ⟨rfl,.tuple #[],by simp [results,go_sem],rfl,?_⟩
   rw [hV,TL.out]
   exact Heard1.from (HK3.out.ext ((zR.alloc _).alloc _)) HH.out
  ·have TL:=zd (tell_some (c:=x.c) hs)
   rw [show (⟨V.c,V.k,V.t⟩:Vd)=V from rfl,hs] at hsy
   simp only [Option.getD_some,Option.isSome_some] at hsy
   have HS:=zd hsy
   clear hsy hs
   go_wp2_with (first
    | (go_at_call 65;refine (HS.out _).mono ?_;rintro e W3 ⟨rfl,hx⟩;clear qx;have hx3:=HA.out.1.ext hx;have HX3:=zd hx3;have HO3:=zd (HA.out.2.1.ext hx);have HK3:=zd (HA.out.2.2.1.ext hx);unfold ExAt Ex.arr at hx3;have qx:=zQ hx3;have hm3:=heap_ext HA.out.2.2.2 hx;unfold Mv.arr at hm3;have qm:=zQ hm3;have lx3:gx<W3.heap.size:=(zL hx3);have lm3:w.heap.size<W3.heap.size:=(zL hm3);clear hx hx3 hm3)
    | (go_at_call 71;refine (mo_hears B gx _ { x with v:=V } v ⟨mk,who,mt,⟨3,lf,lc,lt,lb⟩,lost⟩ ⟨lk',lf',lc',lt',lb'⟩ _ (HX3.out.ext ((zR.alloc _).alloc _)) (HO3.out.ext ((zR.alloc _).alloc _)) (heap_new (by simp)) hB (zT hBw (zT HK3.out.size ((zR.alloc _).alloc _).size)) hn).mono ?_;rintro e w4 ⟨rfl,hH⟩;have HH:=zd hH;clear hH))
   refine ⟨rfl,.tuple #[],by simp [results,go_sem],rfl,?_⟩
   rw [hV,TL.out]
   exact Heard1.from (HK3.out.ext ((zR.alloc _).alloc _)) HH.out
 ·have hV':V=x.v:=by rw [←hV];unfold askV;rw [if_neg hf]
  clear hf
  go_upto_region 8 with fail
  refine wp_forget (fun w'=>Hid (ExAt w' gx { x with v:=V } v∧Own w' B x.h v∧Keeps (gx::rowB v) w w'∧w'.heap[w.heap.size]?=some (.cells (Mv.arr ⟨mk,who,mt,⟨3,lf,lc,lt,lb⟩,lost⟩) 52 (0,0)))) (zd ⟨by rw [hV'];exact HX1.out,HO.out.ext HE1.out,(Keeps.refl _ w).ext HE1.out,HM1.out⟩) ?_
  rintro W2 HA
  clear h0 hV' qv lx1 lv1 fx HX1 HE1 HM1
  clear qx
  have hA1:=HA.out.1
  unfold ExAt Ex.arr at hA1
  have qx:=zQ hA1
  clear hA1
  have hsy:=ve_says V.c V.k V.t
  unfold saysL at hsy
  rcases hs:saysS V with _|⟨lk',lf',lc',lt',lb'⟩
  ·have TL:=zd (tell_none (c:=x.c) hs)
   rw [show (⟨V.c,V.k,V.t⟩:Vd)=V from rfl,hs] at hsy
   unfold l0 at hsy
   simp only [Option.getD_none,Option.isSome_none] at hsy
   have HS:=zd hsy
   clear hsy hs
   go_wp2_with (first
    | (go_at_call 65;refine (HS.out _).mono ?_;rintro e W3 ⟨rfl,hx⟩;clear qx;have hx3:=HA.out.1.ext hx;have HX3:=zd hx3;have HO3:=zd (HA.out.2.1.ext hx);have HK3:=zd (HA.out.2.2.1.ext hx);unfold ExAt Ex.arr at hx3;have qx:=zQ hx3;have hm3:=heap_ext HA.out.2.2.2 hx;unfold Mv.arr at hm3;have qm:=zQ hm3;have lx3:gx<W3.heap.size:=(zL hx3);have lm3:w.heap.size<W3.heap.size:=(zL hm3);clear hx hx3 hm3)
    | (go_at_call 71;refine (mo_hears B gx _ { x with v:=V } v ⟨mk,who,mt,⟨3,lf,lc,lt,lb⟩,lost⟩ ⟨7,0,x.c,{ data:=#[] },false⟩ _ (HX3.out.ext ((zR.alloc _).alloc _)) (HO3.out.ext ((zR.alloc _).alloc _)) (heap_new (by simp)) hB (zT hBw (zT HK3.out.size ((zR.alloc _).alloc _).size)) hn).mono ?_;rintro e w4 ⟨rfl,hH⟩;have HH:=zd hH;clear hH))
   refine ⟨rfl,.tuple #[],by simp [results,go_sem],rfl,?_⟩
   rw [hV,TL.out]
   exact Heard1.from (HK3.out.ext ((zR.alloc _).alloc _)) HH.out
  ·have TL:=zd (tell_some (c:=x.c) hs)
   rw [show (⟨V.c,V.k,V.t⟩:Vd)=V from rfl,hs] at hsy
   simp only [Option.getD_some,Option.isSome_some] at hsy
   have HS:=zd hsy
   clear hsy hs
   go_wp2_with (first
    | (go_at_call 65;refine (HS.out _).mono ?_;rintro e W3 ⟨rfl,hx⟩;clear qx;have hx3:=HA.out.1.ext hx;have HX3:=zd hx3;have HO3:=zd (HA.out.2.1.ext hx);have HK3:=zd (HA.out.2.2.1.ext hx);unfold ExAt Ex.arr at hx3;have qx:=zQ hx3;have hm3:=heap_ext HA.out.2.2.2 hx;unfold Mv.arr at hm3;have qm:=zQ hm3;have lx3:gx<W3.heap.size:=(zL hx3);have lm3:w.heap.size<W3.heap.size:=(zL hm3);clear hx hx3 hm3)
    | (go_at_call 71;refine (mo_hears B gx _ { x with v:=V } v ⟨mk,who,mt,⟨3,lf,lc,lt,lb⟩,lost⟩ ⟨lk',lf',lc',lt',lb'⟩ _ (HX3.out.ext ((zR.alloc _).alloc _)) (HO3.out.ext ((zR.alloc _).alloc _)) (heap_new (by simp)) hB (zT hBw (zT HK3.out.size ((zR.alloc _).alloc _).size)) hn).mono ?_;rintro e w4 ⟨rfl,hH⟩;have HH:=zd hH;clear hH))
   refine ⟨rfl,.tuple #[],by simp [results,go_sem],rfl,?_⟩
   rw [hV,TL.out]
   exact Heard1.from (HK3.out.ext ((zR.alloc _).alloc _)) HH.out
 ·have hV':V=x.v:=by rw [←hV];unfold askV;rw [if_neg (by rw [hf];simp)]
  go_upto_region 8 with fail
  refine wp_forget (fun w'=>Hid (ExAt w' gx { x with v:=V } v∧Own w' B x.h v∧Keeps (gx::rowB v) w w'∧w'.heap[w.heap.size]?=some (.cells (Mv.arr ⟨mk,who,mt,⟨3,lf,lc,lt,lb⟩,lost⟩) 52 (0,0)))) (zd ⟨by rw [hV'];exact HX1.out,HO.out.ext HE1.out,(Keeps.refl _ w).ext HE1.out,HM1.out⟩) ?_
  rintro W2 HA
  clear h0 hV' qv lx1 lv1 fx HX1 HE1 HM1 hf
  clear qx
  have hA1:=HA.out.1
  unfold ExAt Ex.arr at hA1
  have qx:=zQ hA1
  clear hA1
  have hsy:=ve_says V.c V.k V.t
  unfold saysL at hsy
  rcases hs:saysS V with _|⟨lk',lf',lc',lt',lb'⟩
  ·have TL:=zd (tell_none (c:=x.c) hs)
   rw [show (⟨V.c,V.k,V.t⟩:Vd)=V from rfl,hs] at hsy
   unfold l0 at hsy
   simp only [Option.getD_none,Option.isSome_none] at hsy
   have HS:=zd hsy
   clear hsy hs
   go_wp2_with (first
    | (go_at_call 65;refine (HS.out _).mono ?_;rintro e W3 ⟨rfl,hx⟩;clear qx;have hx3:=HA.out.1.ext hx;have HX3:=zd hx3;have HO3:=zd (HA.out.2.1.ext hx);have HK3:=zd (HA.out.2.2.1.ext hx);unfold ExAt Ex.arr at hx3;have qx:=zQ hx3;have hm3:=heap_ext HA.out.2.2.2 hx;unfold Mv.arr at hm3;have qm:=zQ hm3;have lx3:gx<W3.heap.size:=(zL hx3);have lm3:w.heap.size<W3.heap.size:=(zL hm3);clear hx hx3 hm3)
    | (go_at_call 71;refine (mo_hears B gx _ { x with v:=V } v ⟨mk,who,mt,⟨3,lf,lc,lt,lb⟩,lost⟩ ⟨7,0,x.c,{ data:=#[] },false⟩ _ (HX3.out.ext ((zR.alloc _).alloc _)) (HO3.out.ext ((zR.alloc _).alloc _)) (heap_new (by simp)) hB (zT hBw (zT HK3.out.size ((zR.alloc _).alloc _).size)) hn).mono ?_;rintro e w4 ⟨rfl,hH⟩;have HH:=zd hH;clear hH))
   refine ⟨rfl,.tuple #[],by simp [results,go_sem],rfl,?_⟩
   rw [hV,TL.out]
   exact Heard1.from (HK3.out.ext ((zR.alloc _).alloc _)) HH.out
  ·have TL:=zd (tell_some (c:=x.c) hs)
   rw [show (⟨V.c,V.k,V.t⟩:Vd)=V from rfl,hs] at hsy
   simp only [Option.getD_some,Option.isSome_some] at hsy
   have HS:=zd hsy
   clear hsy hs
   go_wp2_with (first
    | (go_at_call 65;refine (HS.out _).mono ?_;rintro e W3 ⟨rfl,hx⟩;clear qx;have hx3:=HA.out.1.ext hx;have HX3:=zd hx3;have HO3:=zd (HA.out.2.1.ext hx);have HK3:=zd (HA.out.2.2.1.ext hx);unfold ExAt Ex.arr at hx3;have qx:=zQ hx3;have hm3:=heap_ext HA.out.2.2.2 hx;unfold Mv.arr at hm3;have qm:=zQ hm3;have lx3:gx<W3.heap.size:=(zL hx3);have lm3:w.heap.size<W3.heap.size:=(zL hm3);clear hx hx3 hm3)
    | (go_at_call 71;refine (mo_hears B gx _ { x with v:=V } v ⟨mk,who,mt,⟨3,lf,lc,lt,lb⟩,lost⟩ ⟨lk',lf',lc',lt',lb'⟩ _ (HX3.out.ext ((zR.alloc _).alloc _)) (HO3.out.ext ((zR.alloc _).alloc _)) (heap_new (by simp)) hB (zT hBw (zT HK3.out.size ((zR.alloc _).alloc _).size)) hn).mono ?_;rintro e w4 ⟨rfl,hH⟩;have HH:=zd hH;clear hH))
   refine ⟨rfl,.tuple #[],by simp [results,go_sem],rfl,?_⟩
   rw [hV,TL.out]
   exact Heard1.from (HK3.out.ext ((zR.alloc _).alloc _)) HH.out
theorem mo_asked (B gx:Nat) (x:Ex) (v:Value) (m:Mv) (w:World) (hX:ExAt w gx x v) (hO:Own w B x.h v) (hB:gx<B) (hBw:B≤w.heap.size) (hn:x.h.length≤100000) :
 Calls Tryz.prog 69 #[.pointer (some ⟨gx,0,none⟩),.agg m.arr] w fun e w'=>e = .returned (.tuple #[])∧Heard1 B gx (askX x m) v w w':=by
 by_cases h:(m.l.k=4∧m.l.b=false)∨m.l.k=3
 ·rw [askX_do h]
  obtain ⟨mk,who,mt,⟨lk,lf,lc,lt,lb⟩,lost⟩:=m
  simp only at h
  rcases h with ⟨rfl,rfl⟩|rfl
  ·exact mo_askedB4 B gx x v mk who mt lf lc lt lost w hX hO hB hBw hn
  ·exact mo_askedB3 B gx x v mk who mt lf lc lt lb lost w hX hO hB hBw hn
 ·rw [askX_no h]
  exact (mo_asked0 gx x v m w hX h).mono fun e w' h=>⟨h.1,heard_same hX hO h.2⟩
theorem arr_one (x:Ex) {v:Value} (h:v.oneCell'=true):(x.arr v).all (·.oneCell')=true:=by
 simp [Ex.arr,Value.oneCell'] at h ⊢
 exact h
theorem own_slice {w:World} {B:Nat} {h:List Lt} {v:Value} (o:Own w B h v) : ∃ a n c,v = .slice a n c:=by
 rcases own_nil_or o with hv|⟨a,n,c,hv⟩
 ·exact ⟨_,_,_,hv⟩
 ·exact ⟨_,_,_,hv⟩
theorem keeps_ext {X:List Nat} {w a b:World} (h:Ext w a) (k:Keeps X a b) (hX : ∀ g∈X,w.heap.size≤g):Ext w b:=
 ⟨k.os.trans h.os,k.tape.trans h.tape,k.output.trans h.output,zT h.size k.size,fun i hi=>(k.block i (zU hi h.size) fun he=>absurd (hX i he) (by omega)).trans (h.block i hi)⟩
theorem own_rowB {w:World} {B:Nat} {h:List Lt} {v:Value} (o:Own w B h v) : ∀ g∈rowB v,B≤g∧g<w.heap.size:=by
 intro g hg
 rcases o.2 with ⟨hv,_⟩|⟨g',cap,cur,hv,hb,hg',_⟩
 ·subst hv;simp [rowB,Value.ownBlock] at hg
 ·subst hv
  simp only [rowB,Value.ownBlock,List.mem_singleton] at hg
  subst hg
  exact ⟨hb,(zL hg')⟩
theorem mo_new (c:Int) (w:World):Calls Tryz.prog 26 #[.int .u64 c] w fun e w'=>e = .returned (.agg ((newX c).arr (.slice none 0 0)))∧Ext w w':=by
 go_enter Tryz.func26,Tryz.ntmps26
 go_wp2_with (first
  | (go_at_call 49;refine (or_new _ _).mono ?_;rintro e w1 ⟨rfl,hx⟩;obtain ⟨x1,rfl⟩:=ext_of hx;clear hx)
  | (go_at_call 50;refine (an_new _ _).mono ?_;rintro e w1 ⟨rfl,hx⟩;obtain ⟨x2,rfl⟩:=ext_of hx;clear hx)
  | (refine wpList_store_row rfl 33 _ _ rfl _ _ rfl rfl 33 _ (heap_ext (heap_new rfl) (x1.ext.trans x2.ext)) info_ex rfl (by simp [Value.oneCell']) ?_))
 exact bodyPost_ret (results_cell_row rfl _ _ _ _ _ (0,0) _ rfl (setRow_heap _ _ _ _ _ _ (heap_ext (heap_new rfl) (x1.ext.trans x2.ext))) zu33 rfl info_ex) rfl ⟨rfl,Ext.setRow (((zR.alloc _).val x1).val x2) (by omega) _⟩
structure At4 (w W:World) (B gy ge:Nat) (x:Ex) (m:Mv) (v v1:Value) (zs:Array Value):Prop where
 hx:ExAt W w.heap.size x v
 hm:W.heap[w.heap.size+1]?=some (.cells m.arr 52 (0,0))
 hr:W.heap[w.heap.size+1+1]?=some (.cells zs 33 (0,0))
 hy:ExAt W gy x v1
 ho:Own W B x.h v1
 he:W.heap[ge]?=some (.cells #[.int .i64 0,.int .u64 x.c,.string { data:=#[] },.int .i64 0,.int .i64 0,.int .u64 0,.string { data:=#[] },.bool false] 102 (0,0))
 ext:Ext w W
 hgy:w.heap.size+1+1<gy
 hB:gy<B
 hge:B≤ge
 hgr : ∀ g∈rowB v1,g<ge
 hn:zs.size=26
theorem info_mv:(Tryz.prog.info? 52).map (·.size)=some 9:=by kernel_rfl
def Stpd (w:World) (y:Ex) (ok:Bool) (e:Ending) (w':World):Prop:=
 ∃ v',e = .returned (.tuple #[.agg (y.arr v'),.bool ok])∧Own w' w.heap.size y.h v'∧Ext w w'
structure At8 (w W:World) (B gy ge:Nat) (x:Ex) (m:Mv) (v v1:Value) (zs ev:Array Value):Prop where
 hx:ExAt W w.heap.size x v
 hm:W.heap[w.heap.size+1]?=some (.cells m.arr 52 (0,0))
 hr:W.heap[w.heap.size+1+1]?=some (.cells zs 33 (0,0))
 hy:ExAt W gy x v1
 ho:Own W B x.h v1
 he:W.heap[ge]?=some (.cells ev 102 (0,0))
 ext:Ext w W
 hgy:w.heap.size+1+1<gy
 hB:gy<B
 hge:B≤ge
 hn:zs.size=26
theorem own_keepB {w w':World} {B:Nat} {h:List Lt} {v:Value} (o:Own w B h v) (hk : ∀ g∈rowB v,w'.heap[g]?=w.heap[g]?):Own w' B h v:=by
 refine ⟨o.1,o.2.imp id ?_⟩
 rintro ⟨g,cap,cur,hv,hb,hg,r⟩
 exact ⟨g,cap,cur,hv,hb,by rw [hk g (by rw [hv];simp [rowB,Value.ownBlock])];exact hg,r⟩
theorem At4.ext' {w W W':World} {B gy ge:Nat} {x:Ex} {m:Mv} {v v1:Value} {zs:Array Value} (a:At4 w W B gy ge x m v v1 zs) (e:Ext W W'):At4 w W' B gy ge x m v v1 zs:=
 ⟨a.hx.ext e,heap_ext a.hm e,heap_ext a.hr e,a.hy.ext e,a.ho.ext e,heap_ext a.he e,a.ext.trans e,a.hgy,a.hB,a.hge,a.hgr,a.hn⟩
theorem At4.to8 {w W W':World} {B gy ge:Nat} {x:Ex} {m:Mv} {v v1:Value} {zs ev:Array Value} (a:At4 w W B gy ge x m v v1 zs) (k:Keeps [ge] W W') (he:W'.heap[ge]?=some (.cells ev 102 (0,0))):At8 w W' B gy ge x m v v1 zs ev:=by
 have h1:=a.hgy
 have h2:=a.hB
 have h3:=a.hge
 have hb : ∀ {g:Nat} {o:Obj},W.heap[g]?=some o→g≠ge→W'.heap[g]?=some o:=fun {g o} hg hne=>(k.block g (zL hg) (by simpa using hne)).trans hg
 refine ⟨hb a.hx (by omega),hb a.hm (by omega),hb a.hr (by omega),hb a.hy (by omega),own_keepB a.ho fun g hg=>?_,he,keeps_ext a.ext k (by simp only [List.mem_singleton];omega),h1,h2,h3,a.hn⟩
 exact k.block g (own_rowB a.ho g hg).2 (by have:=a.hgr g hg;simp only [List.mem_singleton];omega)
structure But (g:Nat) (w w':World):Prop where
 os:w'.os=w.os
 tape:w'.tape=w.tape
 output:w'.output=w.output
 size:w'.heap.size=w.heap.size
 block : ∀ k,k≠g→w'.heap[k]?=w.heap[k]?
theorem But.refl (g:Nat) (w:World):But g w w:=⟨rfl,rfl,rfl,rfl,fun _ _=>rfl⟩
theorem But.setCell {g:Nat} {w w':World} (h:But g w w') (o:Nat) (v:Value):But g w (w'.setCell ⟨g,o,none⟩ v):=
 ⟨h.os,h.tape,h.output,by simpa [World.setCell] using h.size,fun k hk=>(cell_other hk).trans (h.block k hk)⟩
theorem But.ext {g:Nat} {a w w':World} (h:But g w w') (e:Ext a w) (hg:a.heap.size≤g):Ext a w':=
 ⟨h.os.trans e.os,h.tape.trans e.tape,h.output.trans e.output,h.size ▸ e.size,fun k hk=>(h.block k (by omega)).trans (e.block k hk)⟩
theorem stepP_len (who:Int) (s:St) (e:Ev):(stepP who s e).2.length≤1:=by
 unfold stepP
 split
 ·have:=edge_o s e
  generalize stepS s e=r at this ⊢
  cases this<;>simp
 ·have:=edge_a s e
  generalize stepA s e=r at this ⊢
  cases this<;>simp
theorem one_new {w w1:World} {A:Obj} (hx:Ext (w.alloc A) w1):w1.heap[w.heap.size]?=some A∧Ext w w1:=
 ⟨heap_ext (heap_new rfl) hx,(zR.alloc _).trans hx⟩
theorem mo_final (x:Ex) (v:Value) (who:Int) (w:World) (hw:who=0∨who=1):Calls Tryz.prog 36 #[.agg (x.arr v),.int .i64 who] w fun e w'=>e = .returned (.bool (finX x who))∧Ext w w':=by
 rcases hw with rfl|rfl
 ·have hF:finX x 0=finS x.s0:=rfl
  rw [hF]
  have hO:=fun w=>or_final x.s0.r x.s0.c x.s0.t x.s0.ph x.s0.p.k x.s0.p.f x.s0.p.c x.s0.p.t x.s0.p.b w
  have HO:=zd hO
  clear hO hF
  go_enter Tryz.func36,Tryz.ntmps36
  go_upto_region 1 with fail
  refine wp_forget (fun w'=>ExAt w' w.heap.size x v∧Ext w w') (one_new zR) ?_
  rintro W1 ⟨h1,x1⟩
  unfold ExAt Ex.arr at h1
  have q1:=zQ h1
  have l1:w.heap.size<W1.heap.size:=zL h1
  have HX1:=zd x1
  clear x1 h1
  go_wp2_with (go_at_call 62;refine (HO.out _).mono ?_;rintro e w1 ⟨rfl,hx⟩;have HX:=zd hx;clear hx)
  go_ret
  exact ⟨rfl,HX1.out.trans HX.out⟩
 ·have hF:finX x 1=finA x.s1:=rfl
  rw [hF]
  have hO:=fun w=>an_final x.s1.r x.s1.c x.s1.t x.s1.ph x.s1.p.k x.s1.p.f x.s1.p.c x.s1.p.t x.s1.p.b w
  have HO:=zd hO
  clear hO hF
  go_enter Tryz.func36,Tryz.ntmps36
  go_upto_region 1 with fail
  refine wp_forget (fun w'=>ExAt w' w.heap.size x v∧Ext w w') (one_new zR) ?_
  rintro W1 ⟨h1,x1⟩
  unfold ExAt Ex.arr at h1
  have q1:=zQ h1
  have l1:w.heap.size<W1.heap.size:=zL h1
  have HX1:=zd x1
  clear x1 h1
  go_wp2_with (go_at_call 63;refine (HO.out _).mono ?_;rintro e w1 ⟨rfl,hx⟩;have HX:=zd hx;clear hx)
  go_ret
  exact ⟨rfl,HX1.out.trans HX.out⟩
theorem rf_heard (x:Ex) (v:Value) (l:Lt) (w:World) (hR:Hrd w x v):Calls Tryz.prog 35 #[.agg (x.arr v),.agg #[.int .i64 l.k,.int .i64 l.f,.int .u64 l.c,.string l.t,.bool l.b]] w fun e w'=>e = .returned (.bool (decide (l∈x.h)))∧Ext w w':=by
 obtain ⟨a,cap,rfl,hm,hvw⟩:=row_view hR
 have HV:=zd hvw
 clear hvw hR
 unfold maxLen at hm
 generalize hL:x.h=L at HV hm ⊢
 go_enter Tryz.func35,Tryz.ntmps35
 go_upto_region 1 with fail
 refine wp_forget (fun w'=>ExAt w' w.heap.size x (.slice a L.length cap)∧LtAt w' (w.heap.size+1) l∧Ext w w') (two_new zR) ?_
 rintro W1 ⟨h1,h2,x1⟩
 unfold ExAt Ex.arr at h1
 unfold LtAt at h2
 have c1:=zQ h1
 have c2:=zQ h2
 have l1:w.heap.size<W1.heap.size:=zL h1
 have l2:w.heap.size+1<W1.heap.size:=zL h2
 have X1:=zd x1
 clear h1 h2 x1 hL
 go_wp2_with fail
 go_loopg [5] L.length (fun g ii wr=>∃ (n:Nat) (y:ExtOf W1),ii = .int .i64 (n:Int)∧n+g=L.length∧wr=y.val∧Hid (∀ (j:Nat) z,j<n→L[j]?=some z→z≠l))
 case atStart=>exact ⟨0,⟨W1,zR⟩,rfl,by omega,rfl,zd fun _ _ h=>by omega⟩
 case round=>
  obtain ⟨n,y,rfl,hg,rfl,HN⟩:=hrel
  by_cases hlt:n<L.length
  ·obtain ⟨g,off,rfl,hgl,hcell⟩:=HV.out (by omega)
   have hgl:=hgl (by omega)
   obtain ⟨z,hx⟩ : ∃ x,L[n]?=some x:=⟨_,zG hlt⟩
   obtain ⟨q0,q1,q2,q3,q4⟩:=lt_cellsO (fun j u hj=>cell_keep (hcell j u hj) X1.out) hx
   have HX:=zd hx
   have hgl1:g<W1.heap.size:=zU hgl X1.out.size
   clear hx hcell hgl
   have hlt':(n:Int)<(L.length:Int):=by omega
   by_cases he:z=l
   ·have he':lEq z.k z.f z.c z.t z.b l.k l.f l.c l.t l.b=true:=by rw [lEq_lt];simpa using he
    have HE:=zd he
    clear he
    go_wp2_with fail
    refine wp_region_ext (by kernel_rfl) (by kernel_rfl) ?_
    repeat (go_big_quiet_step (fail))
    refine wpQuiet_nil ?_
    intro _ hx'
    obtain ⟨z',rfl⟩:=hx'
    go_wp2_with fail
    go_ret
    refine ⟨?_,X1.out.trans (y.ext.val z')⟩
    rw [decide_eq_true (mem_of_get (HE.out ▸ HX.out))]
    rfl
   ·have he':lEq z.k z.f z.c z.t z.b l.k l.f l.c l.t l.b=false:=by rw [lEq_lt];simpa using he
    have HE:=zd he
    clear he
    go_wp2_with fail
    refine wp_region_ext (by kernel_rfl) (by kernel_rfl) ?_
    repeat (go_big_quiet_step (fail))
    refine wpQuiet_nil ?_
    intro _ hx'
    obtain ⟨z',rfl⟩:=hx'
    go_wp2_with fail
    go_roundg (gk - 1)
    case rel=>
     refine ⟨n+1,⟨z'.val,y.ext.val z'⟩,rfl,by omega,rfl,zd fun j u hj hu=>?_⟩
     by_cases hjn:j=n
     ·subst hjn
      rw [HX.out,Option.some.injEq] at hu
      rw [←hu]
      exact HE.out
     ·exact HN.out j u (by omega) hu
    case measure=>omega
  ·have hge:(L.length:Int)≤(n:Int):=by omega
   go_wp2_with fail
   go_ret
   refine ⟨?_,X1.out.val y⟩
   rw [decide_eq_false (not_mem_of_all fun j z hz=>HN.out j z (by have:=(zM hz);omega) hz)]
   rfl
def bindB (who:Int) (l:Lt):Bool:=(l.k == 2 && l.f == who) || l.k == 6
theorem boundX_eq (x:Ex) (who:Int):boundX x who=x.h.filter (bindB who):=rfl
theorem mo_bound (x:Ex) (v:Value) (who:Int) (w:World) (hR:Hrd w x v) (hn:x.h.length≤100000):Calls Tryz.prog 44 #[.agg (x.arr v),.int .i64 who] w fun e w'=>∃ a c,e = .returned (.slice a (boundX x who).length c)∧Ext w w':=by
 obtain ⟨i0,hi,hz0,hz1,hz2⟩:=info_parts info_letter
 obtain ⟨a,cap,rfl,hm,hvw⟩:=row_view hR
 have HV:=zd hvw
 clear hvw hR hm
 rw [boundX_eq]
 generalize hL:x.h=L at HV hn ⊢
 go_enter Tryz.func44,Tryz.ntmps44
 go_upto_region 1 with fail
 refine wp_forget (fun w'=>ExAt w' w.heap.size x (.slice a L.length cap)∧Ext w w') (one_new zR) ?_
 rintro W1 ⟨h1,x1⟩
 unfold ExAt Ex.arr at h1
 have c1:=zQ h1
 have l1:w.heap.size<W1.heap.size:=zL h1
 have X1:=zd x1
 clear h1 x1 hL
 go_wp2_with fail
 go_loopg [5,11] L.length (fun g l ii wr=>∃ (n:Nat) (M:List Lt) (y:ExtOf W1),ii = .int .i64 (n:Int)∧n+g=L.length∧wr=y.val∧Hid (M.length≤n∧M++(L.drop n).filter (bindB who)=L.filter (bindB who))∧Hid (Own wr W1.heap.size M l))
 case atStart=>exact ⟨0,[],⟨W1,zR⟩,rfl,by omega,rfl,zd ⟨by simp,by simp⟩,zd (World.ownsRow_nil _ _ _ _)⟩
 case round=>
  obtain ⟨n,M,y,rfl,hg,rfl,HN,HOwn⟩:=hrel
  by_cases hlt:n<L.length
  ·obtain ⟨g,off,rfl,hgl,hcell⟩:=HV.out (by omega)
   have hgl:=hgl (by omega)
   obtain ⟨z,hx⟩ : ∃ x,L[n]?=some x:=⟨_,zG hlt⟩
   obtain ⟨q0,q1,q2,q3,q4⟩:=lt_cellsO (fun j u hj=>cell_keep (hcell j u hj) X1.out) hx
   have HX:=zd hx
   have hgl1:g<W1.heap.size:=zU hgl X1.out.size
   clear hx hcell hgl
   have hlt':(n:Int)<(L.length:Int):=by omega
   have hMl:M.length≤n:=HN.out.1
   have hW1:W1.heap.size≤y.val.heap.size:=y.ext.size
   rcases h2:(z.k == 2)<;>rcases h3:(z.f == who)<;>rcases h6:(z.k == 6)
   all_goals
    have hbd:bindB who z=((z.k == 2 && z.f == who) || z.k == 6):=rfl
    rw [h2,h3,h6] at hbd
    have HB:=zd hbd
    clear hbd
    first
     | (exfalso;simp at h2 h6;omega)
     | skip
    try first
     | (have:((z.k == 2 && z.f == who) || z.k == 6)=false:=by rw [h2,h3,h6];rfl
        clear this
        go_wp2_with fail
        go_roundg (gk - 1)
        case rel=>
         refine ⟨n+1,M,⟨_,y.ext.alloc _⟩,rfl,by omega,rfl,zd ⟨by omega,?_⟩,zd (HOwn.out.ext (zR.alloc _))⟩
         have hh:=HN.out.2
         rw [List.drop_eq_getElem_cons hlt,List.filter_cons] at hh
         have hz:=(List.getElem?_eq_some_iff.1 HX.out).2
         rw [hz,HB.out] at hh
         simpa using hh
        case measure=>omega)
     | (go_wp2_with (at_builtin;refine wpList_app W1.heap.size 31 24 i0 _ 5 48 zu31 hi hz0 hz1 hz2 rfl (by decide) rfl _ _ rfl _ M.length _ rfl (own_ext HOwn.out (((Ext.refl y.val).alloc _).alloc _)) (zT y.ext.size (((Ext.refl y.val).alloc _).alloc _).size) (y.val.heap.size+1) 1 1 _ rfl (heap_new (by simp)) rfl (by simp [Value.oneCell']) (by unfold maxLen;omega) (by omega) ?_;intro v2 w2 hv2 hb2 _)
        go_roundg (gk - 1)
        case rel=>
         refine ⟨n+1,M++[z],⟨w2,((y.ext.alloc _).alloc _).trans' hb2⟩,rfl,by omega,rfl,zd ⟨by simp;omega,?_⟩,zd (by simpa [Own,Lt.cs] using hv2)⟩
         have hh:=HN.out.2
         rw [List.drop_eq_getElem_cons hlt,List.filter_cons] at hh
         have hz:=(List.getElem?_eq_some_iff.1 HX.out).2
         rw [hz,HB.out] at hh
         simpa using hh
        case measure=>omega)
  ·have hge:(L.length:Int)≤(n:Int):=by omega
   obtain ⟨ma,mc,rfl,_⟩:=own_view HOwn.out
   go_wp2_with fail
   go_ret
   refine ⟨ma,mc,?_,X1.out.val y⟩
   have:=HN.out.2
   rw [List.drop_eq_nil_of_le (by omega),List.filter_nil,List.append_nil] at this
   rw [←this]
   rfl
end Go.Proofs.YtlnmhocehgmbbaaGreatDoor

/- No condition. -/
import Derived.Test.YtlnmhocehgmbbaaGreatDoorWY21
set_option linter.all false
set_option maxRecDepth 100000
set_option maxHeartbeats 6400000
namespace Go.Proofs.YtlnmhocehgmbbaaGreatDoor
open Go.RowKit
attribute [local go_sem ↓] eql_lEq eql_sEq eql_eEq eql_oEq neq_lEq neq_sEq neq_eEq neq_oEq eql_vEq neq_vEq eql_nil
attribute [local go_sem] ExtOf.cell ExtOf.frozen ExtOf.lt ExtOf.le
attribute [local go_sem high] ExtOf.cell2 ExtOf.frozen2 ExtOf.lt2 ExtOf.cell3 ExtOf.frozen3 ExtOf.lt3
theorem frow_f {w:World} {B:Nat} {L:List (Fd×Value)} {lv:Value} {i:Nat} {p:Fd×Value} (h:FRow w B L lv) (hp:L[i]?=some p) :
 ∃ g cap,lv = .slice (some ⟨g,0,none⟩) L.length cap∧g<w.heap.size∧L.length≤maxLen∧w.rangeAt g (i*36) (fvC p):=by
 have hi:=zM hp
 obtain ⟨_,⟨_,h0⟩|⟨g,cap,cur,hv,hb,hg,hn,hm,hs,hx⟩⟩:=h
 ·omega
 refine ⟨g,cap,hv,(zL hg),by omega,fun j v hj=>?_⟩
 have hjl:j<36:=zM hj
 have h2:=flat_get fvC 36 fvC_len L i p hp j (by omega)
 rw [hj,←hx,List.getElem?_take_of_lt (by omega)] at h2
 rw [cell_of_row w g _ cur _ (0,0) hg]
 simpa using h2
theorem info_fdL (p:Fd×Value):(Tryz.prog.info? 88).map (·.size)=some (fvC p).length:=by
 rw [fvC_len]
 kernel_rfl
theorem info_fdA (p:Fd×Value):(Tryz.prog.info? 88).map (·.size)=some (fvC p).toArray.size:=by
 rw [List.size_toArray,fvC_len]
 kernel_rfl
theorem fd_one (p:Fd×Value) (h:p.2.oneCell'=true):(fvC p).toArray.all (·.oneCell')=true:=by
 rw [Array.all_eq_true']
 intro u hu
 exact fv_one p h u (by simpa using hu)
def exC (p:Ex×Value):List Value:=(p.1.arr p.2).toList
theorem exC_len (p:Ex×Value):(exC p).length=26:=rfl
def XRow (w:World) (B:Nat) (L:List (Ex×Value)) (v:Value):Prop:=w.ownsRow B 33 26 v L.length (L.flatMap exC)
theorem XRow.ext {w w':World} {B:Nat} {L:List (Ex×Value)} {v:Value} (h:XRow w B L v) (e:Ext w w'):XRow w' B L v:=own_ext h e
theorem xrow_one {w:World} {B:Nat} {L:List (Ex×Value)} {p:Ex×Value} {v:Value} {n:Nat} {xs:List Value} (h:w.ownsRow B 33 26 v n xs) (hn:n=L.length+1) (hx:xs=L.flatMap exC++exC p):XRow w B (L++[p]) v:=by
 subst hn hx
 unfold XRow
 rw [List.length_append,List.flatMap_append]
 simpa using h
def exZ1:Value:=.agg #[.int .u64 0,.int .i64 0,.int .u64 0,.string { data:=#[] },.int .i64 0,.int .i64 0,.int .i64 0,.int .u64 0,.string { data:=#[] },.bool false,.int .i64 0,.int .u64 0,.string { data:=#[] },.int .i64 0,.int .i64 0,.int .i64 0,.int .u64 0,.string { data:=#[] },.bool false,.int .u64 0,.int .i64 0,.string { data:=#[] },.bool false,.bool false,.bool false,.slice none 0 0]
theorem info_exZ:(Tryz.prog.info? 33).map (fun i=>(i.zero,i.size,i.bytes))=some (some exZ1,26,248):=by kernel_rfl
def fx (p:Fd×Value):Ex×Value:=(p.1.x,p.2)
theorem info_exL (p:Fd×Value):(Tryz.prog.info? 33).map (·.size)=some ([.int .u64 p.1.x.c,.int .i64 p.1.x.s0.r,.int .u64 p.1.x.s0.c,.string p.1.x.s0.t,.int .i64 p.1.x.s0.ph,.int .i64 p.1.x.s0.p.k,.int .i64 p.1.x.s0.p.f,.int .u64 p.1.x.s0.p.c,.string p.1.x.s0.p.t,.bool p.1.x.s0.p.b,.int .i64 p.1.x.s1.r,.int .u64 p.1.x.s1.c,.string p.1.x.s1.t,.int .i64 p.1.x.s1.ph,.int .i64 p.1.x.s1.p.k,.int .i64 p.1.x.s1.p.f,.int .u64 p.1.x.s1.p.c,.string p.1.x.s1.p.t,.bool p.1.x.s1.p.b,.int .u64 p.1.x.v.c,.int .i64 p.1.x.v.k,.string p.1.x.v.t,.bool p.1.x.b0,.bool p.1.x.b1,.bool p.1.x.full,p.2]:List Value).length:=info_ex
theorem ex_one1 (p:Fd×Value) (h:p.2.oneCell'=true) : ∀ u∈(exC (fx p)),u.oneCell'=true:=by
 intro u hu
 have:=arr_one p.1.x h
 rw [Array.all_eq_true'] at this
 exact this u (by simpa [exC,fx] using hu)
theorem mostR_le {r:Rg} (hm:r.m≤100):1≤mostR r∧mostR r≤100:=by
 unfold mostR
 omega
theorem all_le1 {most:Nat} {mv:Ex→List Mv} {x:Ex} (h:1≤most):(allX most mv x).1.length≤most:=outer_le _ _ _ (by simpa using h)
def AllP (w:World) (r:Rg) (x:Ex) (e:Ending) (w':World):Prop:=
 ∃ (L:List (Ex×Value)) (lv:Value),L.map (·.1)=(allX (mostR r) (movesR evsS · r) x).1∧e = .returned (.tuple #[lv,.bool (allX (mostR r) (movesR evsS · r) x).2])∧XRow w' w.heap.size L lv∧(∀ p∈L,(∃ B : {n // w.heap.size≤n},Own w' B.1 p.1.h p.2)∧RngX p.1∧p.1.h.length≤300)∧Ext w w'
theorem ex_all (x:Ex) (v:Value) (B0:Nat) (r:Rg) (tv:Value) (w:World) (hO:Own w B0 x.h v) (hn:x.h.length≤100) (hT:Row w 1 tv r.t.length (r.t.map Value.string)) (hTn:r.t.length≤1000) (hm:r.m≤100) (hx:RngX x) (htab:TabW w) :
 Calls Tryz.prog 11 #[.agg (x.arr v),.agg (r.arr tv)] w (AllP w r x):=by
 have hG:=fun w' (hw:Ext w w')=>go_all x v B0 r tv w' (hO.ext hw) hn (hT.ext hw) hTn hm hx (htab.ext hw)
 have HG:=zd hG
 clear hG hO hT hx htab
 go_enter Tryz.func11,Tryz.ntmps11
 go_upto_region 1 with fail
 refine wp_forget (fun w'=>∃ gx gr,Hid (gx=w.heap.size∧gr=w.heap.size+1)∧ExAt w' gx x v∧RgAt w' gr r tv∧Ext w w') ⟨_,_,zd ⟨rfl,rfl⟩,(two_new zR).1,(two_new zR).2.1,(two_new zR).2.2⟩ ?_
 rintro W1 ⟨gx,gr,hgx,h1,h2,x1⟩
 rw [←hgx.out.2,←hgx.out.1]
 have HX1:=zd h1
 have HR1:=zd h2
 have HE1:=zd x1
 clear hgx h1 h2 x1
 go_upto_region 2 with (first|((with_reducible refine wpList_load_rowG ?_ 33 (.tmp 2) ?_ gx ?_ 33 (x.arr v) (0,0) _ ?_ zu33 ?_ ?_ ?_);(·rfl);(·rfl);(·rfl);(·exact HX1.out);(·rfl);(·exact info_ex))|((with_reducible refine wpList_load_rowG ?_ 36 (.tmp 3) ?_ gr ?_ 36 (r.arr tv) (0,0) _ ?_ zu36 ?_ ?_ ?_);(·rfl);(·rfl);(·rfl);(·exact HR1.out);(·rfl);(·exact info_range))|(go_at_call 28;refine (HG.out _ HE1.out).mono ?_;rintro e w2 ⟨L,lv,hL,rfl,hfr,hok,hx2⟩))
 have hgn:=go_never (mostR r) (movesR evsS · r) x
 rw [←hL] at hgn
 rw [hgn.2]
 have HLM:Hid ((L.map fx).map (·.1)=(allX (mostR r) (movesR evsS · r) x).1):=zd (by rw [←hgn.1];simp [fx])
 have HFR:=zd hfr
 have HOK:=zd hok
 have HE2:=zd (HE1.out.trans hx2)
 obtain ⟨la,lc,rfl⟩:=own_sl hfr
 have hLm:L.length≤100:=by
  have h1:=all_le1 (mv:=(movesR evsS · r)) (x:=x) (mostR_le hm).1
  rw [←HLM.out,List.length_map,List.length_map] at h1
  exact zT h1 (mostR_le hm).2
 obtain ⟨i0,hi,hz0,hz1,hz2⟩:=info_parts info_exZ
 clear hL hfr hok hx2 hgn
 go_wp2_with fail
 go_loopg [9,21] L.length (fun g av ii wr=>∃ (i:Nat) (z:ExtOf w2),ii = .int .i64 (i:Int)∧i+g=L.length∧wr=z.val∧Hid (XRow wr w2.heap.size ((L.take i).map fx) av))
 case atStart=>exact ⟨0,⟨w2,zR⟩,rfl,by omega,rfl,zd (World.ownsRow_nil _ _ _ _)⟩
 case round=>
  obtain ⟨i,z,rfl,hg,rfl,HA⟩:=hrel
  by_cases hlt:i<L.length
  case neg=>
   have i1 : ¬(i:Int)<(L.length:Int):=by omega
   obtain ⟨aa,ac,hav⟩:=own_sl HA.out
   subst hav
   go_wp2_with fail
   refine ⟨rfl,.tuple #[.slice aa ((L.take i).map fx).length ac,.bool (allX (mostR r) (movesR evsS · r) x).2],by simp [results,go_sem],?_⟩
   have hA:=HA.out
   rw [List.take_of_length_le (by omega)] at hA ⊢
   refine ⟨L.map fx,_,HLM.out,rfl,own_base hA HE2.out.size,?_,HE2.out.trans z.ext⟩
   intro q hq
   obtain ⟨p,hp,rfl⟩:=List.mem_map.1 hq
   obtain ⟨⟨Bp,hop⟩,hpx⟩:=HOK.out p hp
   exact ⟨⟨⟨Bp.1,zT HE1.out.size Bp.2⟩,own_ext hop z.ext⟩,hpx⟩
  have i1:(i:Int)<(L.length:Int):=by omega
  obtain ⟨p,hp⟩ : ∃ p,L[i]?=some p:=⟨_,zG hlt⟩
  obtain ⟨g0,cap,hlv,hgl,hmx,hrg⟩:=frow_f HFR.out hp
  cases hlv
  unfold maxLen at hmx
  obtain ⟨⟨Bp,hop⟩,hpx⟩:=HOK.out p (zE hp)
  have hp1:p.2.oneCell'=true:=by obtain ⟨sa,sn,hsv⟩:=own_sl hop;rw [hsv];rfl
  have HP:=zd hp
  have HRG:=zd hrg
  clear hrg hp hop
  go_upto_region 6 with (first|((with_reducible refine wpList_load_midG 88 (.tmp 23) ?_ g0 (i*36) ?_ ?_ (fvC p) _ ?_ zu88 ?_ ?_ ?_);(·rfl);(·rfl);(·kernel_rfl);(·exact fun j v hj=>cell_keep (HRG.out j v hj) z.ext);(·rfl);(·exact info_fdL p))|(refine wpList_store_row rfl 88 _ _ rfl z.val.heap.size _ rfl rfl 88 _ (heap_new rfl) (info_fdA p) rfl (fd_one p hp1) ?_))
  have x5:Ext z.val _:=(((Ext.refl z.val).alloc (.cells #[.int .u64 0,.int .i64 0,.int .u64 0,.string { data:=#[] },.int .i64 0,.int .i64 0,.int .i64 0,.int .u64 0,.string { data:=#[] },.bool false,.int .i64 0,.int .u64 0,.string { data:=#[] },.int .i64 0,.int .i64 0,.int .i64 0,.int .u64 0,.string { data:=#[] },.bool false,.int .u64 0,.int .i64 0,.string { data:=#[] },.bool false,.bool false,.bool false,.slice none 0 0,.int .i64 0,.int .i64 0,.int .i64 0,.string { data:=#[] },.int .i64 0,.int .i64 0,.int .u64 0,.string { data:=#[] },.bool false,.bool false] 88)).setRow zN (fvC p).toArray)
  refine wp_forget (fun w'=>∃ (gf:Nat) (y:ExtOf w2),Hid (gf=z.val.heap.size)∧w'=y.val∧Hid (w'.heap[gf]?=some (.cells (fvC p).toArray 88 (0,0))∧XRow w' w2.heap.size ((L.take i).map fx) _)) ⟨z.val.heap.size,⟨_,z.ext.trans x5⟩,zd rfl,rfl,zd ⟨setRow_heap _ _ _ _ _ _ (heap_new rfl),HA.out.ext x5⟩⟩ ?_
  rintro W5 ⟨gf,y,HGF,rfl,H5⟩
  rw [←HGF.out]
  clear HGF x5 HRG HA hgl
  have hfx:y.val.rangeAt gf 0 [.int .u64 p.1.x.c,.int .i64 p.1.x.s0.r,.int .u64 p.1.x.s0.c,.string p.1.x.s0.t,.int .i64 p.1.x.s0.ph,.int .i64 p.1.x.s0.p.k,.int .i64 p.1.x.s0.p.f,.int .u64 p.1.x.s0.p.c,.string p.1.x.s0.p.t,.bool p.1.x.s0.p.b,.int .i64 p.1.x.s1.r,.int .u64 p.1.x.s1.c,.string p.1.x.s1.t,.int .i64 p.1.x.s1.ph,.int .i64 p.1.x.s1.p.k,.int .i64 p.1.x.s1.p.f,.int .u64 p.1.x.s1.p.c,.string p.1.x.s1.p.t,.bool p.1.x.s1.p.b,.int .u64 p.1.x.v.c,.int .i64 p.1.x.v.k,.string p.1.x.v.t,.bool p.1.x.b0,.bool p.1.x.b1,.bool p.1.x.full,p.2]:=fun j v hj=>by
   rw [Nat.zero_add,zQ H5.out.1 j]
   have hj':(exC (fx p))[j]?=some v:=hj
   have hjl:j<26:=zM hj'
   show (fvC p).toArray[j]?=some v
   rw [List.getElem?_toArray]
   unfold fvC
   rw [List.getElem?_append_left (by exact hjl)]
   exact hj'
  have HFX:=zd hfx
  have lgf:gf<y.val.heap.size:=zL H5.out.1
  have hLi:((L.take i).map fx).length≤100:=by simp;omega
  have HXR:=zd H5.out.2
  have HB5:=zd y.ext.size
  clear hfx H5
  go_wp2_with (first|((with_reducible refine wpList_load_midG 33 (.tmp 26) ?_ gf (0) ?_ ?_ [.int .u64 p.1.x.c,.int .i64 p.1.x.s0.r,.int .u64 p.1.x.s0.c,.string p.1.x.s0.t,.int .i64 p.1.x.s0.ph,.int .i64 p.1.x.s0.p.k,.int .i64 p.1.x.s0.p.f,.int .u64 p.1.x.s0.p.c,.string p.1.x.s0.p.t,.bool p.1.x.s0.p.b,.int .i64 p.1.x.s1.r,.int .u64 p.1.x.s1.c,.string p.1.x.s1.t,.int .i64 p.1.x.s1.ph,.int .i64 p.1.x.s1.p.k,.int .i64 p.1.x.s1.p.f,.int .u64 p.1.x.s1.p.c,.string p.1.x.s1.p.t,.bool p.1.x.s1.p.b,.int .u64 p.1.x.v.c,.int .i64 p.1.x.v.k,.string p.1.x.v.t,.bool p.1.x.b0,.bool p.1.x.b1,.bool p.1.x.full,p.2] _ ?_ zu33 ?_ ?_ ?_);(·rfl);(·rfl);(·kernel_rfl);(·exact HFX.out);(·rfl);(·exact info_exL p))|(at_builtin;refine wpList_app6 w2.heap.size 41 33 i0 _ 26 248 zu41 hi hz0 hz1 hz2 rfl (by decide) rfl _ _ rfl _ ((L.take i).map fx).length _ rfl (HXR.out.ext (zR.alloc _)) (zT HB5.out ((Ext.refl y.val).alloc _).size) y.val.heap.size 1 1 _ (by omega) rfl (heap_new rfl) rfl (ex_one1 p hp1) (by unfold maxLen;omega) (by omega) ?_;intro v2 w6 o6 b6 _ _))
  go_roundg (gk - 1)
  case rel=>
   refine ⟨i+1,⟨w6,(y.ext.alloc _).trans' b6⟩,rfl,by omega,rfl,zd ?_⟩
   rw [take_map _ HP.out]
   exact xrow_one o6 rfl rfl
  case measure=>omega
end Go.Proofs.YtlnmhocehgmbbaaGreatDoor

/- No condition. -/
import Derived.Test.YtlnmhocehgmbbaaGreatDoorWY13
import Derived.Test.YtlnmhocehgmbbaaGreatDoorWY16
set_option linter.all false
set_option maxRecDepth 100000
set_option maxHeartbeats 3200000
namespace Go.Proofs.YtlnmhocehgmbbaaGreatDoor
open Go.RowKit
attribute [local go_sem ↓] eql_lEq eql_sEq eql_eEq eql_oEq neq_lEq neq_sEq neq_eEq neq_oEq eql_vEq neq_vEq eql_nil
attribute [local go_sem] ExtOf.cell ExtOf.frozen ExtOf.lt ExtOf.le
attribute [local go_sem high] ExtOf.cell2 ExtOf.frozen2 ExtOf.lt2 ExtOf.cell3 ExtOf.frozen3 ExtOf.lt3
theorem hearS_len (h:List Lt) (b:Bool) (l:Lt):(hearS h b l).length≤h.length+1:=by
 unfold hearS
 split
 ·omega
 ·simp
theorem hearsS_len {h:List Lt} {b:Bool} {ls:List Lt} (hl:ls.length≤1):(hearsS h b ls).length≤h.length+1:=by
 rcases ls with _|⟨l,_|⟨l2,r⟩⟩
 ·simp [hearsS]
 ·exact hearS_len h b l
 ·simp at hl
theorem step_len (x:Ex) (m:Mv):(stepX x m).1.h.length≤x.h.length+1:=by
 unfold stepX
 split
 ·split
  ·show (askX x m).h.length≤_
   unfold askX
   split
   ·exact hearS_len _ _ _
   ·omega
  ·exact Nat.le_succ _
 ·split
  ·exact Nat.le_succ _
  ·split
   ·split
    ·show (if m.who=0 then { x with b0:=true } else { x with b1:=true }).h.length≤_
     split<;>exact Nat.le_succ _
    ·split
     ·split
      ·exact Nat.le_succ _
      ·show (partyX x m).h.length≤_
       unfold partyX
       split
       ·refine hearsS_len ?_
        rw [List.length_map]
        have:=edge_o x.s0 (evX x m)
        generalize stepS x.s0 (evX x m)=r at this ⊢
        cases this<;>simp
       ·refine hearsS_len ?_
        rw [List.length_map]
        have:=edge_a x.s1 (evX x m)
        generalize stepA x.s1 (evX x m)=r at this ⊢
        cases this<;>simp
     ·exact Nat.le_succ _
   ·exact Nat.le_succ _
def exZ:Array Value:=#[.int .u64 0,.int .i64 0,.int .u64 0,.string { data:=#[] },.int .i64 0,.int .i64 0,.int .i64 0,.int .u64 0,.string { data:=#[] },.bool false,.int .i64 0,.int .u64 0,.string { data:=#[] },.int .i64 0,.int .i64 0,.int .i64 0,.int .u64 0,.string { data:=#[] },.bool false,.int .u64 0,.int .i64 0,.string { data:=#[] },.bool false,.bool false,.bool false,.slice none 0 0]
def LayAt (B gl:Nat) (L:List Mv) (lv:Value) (w:World):Prop:=w.heap[gl]?=some (.cells #[lv] 48 (0,0))∧Own9 w B L lv
def Laid (B gl:Nat) (L':List Mv) (lv:Value) (w w':World):Prop:=∃ lv',LayAt B gl L' lv' w'∧Keeps (gl::rowB lv) w w'∧∀ g∈rowB lv',g∈rowB lv∨w.heap.size≤g
theorem LayAt.ext {B gl:Nat} {L:List Mv} {lv:Value} {w w':World} (h:LayAt B gl L lv w) (e:Ext w w'):LayAt B gl L lv w':=⟨heap_ext h.1 e,h.2.ext e⟩
theorem Laid.same {B gl:Nat} {L:List Mv} {lv:Value} {w w':World} (h:LayAt B gl L lv w) (e:Ext w w'):Laid B gl L lv w w':=⟨lv,h.ext e,(Keeps.refl _ w).ext e,fun _ hg=>.inl hg⟩
theorem Own.one {w:World} {B:Nat} {h:List Lt} {v:Value} (o:Own w B h v):v.oneCell'=true:=by
 rcases own_nil_or o with hv|⟨a,n,c,hv⟩<;>(rw [hv];rfl)
theorem Own9.one {w:World} {B:Nat} {h:List Mv} {v:Value} (o:Own9 w B h v):v.oneCell'=true:=by
 rcases own_nil_or o with hv|⟨a,n,c,hv⟩<;>(rw [hv];rfl)
theorem lay_no (x:Ex) (v:Value) (m:Mv) (gx gl B B0:Nat) (L:List Mv) (lv:Value) (w:World) (hX:ExAt w gx x v) (hO:Own w B0 x.h v) (hn:x.h.length≤1000) (hL:LayAt B gl L lv w) (y:Ex) (hT:stepX x m=(y,false)) :
 Calls Tryz.prog 57 #[.agg m.arr,.pointer (some ⟨gx,0,none⟩),.pointer (some ⟨gl,0,none⟩)] w fun e w'=>e = .returned (.bool false)∧Laid B gl L lv w w':=by
 have hS:=fun w' (hw:Ext w w')=>mo_Step x v m w' B0 (hO.ext hw) (by omega)
 rw [hT] at hS
 have HS:=zd hS
 have HXA:=zd hX
 have HO:=zd hO
 have HLA:=zd hL
 clear hS hT hX hO hL
 go_enter Tryz.func57,Tryz.ntmps57
 go_upto_region 1 with fail
 refine wp_forget (fun w'=>∃ gm,gm=w.heap.size∧w'.heap[gm]?=some (.cells m.arr 52 (0,0))∧Ext w w') ⟨_,rfl,(one_new zR).1,(one_new zR).2⟩ ?_
 rintro W1 ⟨gm,hgm,h1,x1⟩
 rw [←hgm]
 have HGM:Hid (w.heap.size≤gm):=zd (by omega)
 clear hgm
 have HM:=zd h1
 unfold Mv.arr at h1
 have q1:=zQ h1
 have l1:gm<W1.heap.size:=zL h1
 have HX1:=zd x1
 clear h1 x1
 go_upto_region 2 with (first|((with_reducible refine wpList_load_rowG ?_ 33 (.tmp 1) ?_ gx ?_ 33 (x.arr v) (0,0) _ ?_ zu33 ?_ ?_ ?_);(·rfl);(·rfl);(·rfl);(·exact HXA.out.ext HX1.out);(·rfl);(·exact info_ex))|(go_at_call 42;refine (HS.out _ HX1.out).mono ?_;rintro e w2 ⟨v',rfl,hy,hx2⟩;have HY:=zd hy;have HX2:=zd hx2;have HV1:=zd hy.one;clear hy hx2)|((with_reducible refine wpList_store_row ?_ 33 (.tmp 5) (.tmp 11) ?_ w2.heap.size (y.arr v') ?_ ?_ 33 exZ ?_ ?_ ?_ ?_ ?_);(·rfl);(·rfl);(·rfl);(·rfl);(·exact heap_new rfl);(·exact info_ex);(·rfl);(·exact arr_one y HV1.out)))
 refine wp_forget (fun w'=>∃ gy,gy=w2.heap.size∧w'.heap[gy]?=some (.cells (y.arr v') 33 (0,0))∧Ext w2 w') ⟨_,rfl,setRow_heap _ _ _ _ _ _ (heap_new rfl),((Ext.refl w2).alloc _).setRow zN _⟩ ?_
 rintro W2 ⟨gy,hgy,h2,x2⟩
 rw [←hgy]
 have HGY:Hid (w.heap.size≤gy):=zd (by have:=HX1.out.size;have:=HX2.out.size;omega)
 clear hgy q1 l1
 have HY2:=zd h2
 obtain ⟨a',cap',rfl,_,_⟩:=own_view HY.out
 obtain ⟨a0,cap0,rfl,_,_⟩:=own_view HO.out
 have hmv:=heap_ext (HM.out) (HX2.out.trans x2)
 unfold Mv.arr at hmv
 have qm:=zQ hmv
 have lm:gm<W2.heap.size:=zL hmv
 unfold Ex.arr at h2
 have q25:=zQ h2 25
 have ly:gy<W2.heap.size:=zL h2
 have hx3:=HX1.out.trans (HX2.out.trans x2)
 have hxa:=heap_ext HXA.out hx3
 have HXA2:=zd hxa
 unfold Ex.arr at hxa
 have qx25:=zQ hxa 25
 have lx:gx<W2.heap.size:=zL hxa
 have HLA2:=zd (HLA.out.ext hx3)
 have HOY:=zd (HY.out.ext x2)
 have hl2:=HLA2.out.1
 have ql:=zQ hl2 0
 have fl:=zF hl2 0
 have ll:gl<W2.heap.size:=zL hl2
 have HX3:=zd hx3
 clear hmv h2 hx3 hxa x2 HX2 hl2
 go_wp2_with fail
 go_ret
 exact ⟨rfl,Laid.same HLA.out HX3.out⟩
theorem lay_same (x:Ex) (v:Value) (m:Mv) (gx gl B B0:Nat) (L:List Mv) (lv:Value) (w:World) (hX:ExAt w gx x v) (hO:Own w B0 x.h v) (hn:x.h.length≤1000) (hL:LayAt B gl L lv w) (y:Ex) (hT:stepX x m=(y,true)) (hsame:sameX x y=true) :
 Calls Tryz.prog 57 #[.agg m.arr,.pointer (some ⟨gx,0,none⟩),.pointer (some ⟨gl,0,none⟩)] w fun e w'=>e = .returned (.bool (decide (x.h.length<y.h.length)))∧Laid B gl L lv w w':=by
 have hS:=fun w' (hw:Ext w w')=>mo_Step x v m w' B0 (hO.ext hw) (by omega)
 have hyl:=step_len x m
 rw [hT] at hS hyl
 have hyl':y.h.length≤x.h.length+1:=hyl
 have HS:=zd hS
 have HXA:=zd hX
 have HO:=zd hO
 have HLA:=zd hL
 clear hS hT hX hO hL hyl
 go_enter Tryz.func57,Tryz.ntmps57
 go_upto_region 1 with fail
 refine wp_forget (fun w'=>∃ gm,gm=w.heap.size∧w'.heap[gm]?=some (.cells m.arr 52 (0,0))∧Ext w w') ⟨_,rfl,(one_new zR).1,(one_new zR).2⟩ ?_
 rintro W1 ⟨gm,hgm,h1,x1⟩
 rw [←hgm]
 have HGM:Hid (w.heap.size≤gm):=zd (by omega)
 clear hgm
 have HM:=zd h1
 unfold Mv.arr at h1
 have q1:=zQ h1
 have l1:gm<W1.heap.size:=zL h1
 have HX1:=zd x1
 clear h1 x1
 go_upto_region 2 with (first|((with_reducible refine wpList_load_rowG ?_ 33 (.tmp 1) ?_ gx ?_ 33 (x.arr v) (0,0) _ ?_ zu33 ?_ ?_ ?_);(·rfl);(·rfl);(·rfl);(·exact HXA.out.ext HX1.out);(·rfl);(·exact info_ex))|(go_at_call 42;refine (HS.out _ HX1.out).mono ?_;rintro e w2 ⟨v',rfl,hy,hx2⟩;have HY:=zd hy;have HX2:=zd hx2;have HV1:=zd hy.one;clear hy hx2)|((with_reducible refine wpList_store_row ?_ 33 (.tmp 5) (.tmp 11) ?_ w2.heap.size (y.arr v') ?_ ?_ 33 exZ ?_ ?_ ?_ ?_ ?_);(·rfl);(·rfl);(·rfl);(·rfl);(·exact heap_new rfl);(·exact info_ex);(·rfl);(·exact arr_one y HV1.out)))
 refine wp_forget (fun w'=>∃ gy,gy=w2.heap.size∧w'.heap[gy]?=some (.cells (y.arr v') 33 (0,0))∧Ext w2 w') ⟨_,rfl,setRow_heap _ _ _ _ _ _ (heap_new rfl),((Ext.refl w2).alloc _).setRow zN _⟩ ?_
 rintro W2 ⟨gy,hgy,h2,x2⟩
 rw [←hgy]
 have HGY:Hid (w.heap.size≤gy):=zd (by have:=HX1.out.size;have:=HX2.out.size;omega)
 clear hgy q1 l1
 have HY2:=zd h2
 obtain ⟨a',cap',rfl,_,_⟩:=own_view HY.out
 obtain ⟨a0,cap0,rfl,_,_⟩:=own_view HO.out
 have hmv:=heap_ext (HM.out) (HX2.out.trans x2)
 unfold Mv.arr at hmv
 have qm:=zQ hmv
 have lm:gm<W2.heap.size:=zL hmv
 unfold Ex.arr at h2
 have q25:=zQ h2 25
 have ly:gy<W2.heap.size:=zL h2
 have hx3:=HX1.out.trans (HX2.out.trans x2)
 have hxa:=heap_ext HXA.out hx3
 have HXA2:=zd hxa
 unfold Ex.arr at hxa
 have qx25:=zQ hxa 25
 have lx:gx<W2.heap.size:=zL hxa
 have HLA2:=zd (HLA.out.ext hx3)
 have HOY:=zd (HY.out.ext x2)
 have hl2:=HLA2.out.1
 have ql:=zQ hl2 0
 have fl:=zF hl2 0
 have ll:gl<W2.heap.size:=zL hl2
 have HX3:=zd hx3
 clear hmv h2 hx3 hxa x2 HX2 hl2
 have hSA:=fun w' (hw:Ext W2 w')=>mo_same x y (.slice a0 x.h.length cap0) (.slice a' y.h.length cap') w' _ (Row.of_own ((HO.out.ext HX3.out).ext hw)) (HOY.out.ext hw) (by omega)
 simp only [hsame] at hSA
 have HSA:=zd hSA
 clear hSA
 by_cases hgt:x.h.length<y.h.length
 ·have hgt':(x.h.length:Int)<(y.h.length:Int):=by omega
  have HGT:=zd hgt
  clear hgt
  go_wp2_with (first|((with_reducible refine wpList_load_rowG ?_ 33 (.tmp 1) ?_ gx ?_ 33 (x.arr (.slice a0 x.h.length cap0)) (0,0) _ ?_ zu33 ?_ ?_ ?_);(·rfl);(·rfl);(·rfl);(·exact heap_ext HXA2.out zR);(·rfl);(·exact info_ex))|((with_reducible refine wpList_load_rowG ?_ 33 (.tmp 5) ?_ gy ?_ 33 (y.arr (.slice a' y.h.length cap')) (0,0) _ ?_ zu33 ?_ ?_ ?_);(·rfl);(·rfl);(·rfl);(·exact heap_ext HY2.out zR);(·rfl);(·exact info_ex))|(go_at_call 55;refine (HSA.out _ zR).mono ?_;rintro e w3 ⟨rfl,hx⟩;obtain ⟨z3,rfl⟩:=ext_of hx;clear hx))
  go_ret
  exact ⟨by rw [decide_eq_true HGT.out];rfl,Laid.same HLA.out (HX3.out.trans z3.ext)⟩
 ·have hgt' : ¬(x.h.length:Int)<(y.h.length:Int):=by omega
  have HGT:=zd hgt
  clear hgt
  go_wp2_with (first|((with_reducible refine wpList_load_rowG ?_ 33 (.tmp 1) ?_ gx ?_ 33 (x.arr (.slice a0 x.h.length cap0)) (0,0) _ ?_ zu33 ?_ ?_ ?_);(·rfl);(·rfl);(·rfl);(·exact heap_ext HXA2.out zR);(·rfl);(·exact info_ex))|((with_reducible refine wpList_load_rowG ?_ 33 (.tmp 5) ?_ gy ?_ 33 (y.arr (.slice a' y.h.length cap')) (0,0) _ ?_ zu33 ?_ ?_ ?_);(·rfl);(·rfl);(·rfl);(·exact heap_ext HY2.out zR);(·rfl);(·exact info_ex))|(go_at_call 55;refine (HSA.out _ zR).mono ?_;rintro e w3 ⟨rfl,hx⟩;obtain ⟨z3,rfl⟩:=ext_of hx;clear hx))
  go_ret
  exact ⟨by rw [decide_eq_false HGT.out];rfl,Laid.same HLA.out (HX3.out.trans z3.ext)⟩
theorem lay_old (x:Ex) (v:Value) (m:Mv) (gx gl B B0:Nat) (L:List Mv) (lv:Value) (w:World) (hX:ExAt w gx x v) (hO:Own w B0 x.h v) (hn:x.h.length≤1000) (hL:LayAt B gl L lv w) (y:Ex) (hT:stepX x m=(y,true)) (hsame:sameX x y=false) (hmem:m∈L) :
 Calls Tryz.prog 57 #[.agg m.arr,.pointer (some ⟨gx,0,none⟩),.pointer (some ⟨gl,0,none⟩)] w fun e w'=>e = .returned (.bool (decide (x.h.length<y.h.length)))∧Laid B gl L lv w w':=by
 have hS:=fun w' (hw:Ext w w')=>mo_Step x v m w' B0 (hO.ext hw) (by omega)
 have hyl:=step_len x m
 rw [hT] at hS hyl
 have hyl':y.h.length≤x.h.length+1:=hyl
 have HS:=zd hS
 have HXA:=zd hX
 have HO:=zd hO
 have HLA:=zd hL
 clear hS hT hX hO hL hyl
 go_enter Tryz.func57,Tryz.ntmps57
 go_upto_region 1 with fail
 refine wp_forget (fun w'=>∃ gm,gm=w.heap.size∧w'.heap[gm]?=some (.cells m.arr 52 (0,0))∧Ext w w') ⟨_,rfl,(one_new zR).1,(one_new zR).2⟩ ?_
 rintro W1 ⟨gm,hgm,h1,x1⟩
 rw [←hgm]
 have HGM:Hid (w.heap.size≤gm):=zd (by omega)
 clear hgm
 have HM:=zd h1
 unfold Mv.arr at h1
 have q1:=zQ h1
 have l1:gm<W1.heap.size:=zL h1
 have HX1:=zd x1
 clear h1 x1
 go_upto_region 2 with (first|((with_reducible refine wpList_load_rowG ?_ 33 (.tmp 1) ?_ gx ?_ 33 (x.arr v) (0,0) _ ?_ zu33 ?_ ?_ ?_);(·rfl);(·rfl);(·rfl);(·exact HXA.out.ext HX1.out);(·rfl);(·exact info_ex))|(go_at_call 42;refine (HS.out _ HX1.out).mono ?_;rintro e w2 ⟨v',rfl,hy,hx2⟩;have HY:=zd hy;have HX2:=zd hx2;have HV1:=zd hy.one;clear hy hx2)|((with_reducible refine wpList_store_row ?_ 33 (.tmp 5) (.tmp 11) ?_ w2.heap.size (y.arr v') ?_ ?_ 33 exZ ?_ ?_ ?_ ?_ ?_);(·rfl);(·rfl);(·rfl);(·rfl);(·exact heap_new rfl);(·exact info_ex);(·rfl);(·exact arr_one y HV1.out)))
 refine wp_forget (fun w'=>∃ gy,gy=w2.heap.size∧w'.heap[gy]?=some (.cells (y.arr v') 33 (0,0))∧Ext w2 w') ⟨_,rfl,setRow_heap _ _ _ _ _ _ (heap_new rfl),((Ext.refl w2).alloc _).setRow zN _⟩ ?_
 rintro W2 ⟨gy,hgy,h2,x2⟩
 rw [←hgy]
 have HGY:Hid (w.heap.size≤gy):=zd (by have:=HX1.out.size;have:=HX2.out.size;omega)
 clear hgy q1 l1
 have HY2:=zd h2
 obtain ⟨a',cap',rfl,_,_⟩:=own_view HY.out
 obtain ⟨a0,cap0,rfl,_,_⟩:=own_view HO.out
 have hmv:=heap_ext (HM.out) (HX2.out.trans x2)
 unfold Mv.arr at hmv
 have qm:=zQ hmv
 have lm:gm<W2.heap.size:=zL hmv
 unfold Ex.arr at h2
 have q25:=zQ h2 25
 have ly:gy<W2.heap.size:=zL h2
 have hx3:=HX1.out.trans (HX2.out.trans x2)
 have hxa:=heap_ext HXA.out hx3
 have HXA2:=zd hxa
 unfold Ex.arr at hxa
 have qx25:=zQ hxa 25
 have lx:gx<W2.heap.size:=zL hxa
 have HLA2:=zd (HLA.out.ext hx3)
 have HOY:=zd (HY.out.ext x2)
 have hl2:=HLA2.out.1
 have ql:=zQ hl2 0
 have fl:=zF hl2 0
 have ll:gl<W2.heap.size:=zL hl2
 have HX3:=zd hx3
 clear hmv h2 hx3 hxa x2 HX2 hl2
 have hSA:=fun w' (hw:Ext W2 w')=>mo_same x y (.slice a0 x.h.length cap0) (.slice a' y.h.length cap') w' _ (Row.of_own ((HO.out.ext HX3.out).ext hw)) (HOY.out.ext hw) (by omega)
 simp only [hsame] at hSA
 have HSA:=zd hSA
 clear hSA
 have hCA:=fun w' (hw:Ext W2 w')=>sl_containsM lv L m w' (Row.of_own (HLA2.out.2.ext hw))
 have hmd:decide (m∈L)=true:=by simpa using hmem
 simp only [hmd] at hCA
 have HCA:=zd hCA
 clear hCA hmd
 by_cases hgt:x.h.length<y.h.length
 ·have hgt':(x.h.length:Int)<(y.h.length:Int):=by omega
  have HGT:=zd hgt
  clear hgt
  go_wp2_with (first|((with_reducible refine wpList_load_rowG ?_ 33 (.tmp 1) ?_ gx ?_ 33 (x.arr (.slice a0 x.h.length cap0)) (0,0) _ ?_ zu33 ?_ ?_ ?_);(·rfl);(·rfl);(·rfl);(·exact heap_ext HXA2.out zR);(·rfl);(·exact info_ex))|((with_reducible refine wpList_load_rowG ?_ 33 (.tmp 5) ?_ gy ?_ 33 (y.arr (.slice a' y.h.length cap')) (0,0) _ ?_ zu33 ?_ ?_ ?_);(·rfl);(·rfl);(·rfl);(·exact heap_ext HY2.out zR);(·rfl);(·exact info_ex))|(go_at_call 55;refine (HSA.out _ zR).mono ?_;rintro e w3 ⟨rfl,hx⟩;obtain ⟨z3,rfl⟩:=ext_of hx;clear hx)|(go_at_call 58;refine (HCA.out _ z3.ext).mono ?_;rintro e w4 ⟨rfl,hx⟩;have hx4:=z3.ext.trans hx;obtain ⟨z4,rfl⟩:=ext_of hx4;clear hx hx4))
  go_ret
  exact ⟨by rw [decide_eq_true HGT.out];rfl,Laid.same HLA.out (HX3.out.trans z4.ext)⟩
 ·have hgt' : ¬(x.h.length:Int)<(y.h.length:Int):=by omega
  have HGT:=zd hgt
  clear hgt
  go_wp2_with (first|((with_reducible refine wpList_load_rowG ?_ 33 (.tmp 1) ?_ gx ?_ 33 (x.arr (.slice a0 x.h.length cap0)) (0,0) _ ?_ zu33 ?_ ?_ ?_);(·rfl);(·rfl);(·rfl);(·exact heap_ext HXA2.out zR);(·rfl);(·exact info_ex))|((with_reducible refine wpList_load_rowG ?_ 33 (.tmp 5) ?_ gy ?_ 33 (y.arr (.slice a' y.h.length cap')) (0,0) _ ?_ zu33 ?_ ?_ ?_);(·rfl);(·rfl);(·rfl);(·exact heap_ext HY2.out zR);(·rfl);(·exact info_ex))|(go_at_call 55;refine (HSA.out _ zR).mono ?_;rintro e w3 ⟨rfl,hx⟩;obtain ⟨z3,rfl⟩:=ext_of hx;clear hx)|(go_at_call 58;refine (HCA.out _ z3.ext).mono ?_;rintro e w4 ⟨rfl,hx⟩;have hx4:=z3.ext.trans hx;obtain ⟨z4,rfl⟩:=ext_of hx4;clear hx hx4))
  go_ret
  exact ⟨by rw [decide_eq_false HGT.out];rfl,Laid.same HLA.out (HX3.out.trans z4.ext)⟩
theorem lay_new (x:Ex) (v:Value) (m:Mv) (gx gl B B0:Nat) (L:List Mv) (lv:Value) (w:World) (hX:ExAt w gx x v) (hO:Own w B0 x.h v) (hn:x.h.length≤1000) (hL:LayAt B gl L lv w) (hxB:gx<B) (hlB:gl<B) (hxl:gx≠gl) (hBw:B≤w.heap.size) (hLn:L.length≤100000) (y:Ex) (hT:stepX x m=(y,true)) (hsame:sameX x y=false) (hmem:m∉L) :
 Calls Tryz.prog 57 #[.agg m.arr,.pointer (some ⟨gx,0,none⟩),.pointer (some ⟨gl,0,none⟩)] w fun e w'=>e = .returned (.bool (decide (x.h.length<y.h.length)))∧Laid B gl (L++[m]) lv w w':=by
 obtain ⟨i0,hi,hz0,hz1,hz2⟩:=info_parts info_move
 have HBL:Hid ((∀ g∈rowB lv,B≤g∧g<w.heap.size)∧gx<B∧gl<B∧gx≠gl∧B≤w.heap.size):=zd ⟨own_rowB9 hL.2,hxB,hlB,hxl,hBw⟩
 clear hxB hlB hxl hBw
 have hS:=fun w' (hw:Ext w w')=>mo_Step x v m w' B0 (hO.ext hw) (by omega)
 have hyl:=step_len x m
 rw [hT] at hS hyl
 have hyl':y.h.length≤x.h.length+1:=hyl
 have HS:=zd hS
 have HXA:=zd hX
 have HO:=zd hO
 have HLA:=zd hL
 clear hS hT hX hO hL hyl
 go_enter Tryz.func57,Tryz.ntmps57
 go_upto_region 1 with fail
 refine wp_forget (fun w'=>∃ gm,gm=w.heap.size∧w'.heap[gm]?=some (.cells m.arr 52 (0,0))∧Ext w w') ⟨_,rfl,(one_new zR).1,(one_new zR).2⟩ ?_
 rintro W1 ⟨gm,hgm,h1,x1⟩
 rw [←hgm]
 have HGM:Hid (w.heap.size≤gm):=zd (by omega)
 clear hgm
 have HM:=zd h1
 unfold Mv.arr at h1
 have q1:=zQ h1
 have l1:gm<W1.heap.size:=zL h1
 have HX1:=zd x1
 clear h1 x1
 go_upto_region 2 with (first|((with_reducible refine wpList_load_rowG ?_ 33 (.tmp 1) ?_ gx ?_ 33 (x.arr v) (0,0) _ ?_ zu33 ?_ ?_ ?_);(·rfl);(·rfl);(·rfl);(·exact HXA.out.ext HX1.out);(·rfl);(·exact info_ex))|(go_at_call 42;refine (HS.out _ HX1.out).mono ?_;rintro e w2 ⟨v',rfl,hy,hx2⟩;have HY:=zd hy;have HX2:=zd hx2;have HV1:=zd hy.one;clear hy hx2)|((with_reducible refine wpList_store_row ?_ 33 (.tmp 5) (.tmp 11) ?_ w2.heap.size (y.arr v') ?_ ?_ 33 exZ ?_ ?_ ?_ ?_ ?_);(·rfl);(·rfl);(·rfl);(·rfl);(·exact heap_new rfl);(·exact info_ex);(·rfl);(·exact arr_one y HV1.out)))
 refine wp_forget (fun w'=>∃ gy,gy=w2.heap.size∧w'.heap[gy]?=some (.cells (y.arr v') 33 (0,0))∧Ext w2 w') ⟨_,rfl,setRow_heap _ _ _ _ _ _ (heap_new rfl),((Ext.refl w2).alloc _).setRow zN _⟩ ?_
 rintro W2 ⟨gy,hgy,h2,x2⟩
 rw [←hgy]
 have HGY:Hid (w.heap.size≤gy):=zd (by have:=HX1.out.size;have:=HX2.out.size;omega)
 clear hgy q1 l1
 have HY2:=zd h2
 obtain ⟨a',cap',rfl,_,_⟩:=own_view HY.out
 obtain ⟨a0,cap0,rfl,_,_⟩:=own_view HO.out
 have hmv:=heap_ext (HM.out) (HX2.out.trans x2)
 unfold Mv.arr at hmv
 have qm:=zQ hmv
 have lm:gm<W2.heap.size:=zL hmv
 unfold Ex.arr at h2
 have q25:=zQ h2 25
 have ly:gy<W2.heap.size:=zL h2
 have hx3:=HX1.out.trans (HX2.out.trans x2)
 have hxa:=heap_ext HXA.out hx3
 have HXA2:=zd hxa
 unfold Ex.arr at hxa
 have qx25:=zQ hxa 25
 have lx:gx<W2.heap.size:=zL hxa
 have HLA2:=zd (HLA.out.ext hx3)
 have HOY:=zd (HY.out.ext x2)
 have hl2:=HLA2.out.1
 have ql:=zQ hl2 0
 have fl:=zF hl2 0
 have ll:gl<W2.heap.size:=zL hl2
 have HX3:=zd hx3
 clear hmv h2 hx3 hxa x2 HX2 hl2
 have hSA:=fun w' (hw:Ext W2 w')=>mo_same x y (.slice a0 x.h.length cap0) (.slice a' y.h.length cap') w' _ (Row.of_own ((HO.out.ext HX3.out).ext hw)) (HOY.out.ext hw) (by omega)
 simp only [hsame] at hSA
 have HSA:=zd hSA
 clear hSA
 have hCA:=fun w' (hw:Ext W2 w')=>sl_containsM lv L m w' (Row.of_own (HLA2.out.2.ext hw))
 have hmd:decide (m∈L)=false:=by simpa using hmem
 simp only [hmd] at hCA
 have HCA:=zd hCA
 clear hCA hmd
 go_upto_region 3 with (first|((with_reducible refine wpList_load_rowG ?_ 33 (.tmp 1) ?_ gx ?_ 33 (x.arr (.slice a0 x.h.length cap0)) (0,0) _ ?_ zu33 ?_ ?_ ?_);(·rfl);(·rfl);(·rfl);(·exact heap_ext HXA2.out zR);(·rfl);(·exact info_ex))|((with_reducible refine wpList_load_rowG ?_ 33 (.tmp 5) ?_ gy ?_ 33 (y.arr (.slice a' y.h.length cap')) (0,0) _ ?_ zu33 ?_ ?_ ?_);(·rfl);(·rfl);(·rfl);(·exact heap_ext HY2.out zR);(·rfl);(·exact info_ex))|(go_at_call 55;refine (HSA.out _ zR).mono ?_;rintro e w3 ⟨rfl,hx⟩;obtain ⟨z3,rfl⟩:=ext_of hx;clear hx)|(go_at_call 58;refine (HCA.out _ z3.ext).mono ?_;rintro e w4 ⟨rfl,hx⟩;have hx4:=z3.ext.trans hx;obtain ⟨z4,rfl⟩:=ext_of hx4;clear hx hx4))
 go_upto_region 4 with (first|(at_builtin;refine wpList_app6 B 48 52 i0 _ 9 88 zu48 hi hz0 hz1 hz2 rfl (by decide) rfl _ _ rfl _ L.length _ rfl (HLA2.out.2.ext (z4.ext.alloc _)) (zT HBL.out.2.2.2.2 (zT HX3.out.size (z4.ext.alloc _).size)) z4.val.heap.size 1 1 _ (by omega) rfl (heap_new rfl) rfl (by simp [Value.oneCell']) (by unfold maxLen;omega) (by omega) ?_;intro v2 w5 hv2 hb2 hgr hnw;have HB5:=zd hb2;have hl5:=kept_grown (heap_ext HLA2.out.1 (z4.ext.alloc _)) hgr (fun hm=>by have h1:=HBL.out.1 _ hm;have h2:=HBL.out.2.2.1;omega);have ql5:=zQ hl5 0;have fl5:=zF hl5 0;have HL5:=zd hl5;have HV2:=zd hv2;have HGR:=zd hgr;have HNW:=zd hnw;have HV21:Hid (v2.oneCell'=true):=zd (by rcases own_nil_or hv2 with hv|⟨a,n,c,hv⟩<;>(rw [hv];rfl));obtain ⟨v2a,v2n,v2c,hv2s⟩ : ∃ a n c,v2 = .slice a n c:=(by rcases own_nil_or hv2 with hv|⟨a,n,c,hv⟩<;>exact ⟨_,_,_,hv⟩);subst hv2s;clear hb2 hl5 hv2 hgr hnw))
 have e5:=z4.ext.alloc (.cells #[.int .i64 m.k,.int .i64 m.who,.string m.t,.int .i64 m.l.k,.int .i64 m.l.f,.int .u64 m.l.c,.string m.l.t,.bool m.l.b,.bool m.lost] 52)
 have k5:=keeps_grown ((Keeps.refl _ w).ext (HX3.out.trans e5)) HGR.out (fun g h=>List.mem_cons_of_mem gl h)
 refine wp_forget (fun w'=>w'.cell? ⟨gy,25,none⟩=some (.slice a' y.h.length cap')∧w'.cell? ⟨gx,25,none⟩=some (.slice a0 x.h.length cap0)∧gy<w'.heap.size∧gx<w'.heap.size∧Hid (Laid B gl (L++[m]) lv w w')) ⟨?f1,?f2,?f3,?f4,zd ⟨.slice v2a v2n v2c,⟨?f5,?f6⟩,k5.setCell (.inl (.head _)) 0 _,?f7⟩⟩ ?_
 case f1=>
  refine (World.cell?_of_block (cell_other (by have:=HBL.out.2.2.1;have:=HGY.out;have:=HBL.out.2.2.2.2;show gy≠gl;omega))).trans ?_
  exact cell_of_row w5 gy 25 _ _ _ (kept_grown (heap_ext HY2.out e5) HGR.out (fun hm=>by have:=(HBL.out.1 _ hm).2;have:=HGY.out;omega))
 case f2=>
  refine (World.cell?_of_block (cell_other (by exact HBL.out.2.2.2.1))).trans ?_
  exact cell_of_row w5 gx 25 _ _ _ (kept_grown (heap_ext HXA2.out e5) HGR.out (fun hm=>by have:=(HBL.out.1 _ hm).1;have:=HBL.out.2.1;omega))
 case f3=>have:=HGR.out.size;have:=e5.size;simp only [World.setCell,Array.size_modify];omega
 case f4=>have:=HGR.out.size;have:=e5.size;simp only [World.setCell,Array.size_modify];omega
 case f5=>exact heap_setCell_same _ _ _ _ _ _ HL5.out
 case f6=>
  have h9:Own9 w5 B (L++[m]) (.slice v2a v2n v2c):=own9_one HV2.out rfl (by simp [Mv.cs])
  exact own_same h9 (fun k hk _=>cell_other (by have:=HBL.out.2.2.1;omega))
 case f7=>
  intro g hg
  rcases HNW.out g hg with h|h
  ·exact .inl h
  ·exact .inr (zT HX3.out.size (zT e5.size h))
 clear k5 e5 HV2 HGR HNW HL5 HB5 HV21 ql5 fl5 q25 qx25 ly lx ql fl ll qm lm
 rintro W7 ⟨q25,qx25,ly,lx,HLD⟩
 by_cases hgt:x.h.length<y.h.length
 ·have hgt':(x.h.length:Int)<(y.h.length:Int):=by omega
  have HGT:=zd hgt
  clear hgt
  go_wp2_with fail
  go_ret
  exact ⟨by rw [decide_eq_true HGT.out];rfl,HLD.out⟩
 ·have hgt' : ¬(x.h.length:Int)<(y.h.length:Int):=by omega
  have HGT:=zd hgt
  clear hgt
  go_wp2_with fail
  go_ret
  exact ⟨by rw [decide_eq_false HGT.out];rfl,HLD.out⟩
theorem mo_lay (x:Ex) (v:Value) (m:Mv) (gx gl B B0:Nat) (L:List Mv) (lv:Value) (w:World) (hX:ExAt w gx x v) (hO:Own w B0 x.h v) (hn:x.h.length≤1000) (hL:LayAt B gl L lv w) (hxB:gx<B) (hlB:gl<B) (hxl:gx≠gl) (hBw:B≤w.heap.size) (hLn:L.length≤100000) :
 Calls Tryz.prog 57 #[.agg m.arr,.pointer (some ⟨gx,0,none⟩),.pointer (some ⟨gl,0,none⟩)] w fun e w'=>e = .returned (.bool (growsS x m))∧Laid B gl (layS x L m) lv w w':=by
 rcases hT:stepX x m with ⟨y,ok⟩
 unfold growsS layS
 rw [hT]
 cases ok
 ·simpa using lay_no x v m gx gl B B0 L lv w hX hO hn hL y hT
 ·rcases hs:sameX x y
  ·by_cases hm:m∈L
   ·simpa [hs,hm] using lay_old x v m gx gl B B0 L lv w hX hO hn hL y hT hs hm
   ·simpa [hs,hm] using lay_new x v m gx gl B B0 L lv w hX hO hn hL hxB hlB hxl hBw hLn y hT hs hm
  ·simpa [hs] using lay_same x v m gx gl B B0 L lv w hX hO hn hL y hT hs
theorem layS_len (x:Ex) (l:List Mv) (m:Mv):(layS x l m).length≤l.length+1:=by
 unfold layS
 split
 ·simp
 ·omega
theorem lay2_len (x:Ex) (l:List Mv) (m:Mv):(lay2 x l m).length≤l.length+2:=by
 unfold lay2
 split
 ·have h1:=layS_len x (layS x l m) (lostM m)
  have h2:=layS_len x l m
  omega
 ·have h2:=layS_len x l m
  omega
theorem foldl_len (x:Ex) : ∀ (c l:List Mv),(c.foldl (lay2 x) l).length≤l.length+2*c.length
 | [],l=>by simp
 | m::c,l=>by
  rw [List.foldl_cons]
  have h1:=foldl_len x c (lay2 x l m)
  have h2:=lay2_len x l m
  simp only [List.length_cons]
  omega
theorem foldl_take {α β:Type} (f:β→α→β) (b:β) {L:List α} {n:Nat} {x:α} (h:L[n]?=some x):(L.take (n+1)).foldl f b=f ((L.take n).foldl f b) x:=by
 rw [List.take_add_one,h]
 simp
theorem cand_len (x:Ex) (T:List ByteArray) (hn:T.length≤1000):(candS evsS x T).length≤5000:=by
 rw [cand_eq]
 have h1:=cand1_len evs_len x T 2
 have h2:=cand2_len x T 2
 simp only [List.length_append,List.length_cons,List.length_nil]
 omega
theorem movesS_len (x:Ex) (T:List ByteArray) (hn:T.length≤1000):(movesS evsS x T).length≤10000:=by
 have h1:=foldl_len x (candS evsS x T) []
 have h2:=cand_len x T hn
 unfold movesS
 simp only [List.length_nil] at h1
 omega
theorem Laid.keeps {gl:Nat} {L':List Mv} {lv:Value} {W3 w w':World} (h:Laid W3.heap.size gl L' lv w w') (k:Keeps [gl] W3 w) (hr : ∀ g∈rowB lv,W3.heap.size≤g):Keeps [gl] W3 w':=by
 obtain ⟨_,_,h2,_⟩:=h
 refine ⟨h2.os.trans k.os,h2.tape.trans k.tape,h2.output.trans k.output,zT k.size h2.size,fun i hi hx=>?_⟩
 refine (h2.block i (zU hi k.size) fun hm=>?_).trans (k.block i hi hx)
 rcases List.mem_cons.1 hm with h|h
 ·exact hx (by simp [h])
 ·have:=hr i h
  omega
theorem Laid.row {B gl:Nat} {L':List Mv} {lv:Value} {w w':World} (h:Laid B gl L' lv w w') : ∃ lv',LayAt B gl L' lv' w':=h.imp fun _ h=>h.1
theorem keeps_heap {X:List Nat} {w w':World} {k:Nat} {o:Obj} (h:w.heap[k]?=some o) (e:Keeps X w w') (hk:k∉X):w'.heap[k]?=some o:=by
 rw [e.block k (zL h) hk];exact h
theorem mv_cells0 {w:World} {g:Nat} {L:List Mv} {k:Nat} {x:Mv} (h : ∀ j u,(L.flatMap Mv.cs)[j]?=some u→w.cell? ⟨g,j,none⟩=some u) (hx:L[k]?=some x) :
 w.cell? ⟨g,k*9,none⟩=some (.int .i64 x.k)∧w.cell? ⟨g,k*9+1,none⟩=some (.int .i64 x.who)∧w.cell? ⟨g,k*9+2,none⟩=some (.string x.t)∧w.cell? ⟨g,k*9+3,none⟩=some (.int .i64 x.l.k)∧w.cell? ⟨g,k*9+4,none⟩=some (.int .i64 x.l.f)∧w.cell? ⟨g,k*9+5,none⟩=some (.int .u64 x.l.c)∧w.cell? ⟨g,k*9+6,none⟩=some (.string x.l.t)∧w.cell? ⟨g,k*9+7,none⟩=some (.bool x.l.b)∧w.cell? ⟨g,k*9+8,none⟩=some (.bool x.lost):=by
 have key:=fun j hj=>flat_get Mv.cs 9 (fun _=>rfl) L k x hx j hj
 exact ⟨h _ _ (key 0 (by omega)),h _ _ (key 1 (by omega)),h _ _ (key 2 (by omega)),h _ _ (key 3 (by omega)),h _ _ (key 4 (by omega)),h _ _ (key 5 (by omega)),h _ _ (key 6 (by omega)),h _ _ (key 7 (by omega)),h _ _ (key 8 (by omega))⟩
theorem Laid.heap {B gl:Nat} {L':List Mv} {lv:Value} {w w':World} (h:Laid B gl L' lv w w') {k:Nat} {o:Obj} (hk:w.heap[k]?=some o) (h1:k=gl→False) (h2:k∈rowB lv→False):w'.heap[k]?=some o:=by
 obtain ⟨_,_,h3,_⟩:=h
 exact keeps_heap hk h3 fun hm=>(List.mem_cons.1 hm).elim h1 h2
theorem flatM_ne {L:List Mv} {k:Nat} {x:Mv} (h:L[k]?=some x):L.flatMap Mv.cs≠[]:=fun e=>by
 have:=flat_get Mv.cs 9 (fun _=>rfl) L k x h 0 (by omega)
 rw [e] at this
 simp [Mv.cs] at this
theorem own_at {w w':World} {base:Nat} {e:TypeId} {size:Nat} {v:Value} {n:Nat} {xs:List Value} (h:w.ownsRow base e size v n xs) (hk : ∀ k∈rowB v,w'.heap[k]?=w.heap[k]?):w'.ownsRow base e size v n xs:=by
 refine ⟨h.1,h.2.imp id ?_⟩
 rintro ⟨g,cap,cur,hv,hb,hg,r⟩
 exact ⟨g,cap,cur,hv,hb,by rw [hk g (by rw [hv];simp [rowB,Value.ownBlock])];exact hg,r⟩
theorem mo_moves (x:Ex) (v tv:Value) (T:List ByteArray) (w:World) (B0:Nat) (hO:Own w B0 x.h v) (hn:x.h.length≤1000) (hT:Row w 1 tv T.length (T.map Value.string)) (hTn:T.length≤1000) :
 Calls Tryz.prog 32 #[.agg (x.arr v),tv] w (Made w 52 9 (movesS evsS x T).length ((movesS evsS x T).flatMap Mv.cs)):=by
 have HCN:Hid ((candS evsS x T).length≤5000):=zd (cand_len x T hTn)
 have hC:=fun w' (hw:Ext w w')=>mo_cand x v tv T w' (hT.ext hw) hTn
 have HMV:Hid (movesS evsS x T=(candS evsS x T).foldl (lay2 x) []):=zd rfl
 generalize movesS evsS x T=MM at HMV ⊢
 generalize candS evsS x T=C at HCN HMV hC
 have HC:=zd hC
 have HO:=zd hO
 clear hC hO hT
 go_enter Tryz.func32,Tryz.ntmps32
 go_upto_region 2 with fail
 refine wp_forget (fun w'=>∃ gx gl,gx=w.heap.size∧gl=w.heap.size+1∧ExAt w' gx x v∧w'.heap[gl]?=some (.cells #[.slice none 0 0] 48 (0,0))∧Ext w w') ⟨_,_,rfl,rfl,(two_new zR).1,(two_new zR).2.1,(two_new zR).2.2⟩ ?_
 rintro W1 ⟨gx,gl,hgx,hgl,h1,h2,x1⟩
 rw [←hgl,←hgx]
 have HG:Hid (w.heap.size≤gx∧gx≠gl∧w.heap.size≤gl):=zd (by omega)
 clear hgx hgl
 have HX1:=zd h1
 have HL1:=zd h2
 have HE1:=zd x1
 clear h1 h2 x1
 go_wp2_with (first|((with_reducible refine wpList_load_rowG ?_ 33 (.tmp 2) ?_ gx ?_ 33 (x.arr v) (0,0) _ ?_ zu33 ?_ ?_ ?_);(·rfl);(·rfl);(·rfl);(·exact HX1.out);(·rfl);(·exact info_ex))|(go_at_call 59;refine (HC.out _ HE1.out).mono ?_;rintro e w3 ⟨vr,rfl,hv,hx⟩;obtain ⟨ca,cc,rfl,hcm,hra⟩:=row_at (l:=.slice none 0 0) hv zR (fun g hg=>by simp [rowB,Value.ownBlock] at hg);have HRA:=zd hra;have HX3:=zd hx;unfold maxLen at hcm;have HB:=zd (own_rowB9 hv);clear hv hx hra))
 have HL3:Hid (LayAt w3.heap.size gl [] (.slice none 0 0) w3):=zd ⟨heap_ext HL1.out HX3.out,World.ownsRow_nil w3 _ _ _⟩
 have HXA:Hid (ExAt w3 gx x v):=zd (HX1.out.ext HX3.out)
 have HO3:Hid (Own w3 B0 x.h v):=zd (HO.out.ext (HE1.out.trans HX3.out))
 have HE3:Hid (Ext w w3):=zd (HE1.out.trans HX3.out)
 have HG3:Hid (gx<w3.heap.size∧gl<w3.heap.size∧gx≠gl∧w.heap.size≤gl∧(∀ g∈rowB v,g≠gl)∧∀ g∈rowB (.slice ca C.length cc),g≠gl):=zd (by
  have l1:=zL HL3.out.1
  have l2:=zL HXA.out
  have l3:=zL HL1.out
  refine ⟨l2,l1,HG.out.2.1,HG.out.2.2,fun g hg=>?_,fun g hg=>?_⟩
  ·have:=(own_rowB9 HO.out g hg).2
   have:=HG.out.2.2
   omega
  ·have:=(HB.out g hg).1
   omega)
 clear HX1 HL1 HE1 HX3 HO HB HG
 refine wp_forget (fun w'=>w3=w') rfl ?_
 rintro _ rfl
 go_loopg [14] C.length (fun g ii wr=>∃ (n:Nat) (lv:Value),ii = .int .i64 (n:Int)∧n+g=C.length∧Hid (LayAt w3.heap.size gl ((C.take n).foldl (lay2 x) []) lv wr∧Keeps [gl] w3 wr))
 case atStart=>exact ⟨0,_,rfl,by omega,zd ⟨HL3.out,Keeps.refl _ _⟩⟩
 case round=>
  obtain ⟨n,lv,rfl,hg,HK⟩:=hrel
  rename World=>Wr
  by_cases hlt:n<C.length
  ·obtain ⟨m,hm⟩ : ∃ m,C[n]?=some m:=⟨_,zG hlt⟩
   obtain ⟨gb,cur,rfl,hob,hnb,hcu⟩:=HRA.out (flatM_ne hm)
   have hgb:gb≠gl:=HG3.out.2.2.2.2.2 gb (by simp [rowB,Value.ownBlock])
   have hob2:=keeps_heap hob HK.out.2 (by simpa using hgb)
   have hgl2:=zL hob2
   obtain ⟨q0,q1,q2,q3,q4,q5,q6,q7,q8⟩:=mv_cells0 (fun j u hj=>(cell_of_row Wr gb j cur _ (0,0) hob2).trans (hcu j u hj)) hm
   have HM:=zd hm
   have HGL:=zd hgl2
   clear hob hnb hcu hm hob2 hgb hgl2
   have hgl2:=HGL.out
   have hlt':(n:Int)<(C.length:Int):=by omega
   have hMl:((C.take n).foldl (lay2 x) []).length≤20000:=by
    have h1:=foldl_len x (C.take n) []
    have h2:=HCN.out
    simp only [List.length_nil,List.length_take] at h1
    omega
   generalize hMM:(C.take n).foldl (lay2 x) []=M at HK hMl
   have HMM:=zd hMM
   clear hMM
   have hxw:=keeps_heap HXA.out HK.out.2 (by have:=HG3.out.2.2.1;simpa using this)
   have how:=own_at HO3.out (fun k hk=>HK.out.2.block k (own_rowB9 HO3.out k hk).2 (by have:=HG3.out.2.2.2.2.1 k hk;simpa using this))
   have hlay:=fun w' (hw:Ext Wr w')=>mo_lay x v m gx gl w3.heap.size B0 M lv w' (heap_ext hxw hw) (own_ext how hw) hn (HK.out.1.ext hw) HG3.out.1 HG3.out.2.1 HG3.out.2.2.1 (zT HK.out.2.size hw.size) (by omega)
   have HLAY:=zd hlay
   clear hlay hxw how
   have hrl : ∀ g∈rowB lv,w3.heap.size≤g∧g<Wr.heap.size:=own_rowB9 HK.out.1.2
   have HRL:=zd hrl
   clear hrl
   rcases hgr:growsS x m
   ·have hl:=HLAY.out
    simp only [hgr] at hl
    have HLA:=zd hl
    have HGR:=zd hgr
    clear hl HLAY hgr
    go_wp2_with (go_at_call 57;refine (HLA.out _ (zR.alloc _)).mono ?_;rintro e w5 ⟨rfl,hld⟩;have HLD:=zd hld;clear hld)
    go_roundg (gk - 1)
    case rel=>
     obtain ⟨lv',h1⟩:=HLD.out.row
     refine ⟨n+1,lv',rfl,by omega,zd ⟨?_,HLD.out.keeps (HK.out.2.ext (zR.alloc _)) fun g hg=>(HRL.out g hg).1⟩⟩
     rw [foldl_take _ _ HM.out,HMM.out]
     unfold lay2
     rw [if_neg (by rw [HGR.out];simp)]
     exact h1
    case measure=>omega
   ·have hl:=HLAY.out
    simp only [hgr] at hl
    have HLA:=zd hl
    have HGR:=zd hgr
    clear hl HLAY hgr
    go_upto_region 8 with (go_at_call 57;refine (HLA.out _ (zR.alloc _)).mono ?_;rintro e w5 ⟨rfl,hld⟩;have hgm:=hld.heap (heap_new (w:=Wr) (o:=.cells m.arr 52) rfl) (fun h=>by have:=HG3.out.2.1;have:=HK.out.2.size;omega) (fun h=>by have:=(HRL.out _ h).2;omega);have HGM:=zd hgm;unfold Mv.arr at hgm;have qm:=zQ hgm;have fm:=zF hgm;have lm:Wr.heap.size<w5.heap.size:=(zL hgm);have HLD:=zd hld;clear hld hgm)
    clear q0 q1 q2 q3 q4 q5 q6 q7 q8
    refine wp_forget (fun w'=>∃ lv1,w'.heap[Wr.heap.size]?=some (.cells (lostM m).arr 52 (0,0))∧Hid (LayAt w3.heap.size gl (layS x M m) lv1 w'∧Keeps [gl] w3 w')) ?f1 ?_
    case f1=>
     have hk5:=HLD.out.keeps (HK.out.2.ext (zR.alloc _)) fun g hg=>(HRL.out g hg).1
     obtain ⟨lv1,h1,h2,h3⟩:=HLD.out
     have hgl:gl<Wr.heap.size:=zU HG3.out.2.1 HK.out.2.size
     refine ⟨lv1,?_,zd ⟨⟨(cell_other (by omega)).trans h1.1,own_at h1.2 fun k hk=>cell_other fun he=>?_⟩,hk5.setCell (.inr HK.out.2.size) 8 _⟩⟩
     ·have:=heap_setCell_same _ _ 8 _ _ (.bool true) HGM.out
      exact this
     ·subst he
      rcases h3 _ hk with h|h
      ·have:=(HRL.out _ h).2
       omega
      ·simp at h
       omega
    clear qm fm lm HLD HGM HRL
    rintro W6 ⟨lv1,hgm,HK6⟩
    have hxw:=keeps_heap HXA.out HK6.out.2 (by have:=HG3.out.2.2.1;simpa using this)
    have how:=own_at HO3.out (fun k hk=>HK6.out.2.block k (own_rowB9 HO3.out k hk).2 (by have:=HG3.out.2.2.2.2.1 k hk;simpa using this))
    have hl1:(layS x M m).length≤30000:=by have:=layS_len x M m;omega
    have hlay:=mo_lay x v (lostM m) gx gl w3.heap.size B0 (layS x M m) lv1 W6 hxw how hn HK6.out.1 HG3.out.1 HG3.out.2.1 HG3.out.2.2.1 HK6.out.2.size (by omega)
    have HLAY:=zd hlay
    clear hlay hxw how hl1
    unfold Mv.arr lostM at hgm
    have qm:=zQ hgm
    have lm:Wr.heap.size<W6.heap.size:=zL hgm
    clear hgm
    go_wp2_with (go_at_call 57;refine HLAY.out.mono ?_;rintro e w7 ⟨rfl,hld⟩;have HLD:=zd hld;clear hld)
    go_roundg (gk - 1)
    case rel=>
     obtain ⟨lv',h1⟩:=HLD.out.row
     refine ⟨n+1,lv',rfl,by omega,zd ⟨?_,HLD.out.keeps HK6.out.2 fun g hg=>(own_rowB9 HK6.out.1.2 g hg).1⟩⟩
     rw [foldl_take _ _ HM.out,HMM.out]
     unfold lay2
     rw [if_pos HGR.out]
     exact h1
    case measure=>omega
  ·have hge:(C.length:Int)≤(n:Int):=by omega
   have hl:=HK.out.1.1
   have ql:=zQ hl 0
   have ll:gl<Wr.heap.size:=zL hl
   clear hl
   go_wp2_with fail
   go_ret
   have hM:(C.take n).foldl (lay2 x) []=MM:=by rw [HMV.out,List.take_of_length_le (by omega)]
   have hO:=HK.out.1.2
   rw [hM] at hO
   refine ⟨_,rfl,own_base hO HE3.out.size,?_⟩
   have hk:=HK.out.2
   exact ⟨hk.os.trans HE3.out.os,hk.tape.trans HE3.out.tape,hk.output.trans HE3.out.output,zT HE3.out.size hk.size,fun k hkl=>(hk.block k (zU hkl HE3.out.size) (by have:=HG3.out.2.2.2.1;simp;omega)).trans (HE3.out.block k hkl)⟩
end Go.Proofs.YtlnmhocehgmbbaaGreatDoor

/- No condition. -/
import Derived.Test.YtlnmhocehgmbbaaGreatDoorCL31
import Derived.Test.YtlnmhocehgmbbaaGreatDoorCL35
set_option linter.all false
set_option maxRecDepth 100000
set_option maxHeartbeats 6400000
namespace Go.Proofs.YtlnmhocehgmbbaaGreatDoor
open Go.RowKit
attribute [local go_sem ↓] eql_lEq eql_sEq eql_eEq eql_oEq neq_lEq neq_sEq neq_eEq neq_oEq eql_vEq neq_vEq eql_nil
attribute [local go_sem] ExtOf.cell ExtOf.frozen ExtOf.lt ExtOf.le
attribute [local go_sem high] ExtOf.cell2 ExtOf.frozen2 ExtOf.lt2 ExtOf.cell3 ExtOf.frozen3 ExtOf.lt3
section
variable {P:Program} {md:Region.Mode} {ops:Array Oper}
theorem put_comm (a:Act) (d1 d2:Tmp) (v1 v2:Value) (h:d1≠d2):(a.put (some d1) v1).put (some d2) v2=(a.put (some d2) v2).put (some d1) v1:=by
 unfold Act.put
 simp only
 rw [Array.setIfInBounds_comm _ _ h]
theorem wpList_alloc1 {Q:Exit→Act→World→Prop} {rest:List Oper} {o:Oper} {a:Act} {w:World} {z:Array Value} {t:TypeId} (hgd:o.guard=none)
 (he : ∀ (a:Act) (w:World),(execOp a.eval o).run P w = .ok (.value (.pointer (some ⟨w.heap.size,0,none⟩))) (w.alloc (.cells z t)))
 (h:wpList P ops Q rest (a.put o.dst (.pointer (some ⟨w.heap.size,0,none⟩))) (w.alloc (.cells z t))):wpList P ops Q (o::rest) a w:=by
 refine wpList_plain hgd fun _ hK=>?_
 unfold Oper.wp
 rw [he]
 exact hK _ _ h
theorem wpAnyT_allocs {t n i i2:Nat} {o o2:Oper} {C:World→Prop} {Q:Exit→Act→World→Prop} {l L2:Array Bool} {a:Act} {w:World} (t1 t2:TypeId) (z1 z2:Array Value) (d1 d2:Tmp) (hd:d1≠d2)
 (hrd:Region.ready md ops l=[i,i2]) (hrd1:Region.ready md ops (l.setIfInBounds i true)=[i2]) (hrd2:Region.ready md ops (l.setIfInBounds i2 true)=[i])
 (hl1:(l.setIfInBounds i true).setIfInBounds i2 true=L2) (hl2:(l.setIfInBounds i2 true).setIfInBounds i true=L2)
 (ho:ops[i]?=some o) (ho2:ops[i2]?=some o2) (hg:o.guard=none) (hg2:o2.guard=none) (hdst:o.dst=some d1) (hdst2:o2.dst=some d2)
 (he : ∀ (a:Act) (w:World),(execOp a.eval o).run P w = .ok (.value (.pointer (some ⟨w.heap.size,0,none⟩))) (w.alloc (.cells z1 t1)))
 (he2 : ∀ (a:Act) (w:World),(execOp a.eval o2).run P w = .ok (.value (.pointer (some ⟨w.heap.size,0,none⟩))) (w.alloc (.cells z2 t2)))
 (hC : ∀ w',Ext w w'→C w')
 (h : ∀ g1 g2 w',w.heap.size≤g1→w.heap.size≤g2→g1≠g2→w'.heap[g1]?=some (.cells z1 t1 (0,0))→w'.heap[g2]?=some (.cells z2 t2 (0,0))→Ext w w'→
   wpAnyT P md ops t C Q n L2 ((a.put (some d1) (.pointer (some ⟨g1,0,none⟩))).put (some d2) (.pointer (some ⟨g2,0,none⟩))) w'):wpAnyT P md ops t C Q (n+2) l a w:=by
 refine wpAnyT_two hrd ho ho2 ?_ ?_
 ·intro x1
  refine wpList_alloc1 hg he ⟨fun _=>hC _ (x1.ext.alloc _),?_⟩
  refine wpAnyT_one hrd1 ho2 ?_
  intro x2
  refine wpList_alloc1 hg2 he2 ⟨fun _=>hC _ (((x1.ext.alloc _).trans x2.ext).alloc _),?_⟩
  rw [hl1,hdst,hdst2]
  have h1:=x1.ext.size
  have h2:=x2.ext.size
  have h3:x1.val.heap.size<x2.val.heap.size:=by simp at h2;omega
  exact h _ _ _ h1 (by omega) (by omega) (heap_ext (heap_new rfl) (x2.ext.alloc _)) (heap_new rfl) (((x1.ext.alloc _).trans x2.ext).alloc _)
 ·intro x1
  refine wpList_alloc1 hg2 he2 ⟨fun _=>hC _ (x1.ext.alloc _),?_⟩
  refine wpAnyT_one hrd2 ho ?_
  intro x2
  refine wpList_alloc1 hg he ⟨fun _=>hC _ (((x1.ext.alloc _).trans x2.ext).alloc _),?_⟩
  rw [hl2,hdst,hdst2,put_comm _ _ _ _ _ (Ne.symm hd)]
  have h1:=x1.ext.size
  have h2:=x2.ext.size
  have h3:x1.val.heap.size<x2.val.heap.size:=by simp at h2;omega
  exact h _ _ _ (by omega) h1 (by omega) (heap_new rfl) (heap_ext (heap_new rfl) (x2.ext.alloc _)) (((x1.ext.alloc _).trans x2.ext).alloc _)
theorem results_two {fn:Func} {p u:Tmp} {ty tu:TypeId} (h:fn.results = #[.cell p ty,.cell u tu]) (tmps:Array Value) (w:World) (g g2:Nat) (t t2:TypeId) (cs cs2:Array Value) (fr fr2:Nat×Nat) (d d2:TypeDesc)
 (hp:tmps.getD p undef = .pointer (some ⟨g,0,none⟩)) (hg:w.heap[g]?=some (.cells cs t fr))
 (hu:P.underlying ty=some d) (hd:(match d with | .struct _ | .array _ _=>true|_=>false)=true) (hi:(P.info? ty).map (·.size)=some cs.size)
 (hp2:tmps.getD u undef = .pointer (some ⟨g2,0,none⟩)) (hg2:w.heap[g2]?=some (.cells cs2 t2 fr2))
 (hu2:P.underlying tu=some d2) (hd2:(match d2 with | .struct _ | .array _ _=>true|_=>false)=true) (hi2:(P.info? tu).map (·.size)=some cs2.size) :
 (results fn tmps).run P w = .ok (.tuple #[.agg cs,.agg cs2]) w:=by
 have hp':tmps[p]?.getD undef = .pointer (some ⟨g,0,none⟩):=by simpa using hp
 have hp2':tmps[u]?.getD undef = .pointer (some ⟨g2,0,none⟩):=by simpa using hp2
 simp only [results,h]
 simp [Sem.run_bind,Result.andThen,hp',hp2',asAddr,run_loadVar_row w g t ty cs fr d hg hu hd hi,run_loadVar_row w g2 t2 tu cs2 fr2 d2 hg2 hu2 hd2 hi2]
end
def LgX (w:World) (x:Ex) (r:Rg) (e:Ending) (w':World):Prop:=∃ b,e = .returned (.bool b)∧(b=false→x.h.length≤20∧r.t.length≤4∧r.m≤60)∧Ext w w'
theorem lw_largeX (x:Ex) (v:Value) (r:Rg) (tv:Value) (w:World) (hR:Hrd w x v) (hT:Row w 1 tv r.t.length (r.t.map Value.string)) :
 Calls Tryz.prog 8 #[.agg (x.arr v),.agg (r.arr tv)] w (LgX w x r):=by
 obtain ⟨ta,tc,rfl,hm,hvw⟩:=row_view hT
 have HV:=zd hvw
 obtain ⟨xa,xc,rfl,hxm,hxw⟩:=row_view hR
 have HXV:=zd hxw
 clear hvw hT hR hxw
 unfold maxLen at hm hxm
 go_enter Tryz.func8,Tryz.ntmps8
 go_upto_region 1 with fail
 refine wp_forget (fun w'=>∃ gx gr,Hid (gx=w.heap.size∧gr=w.heap.size+1)∧ExAt w' gx x (.slice xa x.h.length xc)∧RgAt w' gr r (.slice ta r.t.length tc)∧Ext w w') ⟨_,_,zd ⟨rfl,rfl⟩,(two_new zR).1,(two_new zR).2.1,(two_new zR).2.2⟩ ?_
 rintro W1 ⟨gx,gr,hgx,h1,h2,x1⟩
 rw [←hgx.out.2,←hgx.out.1]
 have HE1:=zd x1
 clear hgx x1
 have q3:W1.cell? ⟨gx,3,none⟩=some (.string x.s0.t):=zQ h1 3
 have q12:W1.cell? ⟨gx,12,none⟩=some (.string x.s1.t):=zQ h1 12
 have q21:W1.cell? ⟨gx,21,none⟩=some (.string x.v.t):=zQ h1 21
 have q25:W1.cell? ⟨gx,25,none⟩=some (.slice xa x.h.length xc):=zQ h1 25
 have p0:W1.cell? ⟨gr,0,none⟩=some (.slice ta r.t.length tc):=zQ h2 0
 have p3:W1.cell? ⟨gr,3,none⟩=some (.int .i64 r.m):=zQ h2 3
 have l1:gx<W1.heap.size:=zL h1
 have l2:gr<W1.heap.size:=zL h2
 clear h1 h2
 go_upto_region 2 with fail
 generalize wrap64 (wrap64 (↑x.s0.t.size + ↑x.s1.t.size) + ↑x.v.t.size)=n0
 go_wp2_with fail
 go_loopg [5,6] 21 (fun g ss ii wr=>∃ (i:Nat) (n:Int),ss = .int .i64 n∧ii = .int .i64 (i:Int)∧i+g=21∧i≤x.h.length∧wr=W1)
 case atStart=>exact ⟨0,n0,rfl,rfl,rfl,Nat.zero_le _,rfl⟩
 case round=>
  obtain ⟨k,n1,rfl,rfl,hgk,hkx,rfl⟩:=hrel
  rename World=>W1
  by_cases hkl:k<x.h.length∧k≤20
  case pos=>
   have k1:(k:Int)<(x.h.length:Int):=by omega
   have k2:(k:Int)≤20:=by omega
   obtain ⟨g,off,rfl,hgl,hcell⟩:=HXV.out (by omega)
   have hgl:=hgl (by omega)
   obtain ⟨z,hz⟩ : ∃ z,x.h[k]?=some z:=⟨_,zG (by omega)⟩
   obtain ⟨z0,z1,z2,z3,z4⟩:=lt_cellsO (fun j u hj=>cell_keep (hcell j u hj) HE1.out) hz
   have hgl1:g<W1.heap.size:=zU hgl HE1.out.size
   clear hcell hgl hz
   go_wp2_with fail
   go_roundg (gk - 1)
   case rel=>exact ⟨k+1,_,rfl,by simp,by omega,by omega,rfl⟩
   case measure=>omega
  have hxx : ¬(k:Int)<(x.h.length:Int)∨((k:Int)<(x.h.length:Int)∧¬(k:Int)≤20):=by omega
  rcases hxx with hx1|⟨hx1,hx2⟩
  ·go_wp2_with fail
   go_loopg [5,7] 5 (fun g ss ii wr=>∃ (i:Nat) (n:Int),ss = .int .i64 n∧ii = .int .i64 (i:Int)∧i+g=5∧i≤r.t.length∧wr=W1)
   case atStart=>exact ⟨0,n1,rfl,rfl,rfl,Nat.zero_le _,rfl⟩
   case round=>
    obtain ⟨i,n,rfl,rfl,hg,hir,rfl⟩:=hrel
    rename World=>W1
    by_cases hlt:i<r.t.length
    case neg=>
     have i1 : ¬(i:Int)<(r.t.length:Int):=by omega
     by_cases h20:(20:Int)<(x.h.length:Int)
     case pos=>
      go_wp2_with fail
      go_ret
      exact ⟨true,rfl,fun h=>by simp at h,HE1.out⟩
     by_cases h4:(4:Int)<(r.t.length:Int)
     case pos=>
      go_wp2_with fail
      go_ret
      exact ⟨true,rfl,fun h=>by simp at h,HE1.out⟩
     by_cases h6:(2000:Int)<n
     case pos=>
      go_wp2_with fail
      go_ret
      exact ⟨true,rfl,fun h=>by simp at h,HE1.out⟩
     by_cases h7:(60:Int)<r.m
     case pos=>
      go_wp2_with fail
      go_ret
      exact ⟨true,rfl,fun h=>by simp at h,HE1.out⟩
     go_wp2_with fail
     go_ret
     exact ⟨false,rfl,fun _=>⟨by omega,by omega,by omega⟩,HE1.out⟩
    have i1:(i:Int)<(r.t.length:Int):=by omega
    by_cases h5:i≤4
    case neg=>
     have i5 : ¬(i:Int)≤4:=by omega
     have i6:(4:Int)<(r.t.length:Int):=by omega
     by_cases h20:(20:Int)<(x.h.length:Int)
     case pos=>
      go_wp2_with fail
      go_ret
      exact ⟨true,rfl,fun h=>by simp at h,HE1.out⟩
     go_wp2_with fail
     go_ret
     exact ⟨true,rfl,fun h=>by simp at h,HE1.out⟩
    have i5:(i:Int)≤4:=by omega
    obtain ⟨g,off,rfl,hgl,hcell⟩:=HV.out (by omega)
    have hgl:=hgl (by omega)
    obtain ⟨t,ht⟩ : ∃ t,r.t[i]?=some t:=⟨_,zG hlt⟩
    have qt:=cell_keep (str_cell hcell ht) HE1.out
    have hgl1:g<W1.heap.size:=zU hgl HE1.out.size
    clear hcell hgl ht
    go_wp2_with fail
    go_roundg (gk - 1)
    case rel=>exact ⟨i+1,_,rfl,by simp,by omega,by omega,rfl⟩
    case measure=>omega
  ·go_wp2_with fail
   go_loopg [5,7] 5 (fun g ss ii wr=>∃ (i:Nat) (n:Int),ss = .int .i64 n∧ii = .int .i64 (i:Int)∧i+g=5∧i≤r.t.length∧wr=W1)
   case atStart=>exact ⟨0,n1,rfl,rfl,rfl,Nat.zero_le _,rfl⟩
   case round=>
    obtain ⟨i,n,rfl,rfl,hg,hir,rfl⟩:=hrel
    rename World=>W1
    by_cases hlt:i<r.t.length
    case neg=>
     have i1 : ¬(i:Int)<(r.t.length:Int):=by omega
     have h20:(20:Int)<(x.h.length:Int):=by omega
     go_wp2_with fail
     go_ret
     exact ⟨true,rfl,fun h=>by simp at h,HE1.out⟩
    have i1:(i:Int)<(r.t.length:Int):=by omega
    by_cases h5:i≤4
    case neg=>
     have i5 : ¬(i:Int)≤4:=by omega
     have i6:(4:Int)<(r.t.length:Int):=by omega
     have h20:(20:Int)<(x.h.length:Int):=by omega
     go_wp2_with fail
     go_ret
     exact ⟨true,rfl,fun h=>by simp at h,HE1.out⟩
    have i5:(i:Int)≤4:=by omega
    obtain ⟨g,off,rfl,hgl,hcell⟩:=HV.out (by omega)
    have hgl:=hgl (by omega)
    obtain ⟨t,ht⟩ : ∃ t,r.t[i]?=some t:=⟨_,zG hlt⟩
    have qt:=cell_keep (str_cell hcell ht) HE1.out
    have hgl1:g<W1.heap.size:=zU hgl HE1.out.size
    clear hcell hgl ht
    go_wp2_with fail
    go_roundg (gk - 1)
    case rel=>exact ⟨i+1,_,rfl,by simp,by omega,by omega,rfl⟩
    case measure=>omega
def rgZ:Array Value:=#[.slice none 0 0,.bool false,.bool false,.int .i64 0]
theorem rg_one (r:Rg) {tv:Value} (h:tv.oneCell'=true):(r.arr tv).all (·.oneCell')=true:=by
 rw [Array.all_eq_true']
 intro u hu
 simp only [Rg.arr,List.mem_toArray,List.mem_cons,List.not_mem_nil,or_false] at hu
 rcases hu with rfl|rfl|rfl|rfl
 ·exact h
 all_goals rfl
def OwnP (w:World) (x:Ex) (r:Rg) (e:Ending) (w':World):Prop:=∃ v tv,e = .returned (.tuple #[.agg (x.arr v),.agg (r.arr tv)])∧Own w' w.heap.size x.h v∧w'.ownsRow w.heap.size 9 1 tv r.t.length (r.t.map Value.string)∧Ext w w'
theorem own_lo {w:World} {B:Nat} {e:TypeId} {size n:Nat} {xs:List Value} {v:Value} (o:w.ownsRow B e size v n xs) : ∀ g∈rowB v,B≤g:=fun g hg=>(own_rowB9 o g hg).1
theorem str_one (T:List ByteArray) : ∀ u∈T.map Value.string,u.oneCell'=true:=fun u hu=>by
 obtain ⟨t,_,rfl⟩:=List.mem_map.1 hu
 rfl
theorem lw_own (x:Ex) (v:Value) (r:Rg) (tv:Value) (w:World) (hR:Hrd w x v) (hv:v = .slice none 0 0∨∃ a n c,v = .slice (some a) n c) (hn:x.h.length≤1000) (hT:Row w 1 tv r.t.length (r.t.map Value.string)) (htv:tv = .slice none 0 0∨∃ a n c,tv = .slice (some a) n c) (hTn:r.t.length≤1000) :
 Calls Tryz.prog 10 #[.agg (x.arr v),.agg (r.arr tv)] w (OwnP w x r):=by
 obtain ⟨ti0,hi,hz0,hz1,hz2⟩:=info_parts info_letter
 obtain ⟨si0,si,sz0,sz1,sz2⟩:=info_parts info_string
 have HR:=zd hR
 have HVV:=zd hv
 have HT:=zd hT
 have HTV:=zd htv
 obtain ⟨a,cap,rfl,hm,_⟩:=row_view hR
 obtain ⟨ta,tcap,rfl,hmt,_⟩:=row_view hT
 clear hR hv hm hT htv hmt
 go_enter Tryz.func10,Tryz.ntmps10
 go_upto_region 1 with fail
 refine wp_forget (fun w'=>ExAt w' w.heap.size x (.slice a x.h.length cap)∧RgAt w' (w.heap.size+1) r (.slice ta r.t.length tcap)∧w'.heap[w.heap.size+1+1]?=some (.cells exZ 33 (0,0))∧w'.heap[w.heap.size+1+1+1]?=some (.cells rgZ 36 (0,0))∧Ext w w') four_new ?_
 rintro W1 ⟨h1,h2,h3,h4,x1⟩
 obtain ⟨gx,hgx⟩ : ∃ g,g=w.heap.size:=⟨_,rfl⟩
 obtain ⟨gr,hgr⟩ : ∃ g,g=w.heap.size+1:=⟨_,rfl⟩
 obtain ⟨ga,hga⟩ : ∃ g,g=w.heap.size+1+1:=⟨_,rfl⟩
 obtain ⟨gb,hgb⟩ : ∃ g,g=w.heap.size+1+1+1:=⟨_,rfl⟩
 rw [←hgx] at h1
 rw [←hgr] at h2
 rw [←hga] at h3
 rw [←hgb] at h4
 rw [←hgb,←hga,←hgr,←hgx]
 have HG:Hid (gx=w.heap.size∧gr=w.heap.size+1∧ga=w.heap.size+1+1∧gb=w.heap.size+1+1+1∧gb<W1.heap.size):=zd ⟨hgx,hgr,hga,hgb,(zL h4)⟩
 clear hgx hgr hga hgb
 have H1:Hid (ExAt W1 gx x (.slice a x.h.length cap)∧RgAt W1 gr r (.slice ta r.t.length tcap)∧W1.heap[ga]?=some (.cells exZ 33 (0,0))∧W1.heap[gb]?=some (.cells rgZ 36 (0,0))∧Ext w W1):=zd ⟨h1,h2,h3,h4,x1⟩
 have q25:W1.cell? ⟨gx,25,none⟩=some (.slice a x.h.length cap):=zQ h1 25
 have l1:gx<W1.heap.size:=zL h1
 clear h1 h2 h3 h4 x1
 go_upto_region 2 with (first|(at_builtin;refine unHd ?_))
 unfold Hd2
 refine wpList_app4 W1.heap.size 31 24 ti0 _ 5 48 zu31 hi hz0 hz1 hz2 rfl (by decide) rfl _ _ rfl _ 0 [] rfl (own_new (Ext.refl W1) rfl (by decide) rfl rfl) (by simp) _ x.h.length (x.h.flatMap Lt.cs) rfl
  ((HR.out.ext H1.out.2.2.2.2).ext (zR.alloc _)) HVV.out (lt_one x.h) (by unfold maxLen;omega) (by omega) ?_
 intro v' w2 ho2 hb2 hg2
 rw [Nat.zero_add,List.nil_append] at ho2
 replace hg2:(W1.alloc (.cells #[] 24)).grownBy w2 (some W1.heap.size):=hg2
 have blk : ∀ k,k<W1.heap.size→w2.heap[k]?=W1.heap[k]?:=fun k hk=>(hg2.block k (by simp;omega) (by simp;omega)).trans (((Ext.refl W1).alloc (.cells #[] 24)).block k hk)
 have hx2:Ext W1 w2:=⟨hg2.os,hg2.tape,hg2.output,zT (by simp) hg2.size,blk⟩
 have HO2:=zd ho2
 have HX2:=zd hx2
 have q25:=cell_keep q25 hx2
 have hxa2:=heap_ext H1.out.1 hx2
 have l1:gx<w2.heap.size:=zL hxa2
 have f25:=zF hxa2 25
 obtain ⟨sa,sc,hsv⟩:=own_sl ho2
 subst hsv
 clear ho2 hb2 hg2 blk hx2 hxa2
 go_upto_region 2 with fail
 refine wp_forget (fun w'=>ExAt w' gx x (.slice sa x.h.length sc)∧RgAt w' gr r (.slice ta r.t.length tcap)∧w'.heap[ga]?=some (.cells exZ 33 (0,0))∧w'.heap[gb]?=some (.cells rgZ 36 (0,0))∧Own w' W1.heap.size x.h (.slice sa x.h.length sc)∧Ext w w'∧W1.heap.size≤w'.heap.size) ⟨?b1,?b2,?b3,?b4,?b5,?b6,?b7⟩ ?_
 case b1=>exact setCell_row (heap_ext H1.out.1 HX2.out) _
 case b2=>exact (cell_other (by have:=HG.out;omega)).trans (heap_ext H1.out.2.1 HX2.out)
 case b3=>exact (cell_other (by have:=HG.out;omega)).trans (heap_ext H1.out.2.2.1 HX2.out)
 case b4=>exact (cell_other (by have:=HG.out;omega)).trans (heap_ext H1.out.2.2.2.1 HX2.out)
 case b5=>exact own_at HO2.out fun k hk=>cell_other (by have:=own_lo HO2.out k hk;have:=HG.out;omega)
 case b6=>exact (H1.out.2.2.2.2.trans HX2.out).setCell (by have:=HG.out;show w.heap.size≤gx;omega) _
 case b7=>simpa [World.setCell] using HX2.out.size
 clear q25 l1 f25 HX2 HO2
 rintro W3 ⟨h1,h2,h3,h4,h5,x1,hsz⟩
 have H3:=zd (And.intro h1 (And.intro h2 (And.intro h3 (And.intro h4 (And.intro h5 (And.intro x1 hsz))))))
 have q0:W3.cell? ⟨gr,0,none⟩=some (.slice ta r.t.length tcap):=zQ h2 0
 have l2:gr<W3.heap.size:=zL h2
 clear h1 h2 h3 h4 h5 x1 hsz H1
 go_upto_region 3 with (first|(at_builtin;refine unHd ?_))
 unfold Hd2
 refine wpList_app4 W3.heap.size 34 9 si0 _ 1 16 zu34 si sz0 sz1 sz2 rfl (by decide) rfl _ _ rfl _ 0 [] rfl (own_new (Ext.refl W3) rfl (by decide) rfl rfl) (by simp) _ r.t.length (r.t.map Value.string) rfl
  ((HT.out.ext H3.out.2.2.2.2.2.1).ext (zR.alloc _)) HTV.out (str_one r.t) (by unfold maxLen;omega) (by omega) ?_
 intro tv' w4 ho4 hb4 hg4
 rw [Nat.zero_add,List.nil_append] at ho4
 replace hg4:(W3.alloc (.cells #[] 9)).grownBy w4 (some W3.heap.size):=hg4
 have blk : ∀ k,k<W3.heap.size→w4.heap[k]?=W3.heap[k]?:=fun k hk=>(hg4.block k (by simp;omega) (by simp;omega)).trans (((Ext.refl W3).alloc (.cells #[] 9)).block k hk)
 have hx4:Ext W3 w4:=⟨hg4.os,hg4.tape,hg4.output,zT (by simp) hg4.size,blk⟩
 have HO4:=zd ho4
 have HX4:=zd hx4
 have q0:=cell_keep q0 hx4
 have hra4:=heap_ext H3.out.2.1 hx4
 have l2:gr<w4.heap.size:=zL hra4
 have f0:=zF hra4 0
 obtain ⟨ua,uc,hsv⟩:=own_sl ho4
 subst hsv
 clear ho4 hb4 hg4 blk hx4 hra4
 go_upto_region 3 with fail
 refine wp_forget (fun w'=>ExAt w' gx x (.slice sa x.h.length sc)∧RgAt w' gr r (.slice ua r.t.length uc)∧w'.heap[ga]?=some (.cells exZ 33 (0,0))∧w'.heap[gb]?=some (.cells rgZ 36 (0,0))∧Own w' W1.heap.size x.h (.slice sa x.h.length sc)∧w'.ownsRow W1.heap.size 9 1 (.slice ua r.t.length uc) r.t.length (r.t.map Value.string)∧Ext w w') ⟨?c1,?c2,?c3,?c4,?c5,?c6,?c7⟩ ?_
 case c1=>exact (cell_other (by have:=HG.out;omega)).trans (heap_ext H3.out.1 HX4.out)
 case c2=>exact setCell_row (heap_ext H3.out.2.1 HX4.out) _
 case c3=>exact (cell_other (by have:=HG.out;omega)).trans (heap_ext H3.out.2.2.1 HX4.out)
 case c4=>exact (cell_other (by have:=HG.out;omega)).trans (heap_ext H3.out.2.2.2.1 HX4.out)
 case c5=>exact own_at (H3.out.2.2.2.2.1.ext HX4.out) fun k hk=>cell_other (by have:=own_lo H3.out.2.2.2.2.1 k hk;have:=HG.out;omega)
 case c6=>exact own_base (own_at HO4.out fun k hk=>cell_other (by have:=own_lo HO4.out k hk;have:=HG.out;have:=H3.out.2.2.2.2.2.2;omega)) H3.out.2.2.2.2.2.2
 case c7=>exact (H3.out.2.2.2.2.2.1.trans HX4.out).setCell (by have:=HG.out;show w.heap.size≤gr;omega) _
 clear q0 l2 f0 HX4 HO4 H3
 rintro W5 ⟨h1,h2,h3,h4,h5,h6,x5⟩
 have H3:=zd h3
 have H4:=zd h4
 have H5:=zd h5
 have H6:=zd h6
 have X5:=zd x5
 have HB:Hid (∀ g,g∈rowB (.slice sa x.h.length sc)∨g∈rowB (.slice ua r.t.length uc)→W1.heap.size≤g):=zd fun g hg=>hg.elim (own_lo h5 g) (own_lo h6 g)
 refine wp_region_mix (af:=?af) [true,true,false,false] 18 (fun w'=>ExAt w' gx x (.slice sa x.h.length sc)∧RgAt w' gr r (.slice ua r.t.length uc)) (by kernel_rfl) rfl (by kernel_rfl) (fun _ _ h e=>⟨h.1.ext e,h.2.ext e⟩) ⟨h1.ext zR.drew,h2.ext zR.drew⟩ ?q ?r
 case q=>
  rintro w' ⟨k1,k2⟩
  simp only [pickT,if_true,if_false,Bool.false_eq_true]
  (go_big_quiet_want;refine quiet_load_rowX 33 _ rfl _ rfl _ _ (0,0) _ k1 zu33 rfl info_ex ?_;go_big_quiet_on;simp only [Act.put,List.setIfInBounds_toArray,List.set_cons_succ,List.set_cons_zero])
  (go_big_quiet_want;refine quiet_load_rowX 36 _ rfl _ rfl _ _ (0,0) _ k2 zu36 rfl info_range ?_;go_big_quiet_on;simp only [Act.put,List.setIfInBounds_toArray,List.set_cons_succ,List.set_cons_zero])
  refine wpQuiet_nil ?_
  exact rfl
 case r=>
  simp only [pickF,if_true,if_false,Bool.false_eq_true]
  intro x1
  have e1:Ext W5 x1.val:=(Ext.refl W5).drew.val x1
  go_wp2_with (refine wpList_store_row rfl 33 _ _ rfl ga (x.arr (.slice sa x.h.length sc)) rfl rfl 33 _ (heap_ext H3.out e1) info_ex rfl (arr_one x rfl) ?_)
  have n1:gx≠ga∧gr≠ga∧gx≠gb∧gr≠gb∧ga≠gb∧ga<W1.heap.size∧gb<W1.heap.size∧w.heap.size≤ga∧w.heap.size≤gb∧w.heap.size≤W1.heap.size:=by have:=HG.out;omega
  refine ⟨⟨(setRow_other _ _ _ _ n1.1).trans (h1.ext e1),(setRow_other _ _ _ _ n1.2.1).trans (h2.ext e1)⟩,?_⟩
  intro x2
  go_wp2_with (refine wpList_store_row rfl 36 _ _ rfl gb (r.arr (.slice ua r.t.length uc)) rfl rfl 36 _ (heap_ext ((setRow_other _ _ _ _ (Ne.symm n1.2.2.2.2.1)).trans (heap_ext H4.out e1)) x2.ext) info_range rfl (rg_one r rfl) ?_)
  refine ⟨⟨(setRow_other _ _ _ _ n1.2.2.1).trans (heap_ext ((setRow_other _ _ _ _ n1.1).trans (h1.ext e1)) x2.ext),(setRow_other _ _ _ _ n1.2.2.2.1).trans (heap_ext ((setRow_other _ _ _ _ n1.2.1).trans (h2.ext e1)) x2.ext)⟩,?_⟩
  intro x3
  have o5:Own x3.val w.heap.size x.h (.slice sa x.h.length sc):=own_base (own_ext (own_at (own_ext (own_at (H5.out.ext e1) fun k hk=>setRow_other _ _ _ _ (by have:=HB.out k (.inl hk);omega)) x2.ext) fun k hk=>setRow_other _ _ _ _ (by have:=HB.out k (.inl hk);omega)) x3.ext) n1.2.2.2.2.2.2.2.2.2
  have o6:x3.val.ownsRow w.heap.size 9 1 (.slice ua r.t.length uc) r.t.length (r.t.map Value.string):=own_base (own_ext (own_at (own_ext (own_at (own_ext H6.out e1) fun k hk=>setRow_other _ _ _ _ (by have:=HB.out k (.inr hk);omega)) x2.ext) fun k hk=>setRow_other _ _ _ _ (by have:=HB.out k (.inr hk);omega)) x3.ext) n1.2.2.2.2.2.2.2.2.2
  have k3:=heap_ext ((setRow_other _ _ _ (r.arr (.slice ua r.t.length uc)) n1.2.2.2.2.1).trans (heap_ext (setRow_heap _ _ _ (x.arr (.slice sa x.h.length sc)) _ _ (heap_ext H3.out e1)) x2.ext)) x3.ext
  have k4:=heap_ext (setRow_heap _ _ _ (r.arr (.slice ua r.t.length uc)) _ _ (heap_ext ((setRow_other _ _ _ (x.arr (.slice sa x.h.length sc)) (Ne.symm n1.2.2.2.2.1)).trans (heap_ext H4.out e1)) x2.ext)) x3.ext
  have xf:=((((X5.out.trans e1).setRow n1.2.2.2.2.2.2.2.1 (x.arr (.slice sa x.h.length sc))).val x2).setRow n1.2.2.2.2.2.2.2.2.1 (r.arr (.slice ua r.t.length uc))).val x3
  go_wp2_with fail
  refine bodyPost_ret (results_two rfl _ _ ga gb 33 36 (x.arr (.slice sa x.h.length sc)) (r.arr (.slice ua r.t.length uc)) (0,0) (0,0) _ _ rfl k3 zu33 rfl info_ex rfl k4 zu36 rfl info_range) rfl ?_
  exact ⟨(.slice sa x.h.length sc),(.slice ua r.t.length uc),rfl,o5,o6,xf⟩
theorem xrow_f {w:World} {B:Nat} {L:List (Ex×Value)} {v:Value} {i:Nat} {p:Ex×Value} (h:XRow w B L v) (hp:L[i]?=some p) :
 ∃ g cap,v = .slice (some ⟨g,0,none⟩) L.length cap∧g<w.heap.size∧L.length≤maxLen∧w.rangeAt g (i*26) (p.1.arr p.2).toList:=by
 have hi:=zM hp
 obtain ⟨_,⟨_,h0⟩|⟨g,cap,cur,hv,hb,hg,hn,hm,hs,hx⟩⟩:=h
 ·omega
 refine ⟨g,cap,hv,(zL hg),by omega,fun j v hj=>?_⟩
 have hjl:j<26:=zM hj
 have h2:=flat_get exC 26 exC_len L i p hp j (by omega)
 have h3:(exC p)[j]?=some v:=hj
 rw [h3,←hx,List.getElem?_take_of_lt (by omega)] at h2
 rw [cell_of_row w g _ cur _ (0,0) hg]
 simpa using h2
theorem info_rgA (r:Rg) (tv:Value):(Tryz.prog.info? 36).map (·.size)=some (r.arr tv).size:=by
 rw [show (r.arr tv).size=4 from rfl]
 kernel_rfl
theorem all_zero {most:Nat} {mv:Ex→List Mv} {x:Ex} : (allX most mv x).1[0]?=some x:=by
 obtain ⟨t,ht⟩:=outer_pre (most:=most) (mv:=mv) (most+1) 0 [x]
 unfold allX
 rw [←ht]
 rfl
theorem own_nil_or' {w:World} {B n:Nat} {e:TypeId} {size:Nat} {xs:List Value} {v:Value} (o:w.ownsRow B e size v n xs):v = .slice none 0 0∨∃ a n c,v = .slice (some a) n c:=by
 rcases o.2 with ⟨hv,_⟩|⟨g,cap,cur,hv,_⟩
 ·exact .inl hv
 ·exact .inr ⟨_,_,_,hv⟩
theorem moves_ok {evs:St→List Ev} {x:Ex} {r:Rg} {m:Mv} (h:m∈movesR evs x r):(stepX x m).2=true:=by
 unfold movesR at h
 obtain ⟨c,_,hz⟩:=mem_moves.1 (List.mem_filter.1 h).1
 rcases hz with ⟨rfl,he⟩|⟨_,rfl,he⟩
 ·exact he.1
 ·exact he.1
theorem closed_in {r:Rg} {x p:Ex} {m:Mv} (h:(allX (mostR r) (movesR evsS · r) x).2=true) (hp:p∈(allX (mostR r) (movesR evsS · r) x).1) (hm:m∈movesR evsS p r) : ∃ z∈(allX (mostR r) (movesR evsS · r) x).1,sameD z (stepX p m).1=true:=by
 obtain ⟨z,hz,hs⟩:=all_closed (show 1≤mostR r by unfold mostR;omega) h p hp m hm (moves_ok hm)
 exact ⟨z,hz,decide_eq_true hs.doc⟩
def clA (x:Ex) (v:Value) (r:Rg) (tv:Value) (pick move:Int):Array Value:=((x.arr v).toList++((r.arr tv).toList++([.int .i64 pick,.int .i64 move]:List Value))).toArray
theorem cl_range {w:World} {g:Nat} {x:Ex} {v:Value} {r:Rg} {tv:Value} {pick move:Int} (h:w.heap[g]?=some (.cells (clA x v r tv pick move) 75 (0,0))) :
 w.rangeAt g 0 (x.arr v).toList∧w.rangeAt g 26 (r.arr tv).toList∧w.cell? ⟨g,30,none⟩=some (.int .i64 pick)∧w.cell? ⟨g,31,none⟩=some (.int .i64 move)∧g<w.heap.size:=
 ⟨range_of_row h 0 26 _ rfl,range_of_row h 26 4 _ rfl,zQ h 30,zQ h 31,(zL h)⟩
theorem lw_closed (x:Ex) (v:Value) (r:Rg) (tv:Value) (pick move:Int) (w:World) (hR:Hrd w x v) (hv:v = .slice none 0 0∨∃ a n c,v = .slice (some a) n c) (hT:Row w 1 tv r.t.length (r.t.map Value.string)) (htv:tv = .slice none 0 0∨∃ a n c,tv = .slice (some a) n c) (hx:RngX x) (htab:TabW w) :
 Calls Tryz.prog 6 #[.agg (clA x v r tv pick move)] w fun e w'=>e = .returned (.bool true)∧Ext w w':=by
 have HR:=zd hR
 have HVV:=zd hv
 have HT:=zd hT
 have HTV:=zd htv
 have HX:=zd hx
 have HTAB:=zd htab
 have hv1:v.oneCell'=true:=by rcases hv with h|⟨_,_,_,h⟩<;>(rw [h];rfl)
 have htv1:tv.oneCell'=true:=by rcases htv with h|⟨_,_,_,h⟩<;>(rw [h];rfl)
 have HV1:=zd hv1
 have HTV1:=zd htv1
 clear hR hv hT htv hx htab hv1 htv1
 go_enter Tryz.func6,Tryz.ntmps6
 go_upto_region 1 with fail
 refine wp_forget (fun w'=>∃ gs,Hid (gs=w.heap.size)∧Hid (w'.heap[gs]?=some (.cells (clA x v r tv pick move) 75 (0,0)))∧Hid (Ext w w')) ⟨_,zd rfl,zd (one_new zR).1,zd (one_new zR).2⟩ ?_
 rintro W1 ⟨gs,hgs,HS1,HE1⟩
 rw [←hgs.out]
 clear hgs
 refine wp_region_mixR (af:=?af) [true,true,true,true,true,true,true,true,false,false,false,false,false,false] 101 #[true,true,true,true,true,true,true,true,false,false,false,false,false,false] (fun w'=>Ext W1 w') (by kernel_rfl) rfl (by kernel_rfl) (fun _ _ h e=>Ext.trans h e) zR.drew ?q ?r
 case q=>
  intro w' hw'
  obtain ⟨k1,k2,k3,k4,k5⟩:=cl_range (heap_ext HS1.out hw')
  have K1:=zd k1
  have K2:=zd k2
  clear k1 k2
  simp only [pickT,if_true,if_false,Bool.false_eq_true]
  go_big_quiet_step (fail)
  (go_big_quiet_want;refine quiet_load_midA 33 _ rfl gs (0) rfl (x.arr v) (.struct _) K1.out zu33 rfl info_ex ?_;go_big_quiet_on;simp only [Act.put,List.setIfInBounds_toArray,List.set_cons_succ,List.set_cons_zero])
  go_big_quiet_step (fail)
  (go_big_quiet_want;refine quiet_load_midA 36 _ rfl gs (26) rfl (r.arr tv) (.struct _) K2.out zu36 rfl (info_rgA r _) ?_;go_big_quiet_on;simp only [Act.put,List.setIfInBounds_toArray,List.set_cons_succ,List.set_cons_zero])
  repeat (go_big_quiet_step (fail))
  refine wpQuiet_nil ?_
  exact rfl
 case r=>
  refine wpAnyT_allocs (i:=8) (i2:=9) (L2:=#[true,true,true,true,true,true,true,true,true,true,false,false,false,false]) 33 36 exZ rgZ 3 4 (by decide) (by kernel_rfl) (by kernel_rfl) (by kernel_rfl) rfl rfl rfl rfl rfl rfl rfl rfl (fun a w=>by simp [go_sem,exZ]) (fun a w=>by simp [go_sem,rgZ]) (fun w' e=>(Ext.refl W1).drew.trans e) ?_
  intro gx gr w2 l1 l2 hne hx2 hr2 x2
  have x2':Ext W1 w2:=(Ext.refl W1).drew.trans x2
  have l1':W1.heap.size≤gx:=l1
  have l2':W1.heap.size≤gr:=l2
  simp only [Act.put,List.setIfInBounds_toArray,List.set_cons_succ,List.set_cons_zero]
  refine wpAnyT_one (i:=10) (by kernel_rfl) rfl ?_
  intro x3
  go_wp2_with (refine wpList_store_row rfl 33 _ _ rfl gx _ rfl rfl 33 _ (heap_ext hx2 x3.ext) info_ex rfl (arr_one x HV1.out) ?_)
  have e3:=(x2'.trans x3.ext).setRow l1' (x.arr v)
  refine ⟨fun _=>e3,?_⟩
  refine wpAnyT_one (i:=11) (by kernel_rfl) rfl ?_
  intro x4
  go_wp2_with (refine wpList_store_row rfl 36 _ _ rfl gr _ rfl rfl 36 _ (heap_ext ((setRow_other _ _ _ _ (Ne.symm hne)).trans (heap_ext hr2 x3.ext)) x4.ext) info_range rfl (rg_one r HTV1.out) ?_)
  have e4:=(e3.trans x4.ext).setRow l2' (r.arr tv)
  refine ⟨fun _=>e4,?_⟩
  have k1:=(setRow_other x4.val gr gx (r.arr tv) hne).trans (heap_ext (setRow_heap _ _ _ (x.arr v) _ _ (heap_ext hx2 x3.ext)) x4.ext)
  have k2:=setRow_heap _ _ _ (r.arr tv) _ _ (heap_ext ((setRow_other _ _ _ (x.arr v) (Ne.symm hne)).trans (heap_ext hr2 x3.ext)) x4.ext)
  generalize x4.val.setRow gr (r.arr tv)=W4 at e4 k1 k2 ⊢
  clear x4 e3 x3 hx2 hr2 x2 x2' l1 l2 w2
  refine wpAnyT_one (i:=12) (by kernel_rfl) rfl ?_
  intro x5
  go_wp2_with fail
  refine ⟨fun _=>e4.trans x5.ext,?_⟩
  refine wpAnyT_one (i:=13) (by kernel_rfl) rfl ?_
  intro x6
  go_wp2_with fail
  refine ⟨fun h=>absurd h (by decide),?_⟩
  refine wpAnyT_end (by kernel_rfl) fun x7=>?_
  have HXA:Hid (ExAt x7.val gx x v):=zd (heap_ext (heap_ext (heap_ext k1 x5.ext) x6.ext) x7.ext)
  have HRA:Hid (RgAt x7.val gr r tv):=zd (heap_ext (heap_ext (heap_ext k2 x5.ext) x6.ext) x7.ext)
  have HE2:Hid (Ext w x7.val):=zd (HE1.out.trans (((e4.trans x5.ext).trans x6.ext).trans x7.ext))
  generalize x7.val=W2 at HXA HRA HE2 ⊢
  clear x7 x6 x5 k1 k2 e4 W4 l1' l2' hne HS1 HE1
  have HLG:=zd (lw_largeX x v r tv W2 (HR.out.ext HE2.out) (HT.out.ext HE2.out))
  go_wp2_with (first|((with_reducible refine wpList_load_rowG ?_ 33 (.tmp 3) ?_ gx ?_ 33 (x.arr v) (0,0) _ ?_ zu33 ?_ ?_ ?_);(·rfl);(·rfl);(·rfl);(·exact HXA.out);(·rfl);(·exact info_ex))|((with_reducible refine wpList_load_rowG ?_ 36 (.tmp 4) ?_ gr ?_ 36 (r.arr tv) (0,0) _ ?_ zu36 ?_ ?_ ?_);(·rfl);(·rfl);(·rfl);(·exact HRA.out);(·rfl);(·exact info_range)))
  refine HLG.out.mono ?_
  rintro e w4 ⟨b,rfl,hb,hx4⟩
  have HE4:Hid (Ext w w4):=zd (HE2.out.trans hx4)
  have HX4:=zd hx4
  clear hx4 HLG
  rcases b
  case true=>
   clear hb
   go_wp2_with fail
   refine (lw_live _ (HTAB.out.ext HE4.out)).mono ?_
   rintro e w9 ⟨rfl,hx9⟩
   go_wp2_with fail
   go_ret
   exact ⟨rfl,HE4.out.trans hx9⟩
  obtain ⟨hxl,hrt,hrm⟩:=hb rfl
  clear hb
  by_cases hp0:pick<0
  case pos=>
   go_wp2_with fail
   refine (lw_live _ (HTAB.out.ext HE4.out)).mono ?_
   rintro e w9 ⟨rfl,hx9⟩
   go_wp2_with fail
   go_ret
   exact ⟨rfl,HE4.out.trans hx9⟩
  by_cases hm0:move<0
  case pos=>
   go_wp2_with fail
   refine (lw_live _ (HTAB.out.ext HE4.out)).mono ?_
   rintro e w9 ⟨rfl,hx9⟩
   go_wp2_with fail
   go_ret
   exact ⟨rfl,HE4.out.trans hx9⟩
  have HOWN:=zd (lw_own x v r tv w4 (HR.out.ext HE4.out) HVV.out (by omega) (HT.out.ext HE4.out) HTV.out (by omega))
  go_upto_region 5 with (first|((with_reducible refine wpList_load_rowG ?_ 33 (.tmp 3) ?_ gx ?_ 33 (x.arr v) (0,0) _ ?_ zu33 ?_ ?_ ?_);(·rfl);(·rfl);(·rfl);(·exact (HXA.out.ext HX4.out));(·rfl);(·exact info_ex))|((with_reducible refine wpList_load_rowG ?_ 36 (.tmp 4) ?_ gr ?_ 36 (r.arr tv) (0,0) _ ?_ zu36 ?_ ?_ ?_);(·rfl);(·rfl);(·rfl);(·exact (HRA.out.ext HX4.out));(·rfl);(·exact info_range))|(go_at_call 10;refine HOWN.out.mono ?_;rintro e w5 ⟨v1,tv1,rfl,ho,ht,hx5⟩;have HO:=zd ho;have HT1:=zd ht;have HX5:=zd hx5;have hone:v1.oneCell'=true:=(by obtain ⟨sa,sn,hsv⟩:=own_sl ho;rw [hsv];rfl);have htone:tv1.oneCell'=true:=(by obtain ⟨sa,sn,hsv⟩:=own_sl ht;rw [hsv];rfl);clear ho ht hx5)|(refine wpList_store_row rfl 33 _ _ rfl w5.heap.size _ rfl rfl 33 _ (heap_ext (heap_new rfl) (zR.alloc _)) info_ex rfl (arr_one x hone) ?_)|(refine wpList_store_row rfl 36 _ _ rfl (w5.heap.size+1) _ rfl rfl 36 _ ((setRow_other _ _ _ _ (by omega)).trans (heap_new (by simp))) info_range rfl (rg_one r htone) ?_))
  have hsz5:w4.heap.size≤w5.heap.size:=HX5.out.size
  refine wp_forget (fun w'=>∃ g7 g8,Hid (g7=w5.heap.size)∧Hid (g8=w5.heap.size+1)∧Hid (ExAt w' g7 x v1)∧Hid (RgAt w' g8 r tv1)∧Hid (Ext w5 w')) ⟨_,_,zd rfl,zd rfl,zd ((setRow_other _ _ _ _ (by omega)).trans (setRow_heap _ _ _ (x.arr v1) _ _ (heap_ext (heap_new rfl) (zR.alloc _)))),zd (setRow_heap _ _ _ (r.arr tv1) _ _ ((setRow_other _ _ _ _ (by omega)).trans (heap_new (by simp)))),zd (((((Ext.refl w5).alloc _).alloc _).setRow (by omega) _).setRow (by omega) _)⟩ ?_
  rintro W6 ⟨g7,g8,e7,e8,HX7,HR8,HE6⟩
  rw [←e8.out,←e7.out]
  clear e7 e8 hsz5 hone htone
  have HEW6:Hid (Ext w W6):=zd (HE4.out.trans (HX5.out.trans HE6.out))
  have HAL:=zd (ex_all x v1 _ r tv1 W6 (HO.out.ext HE6.out) (by omega) (Row.of_own (own_ext HT1.out HE6.out)) (by omega) (by omega) HX.out (HTAB.out.ext HEW6.out))
  go_upto_region 6 with (first|((with_reducible refine wpList_load_rowG ?_ 33 (.tmp 7) ?_ g7 ?_ 33 (x.arr v1) (0,0) _ ?_ zu33 ?_ ?_ ?_);(·rfl);(·rfl);(·rfl);(·exact HX7.out);(·rfl);(·exact info_ex))|((with_reducible refine wpList_load_rowG ?_ 36 (.tmp 8) ?_ g8 ?_ 36 (r.arr tv1) (0,0) _ ?_ zu36 ?_ ?_ ?_);(·rfl);(·rfl);(·rfl);(·exact HR8.out);(·rfl);(·exact info_range))|(go_at_call 11;refine HAL.out.mono ?_;rintro e w6 ⟨L,lv,hL,rfl,hr6,hok,hx6⟩;obtain ⟨la,lc,rfl⟩:=own_sl hr6;have HL:=zd hL;have HRL:=zd hr6;have HOK:=zd hok;have HX6:=zd hx6;clear hL hr6 hok hx6))
  refine wp_forget (fun w'=>w6=w') rfl ?_
  rintro _ rfl
  have HEW7:Hid (Ext w w6):=zd (HEW6.out.trans HX6.out)
  have HG6:Hid (Ext w4 w6):=zd (HX5.out.trans (HE6.out.trans HX6.out))
  have HXA6:Hid (ExAt w6 gx x v):=zd (HXA.out.ext (HX4.out.trans HG6.out))
  have HRA6:Hid (RgAt w6 gr r tv):=zd (HRA.out.ext (HX4.out.trans HG6.out))
  generalize hall:allX (mostR r) (movesR evsS · r) x=A at HL ⊢
  have HALL:=zd hall
  have hlen:L.length≤60:=by
   have h1:=all_le1 (mv:=(movesR evsS · r)) (x:=x) (show 1≤mostR r by unfold mostR;omega)
   rw [hall] at h1
   rw [←List.length_map (f:=(·.1)),HL.out]
   have h2:mostR r≤60:=by unfold mostR;omega
   omega
  obtain ⟨p0,hp0x,hp0L⟩ : ∃ p,p.1=x∧L[0]?=some p:=by
   have h0:=all_zero (most:=mostR r) (mv:=(movesR evsS · r)) (x:=x)
   rw [hall,←HL.out,List.getElem?_map] at h0
   cases hp:L[0]? with
   | none=>rw [hp] at h0;cases h0
   | some p=>rw [hp] at h0;cases h0;exact ⟨p,rfl,rfl⟩
  have hlpos:0<L.length:=zM hp0L
  clear hall HX7 HR8 HE6 HEW6 HAL HX5 HXA HRA HO HT1 HX4 HE4 HX6 HOWN
  obtain ⟨g0,c0,hlv,hgl,hmx,hrg0⟩:=xrow_f HRL.out hp0L
  cases hlv
  unfold maxLen at hmx
  have HGL:=zd hgl
  have HRG0:=zd hrg0
  have HS0:=zd (fun x1:ExtOf w6=>doc_same p0.1 x p0.2 v x1.val (Row.of_own (own_ext (HOK.out p0 (zE hp0L)).1.choose_spec x1.ext)) (HR.out.ext (HEW7.out.trans x1.ext)))
  have hs0:sameD p0.1 x=true:=by rw [hp0x];exact sameD_refl x
  rw [hs0] at HS0
  have hne0:((L.length:Int) == 0)=false:=by rw [beq_eq_false_iff_ne];omega
  clear hrg0 hs0 hp0x hp0L
  refine wp_region_ext (by kernel_rfl) (by kernel_rfl) ?_
  go_big_quiet_step (fail)
  go_big_quiet_step (fail)
  go_big_quiet_step (fail)
  go_big_quiet_step (fail)
  go_big_quiet_step (fail)
  go_big_quiet_step (fail)
  (go_big_quiet_want;refine quiet_load_midA 33 _ rfl g0 (0) rfl (p0.1.arr p0.2) (.struct _) (fun j v hj=>cell_keep (HRG0.out j v hj) zR) zu33 rfl info_ex ?_;go_big_quiet_on;simp only [Act.put,List.setIfInBounds_toArray,List.set_cons_succ,List.set_cons_zero])
  (go_big_quiet_want;refine quiet_load_rowX 33 _ rfl _ rfl _ _ (0,0) _ (HXA6.out) zu33 rfl info_ex ?_;go_big_quiet_on;simp only [Act.put,List.setIfInBounds_toArray,List.set_cons_succ,List.set_cons_zero])
  repeat (go_big_quiet_step ((go_at_call 16;exact calls_ext (HS0.out _))))
  refine wpQuiet_nil ?_
  rintro _ ⟨x24,rfl⟩
  have HE7:Hid (Ext w6 x24.val):=zd x24.ext
  generalize x24.val=W7 at HE7 ⊢
  clear x24 HS0 HRG0 HGL hne0
  have HEW8:Hid (Ext w W7):=zd (HEW7.out.trans HE7.out)
  rcases hd:A.2
  case false=>
   go_wp2_with fail
   refine (lw_live _ (HTAB.out.ext HEW8.out)).mono ?_
   rintro e w9 ⟨rfl,hx9⟩
   go_wp2_with fail
   go_ret
   exact ⟨rfl,HEW8.out.trans hx9⟩
  have HD:=zd hd
  clear hd
  obtain ⟨k,hk,hkl⟩ : ∃ k:Nat,Int.tmod pick (L.length:Int)=(k:Int)∧k<L.length:=by
   refine ⟨(Int.tmod pick (L.length:Int)).toNat,?_,?_⟩
   ·have:=Int.tmod_nonneg (L.length:Int) (show 0≤pick by omega)
    omega
   ·have h1:=Int.tmod_nonneg (L.length:Int) (show 0≤pick by omega)
    have h2:=Int.tmod_lt_of_pos pick (show (0:Int)<(L.length:Int) by omega)
    omega
  obtain ⟨p,hp⟩ : ∃ p,L[k]?=some p:=⟨_,zG hkl⟩
  obtain ⟨g1,c1,hlv,hgl,hmx2,hrg1⟩:=xrow_f (HRL.out.ext HE7.out) hp
  cases hlv
  have HRG1:=zd hrg1
  have HPL:=zd (zE hp)
  clear hrg1 hp
  have hp1:p.2.oneCell'=true:=by
   obtain ⟨⟨Bp,hop⟩,_⟩:=HOK.out p HPL.out
   obtain ⟨sa,sn,hsv⟩:=own_sl hop
   rw [hsv];rfl
  go_upto_region 11 with (first|((with_reducible refine wpList_load_midG 33 (.tmp 67) ?_ g0 (k*26) ?_ ?_ (p.1.arr p.2).toList _ ?_ zu33 ?_ ?_ ?_);(·rfl);(·rfl);(·kernel_rfl);(·exact (fun j v hj=>HRG1.out j v hj));(·rfl);(·exact info_ex))|(refine wpList_store_row rfl 33 _ _ rfl W7.heap.size _ rfl rfl 33 _ (heap_new rfl) info_ex rfl (arr_one p.1 hp1) ?_))
  refine wp_forget (fun w'=>∃ g11,Hid (g11=W7.heap.size)∧Hid (ExAt w' g11 p.1 p.2)∧Hid (Ext W7 w')) ⟨_,zd rfl,zd (setRow_heap _ _ _ (p.1.arr p.2) _ _ (heap_new rfl)),zd (((Ext.refl W7).alloc _).setRow zN _)⟩ ?_
  rintro W8 ⟨g11,e11,HX11,HE8⟩
  rw [←e11.out]
  clear e11
  have HEW9:Hid (Ext w W8):=zd (HEW8.out.trans HE8.out)
  have HE9:Hid (Ext w6 W8):=zd (HE7.out.trans HE8.out)
  obtain ⟨⟨Bp,hop⟩,hpx,hpl⟩:=HOK.out p HPL.out
  have HOP:=zd (own_ext hop HE9.out)
  have hpv:p.2 = .slice none 0 0∨∃ a n c,p.2 = .slice (some a) n c:=own_nil_or' hop
  have HPV:=zd hpv
  have HMV:=zd (rr_moves p.1 p.2 r tv W8 (Row.of_own HOP.out) hpv (by omega) (HT.out.ext HEW9.out) (by omega))
  have hml:(movesR evsS p.1 r).length≤10000:=by
   have h1:=movesS_len p.1 r.t (by omega)
   rw [movesR_eq]
   exact zT (List.length_filter_le _ _) h1
  have HCL:Hid (∀ m∈movesR evsS p.1 r,∃ z∈L,sameD z.1 (stepX p.1 m).1=true):=zd fun m hm=>by
   have h1:p.1∈(allX (mostR r) (movesR evsS · r) x).1:=by rw [HALL.out,←HL.out];exact List.mem_map_of_mem HPL.out
   obtain ⟨z,hz,hs⟩:=closed_in (by rw [HALL.out];exact HD.out) h1 hm
   rw [HALL.out,←HL.out] at hz
   obtain ⟨y,hy,rfl⟩:=List.mem_map.1 hz
   exact ⟨y,hy,hs⟩
  generalize movesR evsS p.1 r=C at HMV hml HCL
  clear hop hpv HE7 HE8 HRG1 hgl hk hkl HEW8 hp1
  go_upto_region 12 with (first|((with_reducible refine wpList_load_rowG ?_ 33 (.tmp 11) ?_ g11 ?_ 33 (p.1.arr p.2) (0,0) _ ?_ zu33 ?_ ?_ ?_);(·rfl);(·rfl);(·rfl);(·exact HX11.out);(·rfl);(·exact info_ex))|((with_reducible refine wpList_load_rowG ?_ 36 (.tmp 4) ?_ gr ?_ 36 (r.arr tv) (0,0) _ ?_ zu36 ?_ ?_ ?_);(·rfl);(·rfl);(·rfl);(·exact (HRA6.out.ext HE9.out));(·rfl);(·exact info_range))|(go_at_call 15;refine HMV.out.mono ?_;rintro e w8 ⟨mv,rfl,ho8,hx8⟩;obtain ⟨ma,mc,rfl,hmm,hmw⟩:=row_view (Row.of_own ho8);have HMW:=zd hmw;have HX8:=zd hx8;unfold maxLen at hmm;clear ho8 hx8 hmw))
  have HEWA:Hid (Ext w w8):=zd (HEW9.out.trans HX8.out)
  by_cases hc0:C.length=0
  case pos=>
   have hc1:((C.length:Int) == 0)=true:=by rw [beq_iff_eq];omega
   go_wp2_with fail
   refine (lw_live _ (HTAB.out.ext HEWA.out)).mono ?_
   rintro e w9 ⟨rfl,hx9⟩
   go_wp2_with fail
   go_ret
   exact ⟨rfl,HEWA.out.trans hx9⟩
  have hc1:((C.length:Int) == 0)=false:=by rw [beq_eq_false_iff_ne];omega
  go_upto_region 14 with fail
  obtain ⟨j,hj,hjl⟩ : ∃ j:Nat,Int.tmod move (C.length:Int)=(j:Int)∧j<C.length:=by
   refine ⟨(Int.tmod move (C.length:Int)).toNat,?_,?_⟩
   ·have:=Int.tmod_nonneg (C.length:Int) (show 0≤move by omega)
    omega
   ·have h1:=Int.tmod_nonneg (C.length:Int) (show 0≤move by omega)
    have h2:=Int.tmod_lt_of_pos move (show (0:Int)<(C.length:Int) by omega)
    omega
  obtain ⟨m,hm⟩ : ∃ m,C[j]?=some m:=⟨_,zG hjl⟩
  obtain ⟨gm,om,rfl,hgm,hmcell⟩:=HMW.out (by omega)
  have hgm:=hgm (by omega)
  have HMC:=zd (fun w' (hw:Ext w8 w')=>mv_cells (fun j u hj=>cell_keep (hmcell j u hj) hw) hm)
  have HGM:=zd hgm
  have hcl:=HCL.out m (zE hm)
  have hst:=fun w' (hw:Ext w8 w')=>rx_step p.1 p.2 m w' (Row.of_own (own_ext HOP.out (HX8.out.trans hw))) HPV.out (by omega)
  generalize stepX p.1 m=sr at hcl hst
  obtain ⟨z,ok⟩:=sr
  simp only at hcl hst
  have HCZ:=zd hcl
  have HST:=zd hst
  clear hcl hst hmcell hgm hm
  refine wp_region_mixF (af:=?af2) exZ 33 [true,true,true,true,true,true,true,true,false,false,false,false,false,false,false] [false,false,false,false,false,false,false,false,false,true,true,true,false,false,true] 101 4 (C:=Ext w8) (by kernel_rfl) rfl (by kernel_rfl) (fun _ _ h e=>Ext.trans h e) zR.drew ?q2 ?r2
  case q2=>
   intro w' hw'
   obtain ⟨q0,q1,q2,q3,q4,q5,q6,q7,q8⟩:=HMC.out w' hw'
   have lgm:=zU HGM.out hw'.size
   simp only [pickT,if_true,if_false,Bool.false_eq_true]
   (go_big_quiet_want;refine quiet_load_rowX 33 _ rfl _ rfl _ _ (0,0) _ (HX11.out.ext (HX8.out.trans hw')) zu33 rfl info_ex ?_;go_big_quiet_on;simp only [Act.put,List.setIfInBounds_toArray,List.set_cons_succ,List.set_cons_zero])
   repeat (go_big_quiet_step (fail))
   exact rfl
  case r2=>
   simp only [restL,if_true,if_false,Bool.false_eq_true]
   refine ⟨fun a w=>by simp [go_sem,exZ],?_⟩
   intro x1
   go_wp2_with fail
   refine (HST.out _ ((Ext.refl w8).drew.val x1)).mono ?_
   rintro e w9 ⟨vz,rfl,hoz,hx9⟩
   have hz1:vz.oneCell'=true:=by obtain ⟨sa,sn,hsv⟩:=own_sl hoz;rw [hsv];rfl
   go_wp2_with fail
   refine ⟨hx9,?_⟩
   refine ⟨_,.inl ⟨rfl,fun w _=>⟨rfl,rfl⟩⟩,?_⟩
   refine ⟨_,.inl ⟨rfl,fun w _=>⟨rfl,rfl⟩⟩,?_⟩
   refine ⟨_,.inl ⟨rfl,fun w _=>⟨rfl,rfl⟩⟩,?_⟩
   intro x2 gT hgT hzT
   have e2:Ext w8 x2.val:=(((Ext.refl w8).drew.val x1).trans hx9).val x2
   intro x3
   go_wp2_with (refine wpList_store_row rfl 33 _ _ rfl gT _ rfl rfl 33 _ (heap_ext hzT x3.ext) info_ex rfl (arr_one z hz1) ?_)
   refine ⟨(e2.val x3).setRow hgT _,?_⟩
   refine ⟨_,.inl ⟨rfl,fun w _=>⟨rfl,rfl⟩⟩,?_⟩
   intro x4
   have HZ9:Hid (ExAt x4.val gT z vz):=zd (heap_ext (setRow_heap _ _ _ (z.arr vz) _ _ (heap_ext hzT x3.ext)) x4.ext)
   have HEW:Hid (Ext w8 x4.val):=zd (((e2.val x3).setRow hgT _).val x4)
   have HOZ:Hid (Own x4.val w8.heap.size z.h vz):=zd (own_base (own_ext (own_setRow (own_ext hoz (x2.ext.trans x3.ext)) (heap_ext hzT x3.ext) (by decide) _) x4.ext) ((Ext.refl w8).drew.val x1).size)
   generalize x4.val=W9 at HZ9 HEW HOZ ⊢
   clear x4 x3 e2 hzT x2 hx9 hoz hz1 hgT
   have HEWB:Hid (Ext w W9):=zd (HEWA.out.trans HEW.out)
   have HE6B:Hid (Ext w6 W9):=zd (HE9.out.trans (HX8.out.trans HEW.out))
   go_wp2_with fail
   go_loopg [15] L.length (fun g ii wr=>∃ i:Nat,ii = .int .i64 (i:Int)∧i+g=L.length∧Hid (Ext W9 wr)∧Hid (∀ q∈L.take i,sameD q.1 z=false))
   case atStart=>exact ⟨0,rfl,by omega,zd zR,zd fun q hq=>by simp at hq⟩
   case round=>
    obtain ⟨i,rfl,hg,HER,HNO⟩:=hrel
    rename World=>Wr
    by_cases hlt:i<L.length
    case neg=>
     exfalso
     obtain ⟨q,hq,hs⟩:=HCZ.out
     have:=HNO.out q (by rw [List.take_of_length_le (by omega)];exact hq)
     rw [hs] at this
     cases this
    have i1:(i:Int)<(L.length:Int):=by omega
    obtain ⟨q,hq⟩ : ∃ q,L[i]?=some q:=⟨_,zG hlt⟩
    obtain ⟨gq,cq,hlv,hgq,hmx3,hrq⟩:=xrow_f (HRL.out.ext (HE6B.out.trans HER.out)) hq
    cases hlv
    have HRQ:=zd hrq
    obtain ⟨⟨Bq,hoq⟩,_⟩:=HOK.out q (zE hq)
    have hs:=fun x1:ExtOf Wr=>doc_same q.1 z q.2 vz x1.val (Row.of_own (own_ext hoq ((HE6B.out.trans HER.out).trans x1.ext))) (Row.of_own (own_ext HOZ.out (HER.out.trans x1.ext)))
    have HQ:=zd hq
    generalize hb:sameD q.1 z=b at hs
    have HB:=zd hb
    have HS:=zd hs
    clear hrq hoq hs hq hb
    go_upto_region 18 with fail
    refine wp_region_ext (by kernel_rfl) (by kernel_rfl) ?_
    go_big_quiet_step (fail)
    go_big_quiet_step (fail)
    go_big_quiet_step (fail)
    (go_big_quiet_want;refine quiet_load_midA 33 _ rfl g0 (i*26) rfl (q.1.arr q.2) (.struct _) (fun j v hj=>HRQ.out j v hj) zu33 rfl info_ex ?_;go_big_quiet_on;simp only [Act.put,List.setIfInBounds_toArray,List.set_cons_succ,List.set_cons_zero])
    (go_big_quiet_want;refine quiet_load_rowX 33 _ rfl _ rfl _ _ (0,0) _ (HZ9.out.ext HER.out) zu33 rfl info_ex ?_;go_big_quiet_on;simp only [Act.put,List.setIfInBounds_toArray,List.set_cons_succ,List.set_cons_zero])
    repeat (go_big_quiet_step ((go_at_call 16;exact calls_ext (HS.out _))))
    refine wpQuiet_nil ?_
    rintro _ ⟨x24,rfl⟩
    have HEWD:Hid (Ext w x24.val):=zd (HEWB.out.trans (HER.out.trans x24.ext))
    rcases b
    case true=>
     go_wp2_with fail
     refine (lw_live _ (HTAB.out.ext HEWD.out)).mono ?_
     rintro e w9 ⟨rfl,hx9⟩
     go_wp2_with fail
     go_ret
     exact ⟨rfl,HEWD.out.trans hx9⟩
    case false=>
     go_wp2_with fail
     go_roundg (gk - 1)
     case rel=>
      refine ⟨i+1,by simp,by omega,zd (HER.out.trans x24.ext),zd fun q' hq'=>?_⟩
      rw [List.take_add_one,HQ.out] at hq'
      rcases List.mem_append.1 hq' with h|h
      ·exact HNO.out q' h
      ·simp only [Option.toList_some,List.mem_singleton] at h
       rw [h];exact HB.out
     case measure=>omega
end Go.Proofs.YtlnmhocehgmbbaaGreatDoor

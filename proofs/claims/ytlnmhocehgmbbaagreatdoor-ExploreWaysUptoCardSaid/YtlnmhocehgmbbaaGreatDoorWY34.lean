/- No condition. -/
import Derived.Test.YtlnmhocehgmbbaaGreatDoorWY23
import Derived.Test.YtlnmhocehgmbbaaGreatDoorWY32
import Derived.Test.YtlnmhocehgmbbaaGreatDoorWY33
set_option linter.all false
set_option maxRecDepth 100000
set_option maxHeartbeats 6400000
namespace Go.Proofs.YtlnmhocehgmbbaaGreatDoor
open Go.RowKit
attribute [local go_sem ↓] eql_lEq eql_sEq eql_eEq eql_oEq neq_lEq neq_sEq neq_eEq neq_oEq eql_vEq neq_vEq eql_nil
attribute [local go_sem] ExtOf.cell ExtOf.frozen ExtOf.lt ExtOf.le
attribute [local go_sem high] ExtOf.cell2 ExtOf.frozen2 ExtOf.lt2 ExtOf.cell3 ExtOf.frozen3 ExtOf.lt3

theorem sl_containsI (v:Value) (L:List Int) (l:Int) (w:World) (hR:Row w 1 v L.length (L.map vI)) :
 Calls Tryz.prog 43 #[v,.int .i64 l] w fun e w'=>e = .returned (.bool (decide (l∈L)))∧Ext w w':=by
 have key:Calls Tryz.prog 72 #[v,.int .i64 l] w fun e w'=>∃ n:Int,e = .returned (.int .i64 n)∧decide (0≤n)=decide (l∈L)∧Ext w w':=by
  obtain ⟨a,cap,rfl,hm,hvw⟩:=row_view hR
  have HV:=zd hvw
  clear hvw hR
  unfold maxLen at hm
  go_enter Tryz.func72,Tryz.ntmps72
  go_wp2_with fail
  go_loopg [8] L.length (fun g ii wr=>∃ n:Nat,ii = .int .i64 (n:Int)∧n+g=L.length∧wr=w∧Hid (l∉L.take n))
  case atStart=>exact ⟨0,rfl,by omega,rfl,zd (by simp)⟩
  case round=>
   obtain ⟨n,rfl,hg,rfl,HN⟩:=hrel
   rename World=>w
   by_cases hlt:n<L.length
   ·obtain ⟨g,off,rfl,hgl,hcell⟩:=HV.out (by omega)
    have hgl:=hgl (by omega)
    obtain ⟨z,hz⟩ : ∃ z,L[n]?=some z:=⟨_,zG hlt⟩
    have q0:w.cell? ⟨g,off+n,none⟩=some (.int .i64 z):=hcell n _ (by rw [List.getElem?_map,hz];rfl)
    have HZ:=zd hz
    clear hcell hz
    have hlt':(n:Int)<(L.length:Int):=by omega
    by_cases he:l=z
    ·have he':(l == z)=true:=by simpa using he
     have HE:=zd he
     clear he
     go_wp2_with fail
     go_ret
     refine ⟨n,rfl,?_,zR⟩
     rw [decide_eq_decide]
     exact ⟨fun _=>HE.out ▸ zE HZ.out,fun _=>by omega⟩
    ·have he':(l == z)=false:=by simpa using he
     have HE:=zd he
     clear he
     go_wp2_with fail
     go_roundg (gk - 1)
     case rel=>
      refine ⟨n+1,rfl,by omega,rfl,zd fun h=>?_⟩
      rw [List.take_add_one,HZ.out] at h
      rcases List.mem_append.1 h with h|h
      ·exact HN.out h
      ·exact HE.out (by simpa using h)
     case measure=>omega
   ·have hge:(L.length:Int)≤(n:Int):=by omega
    go_wp2_with fail
    go_ret
    refine ⟨-1,rfl,?_,zR⟩
    rw [decide_eq_decide]
    refine ⟨fun h=>by omega,fun h=>absurd h ?_⟩
    have:=HN.out
    rwa [List.take_of_length_le (by omega)] at this
 have HK:=zd key
 clear key hR
 go_enter Tryz.func43,Tryz.ntmps43
 go_wp2_with (go_at_call 72;refine HK.out.mono ?_;rintro e w2 ⟨n,rfl,hn,hx⟩)
 go_ret
 exact ⟨by rw [←hn];rfl,hx⟩
structure Wi where
 p0:Int
 p1:Int
 vd:Int
 bk:Int
 ms:Int
def Wi.arr (q:Wi):Array Value:=#[.int .i64 q.p0,.int .i64 q.p1,.int .i64 q.vd,.int .i64 q.bk,.int .i64 q.ms]
def tst (p h:Int):Bool:=decide (p<0) || decide (h=p)
def brkT (b:Int) (x:Ex):Bool:=if b<0 then okX x else if b=0 then true else decide (b∈brkX x)
def bndT (m:Int) (x:Ex):Bool:=decide (m<0) || decide (0<(boundX x m).length)
def meetS (q:Wi) (x:Ex):Bool:=tst q.p0 x.s0.ph && (tst q.p1 x.s1.ph && (tst q.vd x.v.k && (brkT q.bk x && bndT q.ms x)))
theorem tst_no {p h:Int} (h1:0≤p) (h2 : ¬h=p):tst p h=false:=by simp [tst,h2];omega
theorem tst_yes {p h:Int} (h1 : ¬(0≤p∧¬h=p)):tst p h=true:=by
 simp [tst]
 omega
theorem ix2_0 (a b:Int) (w:World):(Instr.index 55 (.agg #[.int .i64 a,.int .i64 b]) (.int .i64 0)).run Tryz.prog w = .ok (.int .i64 a) w:=by kernel_rfl
theorem ix2_1 (a b:Int) (w:World):(Instr.index 55 (.agg #[.int .i64 a,.int .i64 b]) (.int .i64 1)).run Tryz.prog w = .ok (.int .i64 b) w:=by kernel_rfl
attribute [local go_sem ↓] ix2_0 ix2_1
theorem ex_meets (x:Ex) (v:Value) (q:Wi) (w:World) (hR:Hrd w x v) (hn:x.h.length≤100000) :
 Calls Tryz.prog 23 #[.agg (x.arr v),.agg q.arr] w fun e w'=>e = .returned (.bool (meetS q x))∧Ext w w':=by
 have HR:=zd hR
 clear hR
 go_enter Tryz.func23,Tryz.ntmps23
 go_upto_region 1 with fail
 refine wp_forget (fun w'=>∃ gx gq,Hid (gx=w.heap.size∧gq=w.heap.size+1)∧ExAt w' gx x v∧w'.heap[gq]?=some (.cells q.arr 62 (0,0))∧Ext w w') ⟨_,_,zd ⟨rfl,rfl⟩,(two_new zR).1,(two_new zR).2.1,(two_new zR).2.2⟩ ?_
 rintro W1 ⟨gx,gq,hgx,h1,h2,x1⟩
 rw [←hgx.out.2,←hgx.out.1]
 have HE1:=zd x1
 have HX1:=zd h1
 have HQ1:=zd h2
 clear hgx x1
 have q4:W1.cell? ⟨gx,4,none⟩=some (.int .i64 x.s0.ph):=zQ h1 4
 have q13:W1.cell? ⟨gx,13,none⟩=some (.int .i64 x.s1.ph):=zQ h1 13
 have q20:W1.cell? ⟨gx,20,none⟩=some (.int .i64 x.v.k):=zQ h1 20
 have p0:W1.cell? ⟨gq,0,none⟩=some (.int .i64 q.p0):=zQ h2 0
 have p1:W1.cell? ⟨gq,1,none⟩=some (.int .i64 q.p1):=zQ h2 1
 have p2:W1.cell? ⟨gq,2,none⟩=some (.int .i64 q.vd):=zQ h2 2
 have l1:gx<W1.heap.size:=zL h1
 have l2:gq<W1.heap.size:=zL h2
 clear h1 h2
 go_wp2_with fail
 go_loopg [10] 2 (fun g ii wr=>∃ i:Int,ii = .int .i64 i∧i+(g:Int)=2∧0≤i∧wr=W1∧Hid ((0<i→tst q.p0 x.s0.ph=true)∧(1<i→tst q.p1 x.s1.ph=true)))
 case atStart=>exact ⟨0,rfl,rfl,by omega,rfl,zd ⟨fun h=>by omega,fun h=>by omega⟩⟩
 case round=>
  obtain ⟨i,rfl,hg,hi0,rfl,HT⟩:=hrel
  rename World=>W1
  have hi:i=0∨i=1∨i=2:=by omega
  rcases hi with rfl|rfl|rfl
  ·have e0:(0:Int)<2:=by decide
   by_cases ha:0≤q.p0∧¬x.s0.ph=q.p0
   case pos=>
    have ha1:=ha.1
    have ha2:=ha.2
    go_wp2_with fail
    go_ret
    exact ⟨by rw [show meetS q x=false by simp [meetS,tst_no ha1 ha2]];rfl,HE1.out⟩
   have ht:=tst_yes ha
   have HT2:=zd ht
   clear ht
   by_cases ha1:0≤q.p0
   case neg=>
    clear ha
    go_wp2_with fail
    go_roundg (gk - 1)
    case rel=>exact ⟨1,rfl,by omega,by omega,rfl,zd ⟨fun _=>HT2.out,fun h=>absurd h (by omega)⟩⟩
    case measure=>omega
   have ha2:x.s0.ph=q.p0:=Classical.byContradiction fun hn=>ha ⟨ha1,hn⟩
   clear ha
   go_wp2_with fail
   go_roundg (gk - 1)
   case rel=>exact ⟨1,rfl,by omega,by omega,rfl,zd ⟨fun _=>HT2.out,fun h=>absurd h (by omega)⟩⟩
   case measure=>omega
  ·have e0:(1:Int)<2:=by decide
   by_cases ha:0≤q.p1∧¬x.s1.ph=q.p1
   case pos=>
    have ha1:=ha.1
    have ha2:=ha.2
    go_wp2_with fail
    go_ret
    exact ⟨by rw [show meetS q x=false by simp [meetS,tst_no ha1 ha2]];rfl,HE1.out⟩
   have ht:=tst_yes ha
   have HT2:=zd ht
   clear ht
   by_cases ha1:0≤q.p1
   case neg=>
    clear ha
    go_wp2_with fail
    go_roundg (gk - 1)
    case rel=>exact ⟨2,rfl,by omega,by omega,rfl,zd ⟨fun _=>HT.out.1 (by omega),fun h=>HT2.out⟩⟩
    case measure=>omega
   have ha2:x.s1.ph=q.p1:=Classical.byContradiction fun hn=>ha ⟨ha1,hn⟩
   clear ha
   go_wp2_with fail
   go_roundg (gk - 1)
   case rel=>exact ⟨2,rfl,by omega,by omega,rfl,zd ⟨fun _=>HT.out.1 (by omega),fun h=>HT2.out⟩⟩
   case measure=>omega
  ·have e0 : ¬(2:Int)<2:=by decide
   by_cases ha:0≤q.vd∧¬x.v.k=q.vd
   case pos=>
    have ha1:=ha.1
    have ha2:=ha.2
    go_wp2_with fail
    go_ret
    exact ⟨by rw [show meetS q x=false by simp [meetS,tst_no ha1 ha2]];rfl,HE1.out⟩
   have ht:=tst_yes ha
   have HT2:Hid (meetS q x=(brkT q.bk x && bndT q.ms x)):=zd (by unfold meetS;rw [HT.out.1 (by omega),HT.out.2 (by omega),ht];rfl)
   clear ht
   by_cases ha1:0≤q.vd
   case neg=>
    clear ha
    go_upto_region 10 with (first|((with_reducible refine wpList_load_rowG ?_ 33 (.tmp 2) ?_ gx ?_ 33 (x.arr v) (0,0) _ ?_ zu33 ?_ ?_ ?_);(·rfl);(·rfl);(·rfl);(·exact HX1.out);(·rfl);(·exact info_ex))|(go_at_call 37;refine (mo_brokenL x v W1 (HR.out.ext HE1.out) hn).mono ?_;rintro e w5 ⟨bv,rfl,hb5,hx5⟩;obtain ⟨ba,bc,rfl⟩:=own_sl hb5;have HCN:=zd (fun l=>sl_containsI _ (brkX x) l w5 (Row.of_own hb5));have hbk:=brk_ok x;generalize (brkX x).length=bn at HCN hbk ⊢;have HBK:=zd hbk;have HX5:=zd (HE1.out.trans hx5);have HXA5:=zd (HX1.out.ext hx5);have hq5:=heap_ext HQ1.out hx5;clear p0 p1 p2 q4 q13 q20 l1 l2 hb5 hx5 hbk))
    have p3:w5.cell? ⟨gq,3,none⟩=some (.int .i64 q.bk):=zQ hq5 3
    have p4:w5.cell? ⟨gq,4,none⟩=some (.int .i64 q.ms):=zQ hq5 4
    have l2:gq<w5.heap.size:=zL hq5
    have HQ5:=zd hq5
    clear hq5
    by_cases hb0:q.bk<0
    case pos=>
     rcases hko:okX x
     case false=>
      have hbn:(0:Int)<(bn:Int):=by have:=HBK.out;rw [hko,beq_eq_false_iff_ne] at this;omega
      have HKF:Hid (brkT q.bk x=false):=zd (by unfold brkT;rw [if_pos hb0];exact hko)
      clear hko
      go_wp2_with fail
      go_ret
      exact ⟨by rw [HT2.out,HKF.out];rfl,HX5.out⟩
     have hbn : ¬(0:Int)<(bn:Int):=by have:=HBK.out;rw [hko,beq_iff_eq] at this;omega
     have HKT:Hid (brkT q.bk x=true):=zd (by unfold brkT;rw [if_pos hb0];exact hko)
     clear hko
     have hb1 : ¬0<q.bk:=by omega
     go_upto_region 12 with fail
     by_cases hm0:q.ms<0
     case pos=>
      go_wp2_with fail
      go_ret
      exact ⟨by rw [HT2.out,HKT.out,show bndT q.ms x=true by simp [bndT,hm0]];rfl,HX5.out⟩
     have HBD:=zd (mo_bound x v q.ms w5 (HR.out.ext HX5.out) hn)
     by_cases hbd:0<(boundX x q.ms).length
     case pos=>
      have hbd':(0:Int)<((boundX x q.ms).length:Int):=by omega
      go_wp2_with (first|((with_reducible refine wpList_load_rowG ?_ 33 (.tmp 2) ?_ gx ?_ 33 (x.arr v) (0,0) _ ?_ zu33 ?_ ?_ ?_);(·rfl);(·rfl);(·rfl);(·exact HXA5.out);(·rfl);(·exact info_ex))|(go_at_call 44;refine HBD.out.mono ?_;rintro e w7 ⟨da,dc,rfl,hx7⟩))
      go_ret
      exact ⟨by rw [HT2.out,HKT.out,show bndT q.ms x=true by simp [bndT,hbd]];rfl,(HX5.out).trans hx7⟩
     have hbd' : ¬(0:Int)<((boundX x q.ms).length:Int):=by omega
     go_wp2_with (first|((with_reducible refine wpList_load_rowG ?_ 33 (.tmp 2) ?_ gx ?_ 33 (x.arr v) (0,0) _ ?_ zu33 ?_ ?_ ?_);(·rfl);(·rfl);(·rfl);(·exact HXA5.out);(·rfl);(·exact info_ex))|(go_at_call 44;refine HBD.out.mono ?_;rintro e w7 ⟨da,dc,rfl,hx7⟩))
     go_ret
     exact ⟨by rw [HT2.out,HKT.out,show bndT q.ms x=false by simp [bndT,hbd];omega];rfl,(HX5.out).trans hx7⟩
    by_cases hb1:0<q.bk
    case neg=>
     have HKT:Hid (brkT q.bk x=true):=zd (by unfold brkT;rw [if_neg hb0,if_pos (by omega)])
     go_upto_region 12 with fail
     by_cases hm0:q.ms<0
     case pos=>
      go_wp2_with fail
      go_ret
      exact ⟨by rw [HT2.out,HKT.out,show bndT q.ms x=true by simp [bndT,hm0]];rfl,HX5.out⟩
     have HBD:=zd (mo_bound x v q.ms w5 (HR.out.ext HX5.out) hn)
     by_cases hbd:0<(boundX x q.ms).length
     case pos=>
      have hbd':(0:Int)<((boundX x q.ms).length:Int):=by omega
      go_wp2_with (first|((with_reducible refine wpList_load_rowG ?_ 33 (.tmp 2) ?_ gx ?_ 33 (x.arr v) (0,0) _ ?_ zu33 ?_ ?_ ?_);(·rfl);(·rfl);(·rfl);(·exact HXA5.out);(·rfl);(·exact info_ex))|(go_at_call 44;refine HBD.out.mono ?_;rintro e w7 ⟨da,dc,rfl,hx7⟩))
      go_ret
      exact ⟨by rw [HT2.out,HKT.out,show bndT q.ms x=true by simp [bndT,hbd]];rfl,(HX5.out).trans hx7⟩
     have hbd' : ¬(0:Int)<((boundX x q.ms).length:Int):=by omega
     go_wp2_with (first|((with_reducible refine wpList_load_rowG ?_ 33 (.tmp 2) ?_ gx ?_ 33 (x.arr v) (0,0) _ ?_ zu33 ?_ ?_ ?_);(·rfl);(·rfl);(·rfl);(·exact HXA5.out);(·rfl);(·exact info_ex))|(go_at_call 44;refine HBD.out.mono ?_;rintro e w7 ⟨da,dc,rfl,hx7⟩))
     go_ret
     exact ⟨by rw [HT2.out,HKT.out,show bndT q.ms x=false by simp [bndT,hbd];omega];rfl,(HX5.out).trans hx7⟩
    have hcon:=HCN.out q.bk
    rcases hc:decide (q.bk∈brkX x)
    case false=>
     rw [hc] at hcon
     have HCON:=zd hcon
     have HKF:Hid (brkT q.bk x=false):=zd (by unfold brkT;rw [if_neg hb0,if_neg (by omega)];exact hc)
     clear hcon hc
     go_wp2_with (go_at_call 43;refine HCON.out.mono ?_;rintro e w6 ⟨rfl,hx6⟩)
     go_ret
     exact ⟨by rw [HT2.out,HKF.out];rfl,HX5.out.trans hx6⟩
    rw [hc] at hcon
    have HCON:=zd hcon
    have HKT:Hid (brkT q.bk x=true):=zd (by unfold brkT;rw [if_neg hb0,if_neg (by omega)];exact hc)
    clear hcon hc
    go_upto_region 12 with (go_at_call 43;refine HCON.out.mono ?_;rintro e w6 ⟨rfl,hx6⟩;have p4:=cell_keep p4 hx6;have l2:=zU l2 hx6.size;clear p3)
    by_cases hm0:q.ms<0
    case pos=>
     go_wp2_with fail
     go_ret
     exact ⟨by rw [HT2.out,HKT.out,show bndT q.ms x=true by simp [bndT,hm0]];rfl,(HX5.out.trans hx6)⟩
    have HBD:=zd (mo_bound x v q.ms w6 (HR.out.ext (HX5.out.trans hx6)) hn)
    by_cases hbd:0<(boundX x q.ms).length
    case pos=>
     have hbd':(0:Int)<((boundX x q.ms).length:Int):=by omega
     go_wp2_with (first|((with_reducible refine wpList_load_rowG ?_ 33 (.tmp 2) ?_ gx ?_ 33 (x.arr v) (0,0) _ ?_ zu33 ?_ ?_ ?_);(·rfl);(·rfl);(·rfl);(·exact (HXA5.out.ext hx6));(·rfl);(·exact info_ex))|(go_at_call 44;refine HBD.out.mono ?_;rintro e w7 ⟨da,dc,rfl,hx7⟩))
     go_ret
     exact ⟨by rw [HT2.out,HKT.out,show bndT q.ms x=true by simp [bndT,hbd]];rfl,((HX5.out.trans hx6)).trans hx7⟩
    have hbd' : ¬(0:Int)<((boundX x q.ms).length:Int):=by omega
    go_wp2_with (first|((with_reducible refine wpList_load_rowG ?_ 33 (.tmp 2) ?_ gx ?_ 33 (x.arr v) (0,0) _ ?_ zu33 ?_ ?_ ?_);(·rfl);(·rfl);(·rfl);(·exact (HXA5.out.ext hx6));(·rfl);(·exact info_ex))|(go_at_call 44;refine HBD.out.mono ?_;rintro e w7 ⟨da,dc,rfl,hx7⟩))
    go_ret
    exact ⟨by rw [HT2.out,HKT.out,show bndT q.ms x=false by simp [bndT,hbd];omega];rfl,((HX5.out.trans hx6)).trans hx7⟩
   have ha2:x.v.k=q.vd:=Classical.byContradiction fun hn=>ha ⟨ha1,hn⟩
   clear ha
   go_upto_region 10 with (first|((with_reducible refine wpList_load_rowG ?_ 33 (.tmp 2) ?_ gx ?_ 33 (x.arr v) (0,0) _ ?_ zu33 ?_ ?_ ?_);(·rfl);(·rfl);(·rfl);(·exact HX1.out);(·rfl);(·exact info_ex))|(go_at_call 37;refine (mo_brokenL x v W1 (HR.out.ext HE1.out) hn).mono ?_;rintro e w5 ⟨bv,rfl,hb5,hx5⟩;obtain ⟨ba,bc,rfl⟩:=own_sl hb5;have HCN:=zd (fun l=>sl_containsI _ (brkX x) l w5 (Row.of_own hb5));have hbk:=brk_ok x;generalize (brkX x).length=bn at HCN hbk ⊢;have HBK:=zd hbk;have HX5:=zd (HE1.out.trans hx5);have HXA5:=zd (HX1.out.ext hx5);have hq5:=heap_ext HQ1.out hx5;clear p0 p1 p2 q4 q13 q20 l1 l2 hb5 hx5 hbk))
   have p3:w5.cell? ⟨gq,3,none⟩=some (.int .i64 q.bk):=zQ hq5 3
   have p4:w5.cell? ⟨gq,4,none⟩=some (.int .i64 q.ms):=zQ hq5 4
   have l2:gq<w5.heap.size:=zL hq5
   have HQ5:=zd hq5
   clear hq5
   by_cases hb0:q.bk<0
   case pos=>
    rcases hko:okX x
    case false=>
     have hbn:(0:Int)<(bn:Int):=by have:=HBK.out;rw [hko,beq_eq_false_iff_ne] at this;omega
     have HKF:Hid (brkT q.bk x=false):=zd (by unfold brkT;rw [if_pos hb0];exact hko)
     clear hko
     go_wp2_with fail
     go_ret
     exact ⟨by rw [HT2.out,HKF.out];rfl,HX5.out⟩
    have hbn : ¬(0:Int)<(bn:Int):=by have:=HBK.out;rw [hko,beq_iff_eq] at this;omega
    have HKT:Hid (brkT q.bk x=true):=zd (by unfold brkT;rw [if_pos hb0];exact hko)
    clear hko
    have hb1 : ¬0<q.bk:=by omega
    go_upto_region 12 with fail
    by_cases hm0:q.ms<0
    case pos=>
     go_wp2_with fail
     go_ret
     exact ⟨by rw [HT2.out,HKT.out,show bndT q.ms x=true by simp [bndT,hm0]];rfl,HX5.out⟩
    have HBD:=zd (mo_bound x v q.ms w5 (HR.out.ext HX5.out) hn)
    by_cases hbd:0<(boundX x q.ms).length
    case pos=>
     have hbd':(0:Int)<((boundX x q.ms).length:Int):=by omega
     go_wp2_with (first|((with_reducible refine wpList_load_rowG ?_ 33 (.tmp 2) ?_ gx ?_ 33 (x.arr v) (0,0) _ ?_ zu33 ?_ ?_ ?_);(·rfl);(·rfl);(·rfl);(·exact HXA5.out);(·rfl);(·exact info_ex))|(go_at_call 44;refine HBD.out.mono ?_;rintro e w7 ⟨da,dc,rfl,hx7⟩))
     go_ret
     exact ⟨by rw [HT2.out,HKT.out,show bndT q.ms x=true by simp [bndT,hbd]];rfl,(HX5.out).trans hx7⟩
    have hbd' : ¬(0:Int)<((boundX x q.ms).length:Int):=by omega
    go_wp2_with (first|((with_reducible refine wpList_load_rowG ?_ 33 (.tmp 2) ?_ gx ?_ 33 (x.arr v) (0,0) _ ?_ zu33 ?_ ?_ ?_);(·rfl);(·rfl);(·rfl);(·exact HXA5.out);(·rfl);(·exact info_ex))|(go_at_call 44;refine HBD.out.mono ?_;rintro e w7 ⟨da,dc,rfl,hx7⟩))
    go_ret
    exact ⟨by rw [HT2.out,HKT.out,show bndT q.ms x=false by simp [bndT,hbd];omega];rfl,(HX5.out).trans hx7⟩
   by_cases hb1:0<q.bk
   case neg=>
    have HKT:Hid (brkT q.bk x=true):=zd (by unfold brkT;rw [if_neg hb0,if_pos (by omega)])
    go_upto_region 12 with fail
    by_cases hm0:q.ms<0
    case pos=>
     go_wp2_with fail
     go_ret
     exact ⟨by rw [HT2.out,HKT.out,show bndT q.ms x=true by simp [bndT,hm0]];rfl,HX5.out⟩
    have HBD:=zd (mo_bound x v q.ms w5 (HR.out.ext HX5.out) hn)
    by_cases hbd:0<(boundX x q.ms).length
    case pos=>
     have hbd':(0:Int)<((boundX x q.ms).length:Int):=by omega
     go_wp2_with (first|((with_reducible refine wpList_load_rowG ?_ 33 (.tmp 2) ?_ gx ?_ 33 (x.arr v) (0,0) _ ?_ zu33 ?_ ?_ ?_);(·rfl);(·rfl);(·rfl);(·exact HXA5.out);(·rfl);(·exact info_ex))|(go_at_call 44;refine HBD.out.mono ?_;rintro e w7 ⟨da,dc,rfl,hx7⟩))
     go_ret
     exact ⟨by rw [HT2.out,HKT.out,show bndT q.ms x=true by simp [bndT,hbd]];rfl,(HX5.out).trans hx7⟩
    have hbd' : ¬(0:Int)<((boundX x q.ms).length:Int):=by omega
    go_wp2_with (first|((with_reducible refine wpList_load_rowG ?_ 33 (.tmp 2) ?_ gx ?_ 33 (x.arr v) (0,0) _ ?_ zu33 ?_ ?_ ?_);(·rfl);(·rfl);(·rfl);(·exact HXA5.out);(·rfl);(·exact info_ex))|(go_at_call 44;refine HBD.out.mono ?_;rintro e w7 ⟨da,dc,rfl,hx7⟩))
    go_ret
    exact ⟨by rw [HT2.out,HKT.out,show bndT q.ms x=false by simp [bndT,hbd];omega];rfl,(HX5.out).trans hx7⟩
   have hcon:=HCN.out q.bk
   rcases hc:decide (q.bk∈brkX x)
   case false=>
    rw [hc] at hcon
    have HCON:=zd hcon
    have HKF:Hid (brkT q.bk x=false):=zd (by unfold brkT;rw [if_neg hb0,if_neg (by omega)];exact hc)
    clear hcon hc
    go_wp2_with (go_at_call 43;refine HCON.out.mono ?_;rintro e w6 ⟨rfl,hx6⟩)
    go_ret
    exact ⟨by rw [HT2.out,HKF.out];rfl,HX5.out.trans hx6⟩
   rw [hc] at hcon
   have HCON:=zd hcon
   have HKT:Hid (brkT q.bk x=true):=zd (by unfold brkT;rw [if_neg hb0,if_neg (by omega)];exact hc)
   clear hcon hc
   go_upto_region 12 with (go_at_call 43;refine HCON.out.mono ?_;rintro e w6 ⟨rfl,hx6⟩;have p4:=cell_keep p4 hx6;have l2:=zU l2 hx6.size;clear p3)
   by_cases hm0:q.ms<0
   case pos=>
    go_wp2_with fail
    go_ret
    exact ⟨by rw [HT2.out,HKT.out,show bndT q.ms x=true by simp [bndT,hm0]];rfl,(HX5.out.trans hx6)⟩
   have HBD:=zd (mo_bound x v q.ms w6 (HR.out.ext (HX5.out.trans hx6)) hn)
   by_cases hbd:0<(boundX x q.ms).length
   case pos=>
    have hbd':(0:Int)<((boundX x q.ms).length:Int):=by omega
    go_wp2_with (first|((with_reducible refine wpList_load_rowG ?_ 33 (.tmp 2) ?_ gx ?_ 33 (x.arr v) (0,0) _ ?_ zu33 ?_ ?_ ?_);(·rfl);(·rfl);(·rfl);(·exact (HXA5.out.ext hx6));(·rfl);(·exact info_ex))|(go_at_call 44;refine HBD.out.mono ?_;rintro e w7 ⟨da,dc,rfl,hx7⟩))
    go_ret
    exact ⟨by rw [HT2.out,HKT.out,show bndT q.ms x=true by simp [bndT,hbd]];rfl,((HX5.out.trans hx6)).trans hx7⟩
   have hbd' : ¬(0:Int)<((boundX x q.ms).length:Int):=by omega
   go_wp2_with (first|((with_reducible refine wpList_load_rowG ?_ 33 (.tmp 2) ?_ gx ?_ 33 (x.arr v) (0,0) _ ?_ zu33 ?_ ?_ ?_);(·rfl);(·rfl);(·rfl);(·exact (HXA5.out.ext hx6));(·rfl);(·exact info_ex))|(go_at_call 44;refine HBD.out.mono ?_;rintro e w7 ⟨da,dc,rfl,hx7⟩))
   go_ret
   exact ⟨by rw [HT2.out,HKT.out,show bndT q.ms x=false by simp [bndT,hbd];omega];rfl,((HX5.out.trans hx6)).trans hx7⟩
end Go.Proofs.YtlnmhocehgmbbaaGreatDoor
namespace Go.Proofs.YtlnmhocehgmbbaaGreatDoor
open Go.RowKit
attribute [local go_sem] ExtOf.cell ExtOf.frozen ExtOf.lt ExtOf.le
attribute [local go_sem high] ExtOf.cell2 ExtOf.frozen2 ExtOf.lt2 ExtOf.cell3 ExtOf.frozen3 ExtOf.lt3
theorem run_store_funcS {P:Program} {w:World} {a:Addr} {m:Mode} (fn:Fn) (first captured:Array Value):(store a (.func fn first captured) m).run P w=stored P w a (.func fn first captured) m:=run_store P w a _ m rfl
attribute [local go_sem] run_store_funcS
def WayP (w:World) (R:List Fd×Int×Bool) (e:Ending) (w':World):Prop:=
 ∃ v,e = .returned (.tuple #[v,.int .i64 (wayS R).2])∧Own9 w' w.heap.size (wayS R).1 v∧Ext w w'
theorem ex_way (stop:Ex→Bool) (q:Wi) (x:Ex) (v:Value) (B0:Nat) (r:Rg) (tv:Value) (w:World) (hst : ∀ gw w',Ext w w'→w'.heap[gw]?=some (.cells q.arr 62 (0,0))→AskC stop gw w')
 (hO:Own w B0 x.h v) (hn:x.h.length≤100) (hT:Row w 1 tv r.t.length (r.t.map Value.string)) (hTn:r.t.length≤1000) (hm:r.m≤100) (hx:RngX x) (htab:TabW w) :
 Calls Tryz.prog 19 #[.agg (x.arr v),.agg (r.arr tv),.agg q.arr] w (WayP w (goG (mostR r) stop (movesR evsS · r) x)):=by
 have hG:=fun gw w' (hw:Ext w w') hq=>go_stop stop gw x v B0 r tv w' (hst gw w' hw hq) (hO.ext hw) hn (hT.ext hw) hTn hm hx (htab.ext hw)
 have hga:=go_at (mostR_le hm).1 stop (movesR evsS · r) x
 have hgp:=go_pre (mostR r) stop (movesR evsS · r) x
 have hml:=mostR_le hm
 generalize goG (mostR r) stop (movesR evsS · r) x=R at hG hga hgp ⊢
 have HG:=zd hG
 have HGA:=zd hga
 have HGP:=zd hgp
 clear hG hO hT hx htab hst hga hgp
 go_enter Tryz.func19,Tryz.ntmps19
 go_upto_region 1 with fail
 refine wp_forget (fun w'=>∃ gx gr gq,Hid (gx=w.heap.size∧gr=w.heap.size+1∧gq=w.heap.size+1+1)∧Hid (ExAt w' gx x v)∧Hid (RgAt w' gr r tv)∧Hid (w'.heap[gq]?=some (.cells q.arr 62 (0,0)))∧Hid (Ext w w')) ⟨_,_,_,zd ⟨rfl,rfl,rfl⟩,zd (three_new zR).1,zd (three_new zR).2.1,zd (three_new zR).2.2.1,zd (three_new zR).2.2.2⟩ ?_
 rintro W1 ⟨gx,gr,gq,hgx,HX1,HR1,HQ1,HE1⟩
 rw [←hgx.out.2.2,←hgx.out.2.1,←hgx.out.1]
 clear hgx
 go_upto_region 2 with (first|((with_reducible refine wpList_load_rowG ?_ 33 (.tmp 3) ?_ gx ?_ 33 (x.arr v) (0,0) _ ?_ zu33 ?_ ?_ ?_);(·rfl);(·rfl);(·rfl);(·exact HX1.out);(·rfl);(·exact info_ex))|((with_reducible refine wpList_load_rowG ?_ 36 (.tmp 4) ?_ gr ?_ 36 (r.arr tv) (0,0) _ ?_ zu36 ?_ ?_ ?_);(·rfl);(·rfl);(·rfl);(·exact HR1.out);(·rfl);(·exact info_range))|(go_at_call 28;refine (HG.out gq _ HE1.out HQ1.out).mono ?_;rintro e w2 ⟨L,lv,hL,rfl,hfr,hok,hx2⟩;obtain ⟨la,lc,rfl⟩:=own_sl hfr;have HFR:=zd hfr;have HX2:=zd hx2;have HL:=zd hL;clear hfr hok hx2 hL))
 have e2:Hid (Ext w w2):=zd (HE1.out.trans HX2.out)
 have HB1:Hid (w.heap.size≤w2.heap.size):=zd e2.out.size
 refine wp_forget (fun w'=>∃ gl,Hid (gl=w2.heap.size)∧Hid (w'.heap[gl]?=some (.cells #[.slice la L.length lc] 83 (0,0)))∧Hid (FRow w' W1.heap.size L (.slice la L.length lc))∧Hid (Ext w w')) ⟨_,zd rfl,zd (heap_new rfl),zd (HFR.out.ext (zR.alloc _)),zd (e2.out.alloc _)⟩ ?_
 rintro W3 ⟨gl,hgl,HL3,HF3,HE3⟩
 rw [←hgl.out]
 clear hgl e2 HB1 HFR HX2 HX1 HR1 HQ1 HE1 HG
 by_cases hat:R.2.1<0
 case pos=>
  have hws:wayS R=([],if R.2.2=true then 1 else 2):=if_pos hat
  rcases hb:R.2.2
  case true=>
   go_wp2_with fail
   refine ⟨rfl,.tuple #[.slice none 0 0,.int .i64 1],by simp [results,go_sem],?_⟩
   unfold WayP
   rw [hws,hb]
   exact ⟨_,rfl,World.ownsRow_nil _ _ _ _,HE3.out⟩
  case false=>
   go_wp2_with fail
   refine ⟨rfl,.tuple #[.slice none 0 0,.int .i64 2],by simp [results,go_sem],?_⟩
   unfold WayP
   rw [hws,hb]
   exact ⟨_,rfl,World.ownsRow_nil _ _ _ _,HE3.out⟩
 have hga:=HGA.out
 have hra:=hga.2.resolve_left (by omega)
 obtain ⟨n,hn⟩ : ∃ n:Nat,R.2.1=(n:Int):=⟨R.2.1.toNat,by omega⟩
 have hnt:R.2.1.toNat=n:=by omega
 have hws:wayS R=(wayN R.1 R.1.length n,0):=by
  unfold wayS
  rw [if_neg hat,hnt]
 have hlen:L.length=R.1.length:=by rw [←HL.out,List.length_map]
 have hni:n<L.length:=by omega
 have hnn : ¬(n:Int)<0:=by omega
 have HWS:=zd hws
 rw [hn]
 clear hra hnt hws hat hga
 go_upto_region 9 with fail
 refine wp_forget (fun w'=>∃ gb go,Hid (go=W3.heap.size∧gb=W3.heap.size+1)∧Hid (BackAt W3 gl gb go [] (.slice none 0 0) w')) ⟨W3.heap.size+1,W3.heap.size,zd ⟨rfl,rfl⟩,zd ⟨?b1,?b2,?b3,?b4,World.ownsRow_nil _ _ _ _⟩⟩ ?_
 case b1=>exact (two_new zR).2.2
 case b2=>exact ⟨by omega,Nat.le_refl _⟩
 case b3=>exact (two_new zR).2.1
 case b4=>exact (two_new zR).1
 rintro W4 ⟨gb,go,hgg,HB4⟩
 rw [←hgg.out.2,←hgg.out.1]
 clear hgg
 have qf:W4.cell? ⟨gb,0,none⟩=some (.func (.func 41) #[] #[.pointer (some ⟨gl,0,none⟩),.pointer (some ⟨gb,0,none⟩),.pointer (some ⟨go,0,none⟩)]):=zQ HB4.out.fc 0
 have lf:gb<W4.heap.size:=zL HB4.out.fc
 have HBK:=zd (ex_back W3 W1.heap.size gl gb go L _ HL3.out HF3.out (by rw [HL.out];exact HGP.out) (by have:=HGA.out.1;omega) L.length n hni hni (by have:=HGA.out.1;omega) [] (.slice none 0 0) W4 (by simp) HB4.out)
 go_upto_region 10 with (go_at_call 41;refine HBK.out.mono ?_;rintro e w5 ⟨rfl,ov5,hb5⟩;have HB5:=zd hb5;have ho:=hb5.oc;have qo:=zQ ho 0;have lo:go<w5.heap.size:=(zL ho);clear hb5 ho)
 obtain ⟨oa,oc,hov⟩:=own_sl HB5.out.ro
 rw [HL.out,hlen,List.nil_append] at hov
 subst hov
 go_wp2_with fail
 refine ⟨rfl,.tuple #[.slice oa (wayN R.1 R.1.length n).length oc,.int .i64 0],by simp [results,go_sem],?_⟩
 unfold WayP
 rw [HWS.out]
 refine ⟨_,rfl,?_,HE3.out.trans HB5.out.ext⟩
 have h1:=HB5.out.ro
 rw [HL.out,hlen,List.nil_append] at h1
 exact own_base h1 HE3.out.size
theorem run_no {x:Ex} {m:Mv} {ms:List Mv} (h:(stepX x m).2=false):runX x (m::ms)=runX x ms:=by
 conv=>lhs;unfold runX
 rw [if_neg (by rw [h];simp)]
theorem run_yes {x:Ex} {m:Mv} {ms:List Mv} (h:(stepX x m).2=true):runX x (m::ms)=((runX (stepX x m).1 ms).1,(runX (stepX x m).1 ms).2+1):=by
 conv=>lhs;unfold runX
 rw [if_pos h]
def RunP (w:World) (R:Ex×Nat) (e:Ending) (w':World):Prop:=∃ v B,e = .returned (.tuple #[.agg (R.1.arr v),.int .i64 (R.2:Int)])∧Own w' B R.1.h v∧B≤w'.heap.size∧Ext w w'
theorem mo_run (x0:Ex) (v0:Value) (B0:Nat) (L:List Mv) (lv:Value) (w:World) (hO:Own w B0 x0.h v0) (hn:x0.h.length≤1000) (hL:L.length≤1000) (hR:Row w 9 lv L.length (L.flatMap Mv.cs)) :
 Calls Tryz.prog 27 #[.agg (x0.arr v0),lv] w (RunP w (runX x0 L)):=by
 obtain ⟨a,cap,rfl,hm,hvw⟩:=row_view hR
 have HV:=zd hvw
 have HO:=zd hO
 obtain ⟨R,hRe⟩ : ∃ R,runX x0 L=R:=⟨_,rfl⟩
 rw [hRe]
 have HRE:=zd hRe
 clear hvw hR hO hRe
 unfold maxLen at hm
 go_enter Tryz.func27,Tryz.ntmps27
 go_upto_region 1 with fail
 refine wp_forget (fun w'=>∃ gx go,Hid (gx=w.heap.size∧go=w.heap.size+1)∧Hid (w.heap.size≤gx∧w.heap.size≤go∧gx≠go)∧Hid (ExAt w' gx x0 v0)∧(∃ cs,Hid (w'.heap[go]?=some (.cells cs 33 (0,0))∧cs.size=26))∧Hid (Ext w w')) ⟨_,_,zd ⟨rfl,rfl⟩,zd ⟨Nat.le_refl _,by omega,by omega⟩,zd (two_new zR).1,⟨_,zd ⟨(two_new zR).2.1,rfl⟩⟩,zd (two_new zR).2.2⟩ ?_
 rintro W1 ⟨gx,go,hgx,HG1,HX1,⟨cz,HZ1⟩,HE1⟩
 rw [←hgx.out.2,←hgx.out.1]
 clear hgx
 have hxa:=HX1.out
 unfold ExAt Ex.arr at hxa
 have q25:=zQ hxa 25
 have lx1:gx<W1.heap.size:=zL hxa
 clear hxa
 go_upto_region 2 with (go_at_call 51;refine (sl_clone _ B0 x0.h _ (HO.out.ext HE1.out) (by omega)).mono ?_;rintro e w2 ⟨v1,rfl,hv1,hx2⟩;have HV1:Hid (Own w2 W1.heap.size x0.h v1):=zd hv1;have HX2:=zd hx2;have hxb:=heap_ext HX1.out hx2;have HXB:=zd hxb;unfold Ex.arr at hxb;have qb:=zQ hxb 25;have fb:=zF hxb 25;have lxb:gx<w2.heap.size:=(zL hxb);obtain ⟨va,vn,vc,rfl⟩:=own_slice hv1;clear hv1 hx2 hxb)
 refine wp_forget (fun w'=>Hid (ExAt w' gx x0 (.slice va vn vc)∧Own w' W1.heap.size x0.h (.slice va vn vc)∧W1.heap.size≤w'.heap.size∧Ext w w')∧Hid (w'.heap[go]?=some (.cells cz 33 (0,0)))) ⟨zd ⟨?f1,?f2,?f3,?f4⟩,zd ?f5⟩ ?_
 case f1=>
  have:=heap_setCell_same _ _ 25 _ _ (Value.slice va vn vc) HXB.out
  exact this
 case f2=>exact own_same HV1.out fun k hk _=>cell_other (by have h1:gx<W1.heap.size:=(zL HX1.out);omega)
 case f3=>simpa [World.setCell] using HX2.out.size
 case f4=>exact (HE1.out.trans HX2.out).setCell (by exact HG1.out.1) _
 case f5=>exact (cell_other (by have:=HG1.out.2.2;exact this.symm)).trans (heap_ext HZ1.out.1 HX2.out)
 clear q25 lx1 HX1 HE1 HV1 HX2 HXB qb fb lxb
 have HCS:=zd HZ1.out.2
 clear HZ1
 rintro W2 ⟨HW2,HZ2⟩
 have HB1:Hid (gx<W2.heap.size):=zd (zL HW2.out.1)
 go_wp2_with fail
 go_loopg [6,17] L.length (fun g t6 t17 wr=>∃ (i n:Nat) (x:Ex) (v:Value) (B:Nat),t6 = .int .i64 (n:Int)∧t17 = .int .i64 (i:Int)∧i+g=L.length∧n≤i∧Hid (ExAt wr gx x v∧Own wr B x.h v∧B≤wr.heap.size∧Ext w wr)∧Hid (wr.heap[go]?=some (.cells cz 33 (0,0)))∧x.h.length≤1000+i∧Hid (R=((runX x (L.drop i)).1,n+(runX x (L.drop i)).2)))
 case atStart=>exact ⟨0,0,x0,.slice va vn vc,W1.heap.size,rfl,rfl,by omega,Nat.le_refl _,HW2,HZ2,by omega,zd (by rw [List.drop_zero,Nat.zero_add,←HRE.out])⟩
 case round=>
  clear HW2 HZ2
  obtain ⟨i,n,x,v,B,rfl,rfl,hg,hni,HK,HZ,hxl,HR⟩:=hrel
  rename World=>Wr
  by_cases hlt:i<L.length
  case neg=>
   have i1 : ¬(i:Int)<(L.length:Int):=by omega
   have hv1:v.oneCell'=true:=by obtain ⟨sa,sn,sc,hsv⟩:=own_slice HK.out.2.1;rw [hsv];rfl
   go_wp2_with (first|((with_reducible refine wpList_load_rowG ?_ 33 (.tmp 2) ?_ gx ?_ 33 (x.arr v) (0,0) _ ?_ zu33 ?_ ?_ ?_);(·rfl);(·rfl);(·rfl);(·exact HK.out.1);(·rfl);(·exact info_ex))|(refine wpList_store_row rfl 33 _ _ rfl _ _ rfl rfl 33 _ (HZ.out) info_ex (HCS.out) (arr_one x hv1) ?_))
   refine bodyPost_ret (results_row_tmp rfl _ _ _ 33 (x.arr v) (0,0) _ rfl (setRow_heap _ _ _ _ _ _ (HZ.out)) zu33 rfl info_ex) rfl ?_
   have h1:=HR.out
   rw [List.drop_eq_nil_of_le (by omega)] at h1
   rw [h1]
   exact ⟨v,B,rfl,own_setRow HK.out.2.1 HZ.out (by decide) _,by simpa using HK.out.2.2.1,Ext.setRow HK.out.2.2.2 HG1.out.2.1 _⟩
  have i1:(i:Int)<(L.length:Int):=by omega
  obtain ⟨m,hmv⟩ : ∃ m,L[i]?=some m:=⟨_,zG hlt⟩
  have HRD:Hid (L.drop i=m::L.drop (i+1)):=zd (by
   obtain ⟨h1,h2⟩:=List.getElem?_eq_some_iff.1 hmv
   rw [List.drop_eq_getElem_cons h1,h2])
  obtain ⟨g0,off,rfl,hgl,hcell⟩:=HV.out (by omega)
  have hgl:=hgl (by omega)
  obtain ⟨q0,q1,q2,q3,q4,q5,q6,q7,q8⟩:=mv_cells (fun j u hj=>cell_keep (hcell j u hj) HK.out.2.2.2) hmv
  have hgm1:g0<Wr.heap.size:=zU hgl HK.out.2.2.2.size
  clear hcell hgl hmv
  go_upto_region 6 with fail
  refine wp_forget (fun w'=>∃ gm,Hid (gm=Wr.heap.size)∧Hid (w'.heap[gm]?=some (.cells m.arr 52 (0,0)))∧Hid (Ext Wr w')) ⟨Wr.heap.size,zd rfl,zd (one_new zR).1,zd (one_new zR).2⟩ ?_
  rintro W5 ⟨gm,HGM,HM5,HX5⟩
  rw [←HGM.out]
  clear q0 q1 q2 q3 q4 q5 q6 q7 q8 hgm1 HGM
  have hS:=fun w' (hw:Ext Wr w')=>mo_Step x v m w' B (HK.out.2.1.ext hw) (by omega)
  have hyl:=step_len x m
  obtain ⟨y,hy⟩ : ∃ y,(stepX x m).1=y:=⟨_,rfl⟩
  obtain ⟨ok,hok⟩ : ∃ ok,(stepX x m).2=ok:=⟨_,rfl⟩
  rw [hy,hok] at hS
  rw [hy] at hyl
  have HY:=zd hy
  have HOKB:=zd hok
  have HS:=zd hS
  clear hS hy hok
  go_upto_region 7 with (first|((with_reducible refine wpList_load_rowG ?_ 33 (.tmp 2) ?_ gx ?_ 33 (x.arr v) (0,0) _ ?_ zu33 ?_ ?_ ?_);(·rfl);(·rfl);(·rfl);(·exact (heap_ext HK.out.1 HX5.out));(·rfl);(·exact info_ex))|((with_reducible refine wpList_load_rowG ?_ 52 (.tmp 8) ?_ gm ?_ 52 m.arr (0,0) _ ?_ zu52 ?_ ?_ ?_);(·rfl);(·rfl);(·rfl);(·exact HM5.out);(·rfl);(·exact info_mv9 m))|(go_at_call 42;refine (HS.out _ HX5.out).mono ?_;rintro e w6 ⟨v',rfl,hO',hx6⟩;have HO6:=zd hO';have HX6:=zd hx6;have hv'1:v'.oneCell'=true:=(by obtain ⟨sa,sn,sc,hsv⟩:=own_slice hO';rw [hsv];rfl);clear hO' hx6)|(refine wpList_store_row rfl 33 _ _ rfl w6.heap.size _ rfl rfl 33 _ (heap_new rfl) info_ex rfl (arr_one y hv'1) ?_))
  refine wp_forget (fun w'=>∃ gy,Hid (gy=w6.heap.size)∧Hid (ExAt w' gy y v'∧Own w' W5.heap.size y.h v'∧gy<w'.heap.size∧Ext Wr w')∧Hid (W5.heap.size≤w'.heap.size)) ⟨w6.heap.size,zd rfl,zd ⟨setRow_heap _ _ _ _ _ _ (heap_new rfl),own_setRow (own_ext HO6.out (zR.alloc _)) (heap_new rfl) (by decide) _,by simp,((HX5.out.trans HX6.out).alloc _).setRow (HX5.out.trans HX6.out).size _⟩,zd (by have:=HX6.out.size;simp;omega)⟩ ?_
  rintro W7 ⟨gy,HGY,K7,HB7⟩
  rw [←HGY.out]
  clear HGY HO6 HX6
  clear HX5 HM5 HS
  have HZ7:=zd (heap_ext HZ.out K7.out.2.2.2)
  rcases ok
  case false=>
   go_wp2_with fail
   go_roundg (gk - 1)
   case rel=>
    refine ⟨i+1,n,x,v,B,rfl,by simp,by omega,by omega,zd ⟨HK.out.1.ext K7.out.2.2.2,HK.out.2.1.ext K7.out.2.2.2,zT HK.out.2.2.1 K7.out.2.2.2.size,HK.out.2.2.2.trans K7.out.2.2.2⟩,HZ7,by omega,zd ?_⟩
    have h1:=HR.out
    rw [HRD.out,run_no HOKB.out] at h1
    exact h1
   case measure=>omega
  case true=>
   go_wp2_with (first|((with_reducible refine wpList_load_rowG ?_ 33 (.tmp 9) ?_ gy ?_ 33 (y.arr v') (0,0) _ ?_ zu33 ?_ ?_ ?_);(·rfl);(·rfl);(·rfl);(·exact K7.out.1);(·rfl);(·exact info_ex))|(refine wpList_store_row rfl 33 _ _ rfl gx _ rfl rfl 33 _ (heap_ext HK.out.1 K7.out.2.2.2) info_ex rfl (arr_one y hv'1) ?_))
   go_roundg (gk - 1)
   case rel=>
    refine ⟨i+1,n+1,y,v',W5.heap.size,by simp,by simp,by omega,by omega,zd ⟨setRow_heap _ _ _ _ _ _ (heap_ext HK.out.1 K7.out.2.2.2),own_setRow K7.out.2.1 (heap_ext HK.out.1 K7.out.2.2.2) (by decide) _,?_,Ext.setRow (HK.out.2.2.2.trans K7.out.2.2.2) HG1.out.1 _⟩,zd ((setRow_other _ _ _ _ (by have:=HG1.out.2.2;omega)).trans HZ7.out),by omega,zd ?_⟩
    ·have h1:=HB7.out
     simpa using h1
    ·have h1:=HR.out
     rw [HRD.out,run_yes HOKB.out,HY.out] at h1
     rw [h1]
     simp only [Prod.mk.injEq,true_and]
     omega
   case measure=>omega
def MeetC (meet:Ex→Bool) (q:Wi) (w:World):Prop:=
 ∀ (x:Ex) (v:Value) (w':World),Ext w w'→Hrd w' x v→x.h.length≤100000→Calls Tryz.prog 23 #[.agg (x.arr v),.agg q.arr] w' fun e w''=>e = .returned (.bool (meet x))∧Ext w' w''
theorem MeetC.ext {meet:Ex→Bool} {q:Wi} {w w':World} (h:MeetC meet q w) (e:Ext w w'):MeetC meet q w':=fun x v w2 h2=>h x v w2 (e.trans h2)
theorem meet_meets {q:Wi} (w:World):MeetC (meetS q) q w:=fun x v w' _ hR hn=>ex_meets x v q w' hR hn
theorem info_wish (q:Wi):(Tryz.prog.info? 62).map (·.size)=some q.arr.size:=by
 rw [show q.arr.size=5 from rfl]
 kernel_rfl
theorem ask_meet (meet:Ex→Bool) (q:Wi) (w:World) (hM:MeetC meet q w) (gq:Nat) (hq:w.heap[gq]?=some (.cells q.arr 62 (0,0))):AskC meet gq w:=by
 intro x v w1 hE hR hn
 have HM:=zd (hM.ext hE)
 have HR:=zd hR
 have HQ:=zd (heap_ext hq hE)
 clear hR hq hM
 go_enter Tryz.func40,Tryz.ntmps40
 go_upto_region 1 with fail
 refine wp_forget (fun w'=>∃ gx,Hid (gx=w1.heap.size)∧ExAt w' gx x v∧Ext w1 w') ⟨_,zd rfl,(one_new zR).1,(one_new zR).2⟩ ?_
 rintro W1 ⟨gx,hgx,h1,x1⟩
 rw [←hgx.out]
 have HX1:=zd h1
 have HE1:=zd x1
 clear hgx h1 x1
 go_wp2_with (first|((with_reducible refine wpList_load_rowG ?_ 33 (.tmp 2) ?_ gx ?_ 33 (x.arr v) (0,0) _ ?_ zu33 ?_ ?_ ?_);(·rfl);(·rfl);(·rfl);(·exact HX1.out);(·rfl);(·exact info_ex))|((with_reducible refine wpList_load_rowG ?_ 62 (.tmp 1) ?_ gq ?_ 62 q.arr (0,0) _ ?_ zu62 ?_ ?_ ?_);(·rfl);(·rfl);(·rfl);(·exact (heap_ext HQ.out HE1.out));(·rfl);(·exact (info_wish q)))|(go_at_call 23;refine (HM.out x v W1 HE1.out (HR.out.ext HE1.out) (by omega)).mono ?_;rintro e w5 ⟨rfl,hx5⟩))
 go_ret
 exact ⟨rfl,HE1.out.trans hx5⟩
theorem repl_no {x:Ex} {m:Mv} {ms:List Mv} (h:(stepX x m).2=false):replS x (m::ms)=(x,0):=by
 conv=>lhs;unfold replS
 rw [if_neg (by rw [h];simp)]
theorem repl_yes {x:Ex} {m:Mv} {ms:List Mv} (h:(stepX x m).2=true):replS x (m::ms)=((replS (stepX x m).1 ms).1,(replS (stepX x m).1 ms).2+1):=by
 conv=>lhs;unfold replS
 rw [if_pos h]
theorem ex_replay (meet:Ex→Bool) (q:Wi) (x0:Ex) (v0:Value) (B0:Nat) (L:List Mv) (lv:Value) (w:World) (hM:MeetC meet q w) (hO:Own w B0 x0.h v0) (hB0:B0≤w.heap.size) (hn:x0.h.length≤1000) (hL:L.length≤1000) (hR:Row w 9 lv L.length (L.flatMap Mv.cs)) :
 Calls Tryz.prog 21 #[.agg (x0.arr v0),lv,.agg q.arr] w fun e w'=>e = .returned (.tuple #[.int .i64 ((replS x0 L).2:Int),.bool (meet (replS x0 L).1)])∧Ext w w':=by
 obtain ⟨a,cap,rfl,hm,hvw⟩:=row_view hR
 have HV:=zd hvw
 have HO:=zd hO
 have HM:=zd hM
 obtain ⟨R,hRe⟩ : ∃ R,replS x0 L=R:=⟨_,rfl⟩
 rw [hRe]
 have HRE:=zd hRe
 clear hvw hR hO hRe hM
 unfold maxLen at hm
 go_enter Tryz.func21,Tryz.ntmps21
 go_upto_region 1 with fail
 refine wp_forget (fun w'=>∃ gx gq,Hid (gx=w.heap.size∧gq=w.heap.size+1)∧Hid (w.heap.size≤gx∧w.heap.size≤gq∧gx≠gq)∧Hid (ExAt w' gx x0 v0)∧Hid (w'.heap[gq]?=some (.cells q.arr 62 (0,0)))∧Hid (Ext w w')) ⟨_,_,zd ⟨rfl,rfl⟩,zd ⟨Nat.le_refl _,by omega,by omega⟩,zd (two_new zR).1,zd (two_new zR).2.1,zd (two_new zR).2.2⟩ ?_
 rintro W1 ⟨gx,gq,hgx,HG1,HX1,HQ1,HE1⟩
 rw [←hgx.out.2,←hgx.out.1]
 clear hgx
 go_wp2_with fail
 go_loopg [8,15] L.length (fun g t8 t15 wr=>∃ (i:Nat) (x:Ex) (v:Value) (B:Nat),t8 = .int .i64 (i:Int)∧t15 = .int .i64 (i:Int)∧i+g=L.length∧Hid (ExAt wr gx x v∧Own wr B x.h v∧B≤wr.heap.size∧Ext w wr)∧Hid (wr.heap[gq]?=some (.cells q.arr 62 (0,0)))∧x.h.length≤1000+i∧Hid (R=((replS x (L.drop i)).1,i+(replS x (L.drop i)).2)))
 case atStart=>exact ⟨0,x0,v0,B0,rfl,rfl,by omega,zd ⟨HX1.out,HO.out.ext HE1.out,zT hB0 HE1.out.size,HE1.out⟩,HQ1,by omega,zd (by rw [List.drop_zero,Nat.zero_add,←HRE.out])⟩
 case round=>
  clear HX1 HQ1
  obtain ⟨i,x,v,B,rfl,rfl,hg,HK,HQ,hxl,HR⟩:=hrel
  rename World=>Wr
  by_cases hlt:i<L.length
  case neg=>
   have i1 : ¬(i:Int)<(L.length:Int):=by omega
   have h1:=HR.out
   rw [List.drop_eq_nil_of_le (by omega)] at h1
   have HR1:Hid (R=(x,i)):=zd h1
   clear h1
   go_wp2_with (first|((with_reducible refine wpList_load_rowG ?_ 33 (.tmp 3) ?_ gx ?_ 33 (x.arr v) (0,0) _ ?_ zu33 ?_ ?_ ?_);(·rfl);(·rfl);(·rfl);(·exact HK.out.1);(·rfl);(·exact info_ex))|((with_reducible refine wpList_load_rowG ?_ 62 (.tmp 5) ?_ gq ?_ 62 q.arr (0,0) _ ?_ zu62 ?_ ?_ ?_);(·rfl);(·rfl);(·rfl);(·exact HQ.out);(·rfl);(·exact info_wish q))|(go_at_call 23;refine (HM.out x v _ HK.out.2.2.2 (Row.of_own HK.out.2.1) (by omega)).mono ?_;rintro e w9 ⟨rfl,hx9⟩))
   refine ⟨rfl,.tuple #[.int .i64 (i:Int),.bool (meet x)],by simp [results,go_sem],?_⟩
   rw [HR1.out]
   exact ⟨rfl,HK.out.2.2.2.trans hx9⟩
  have i1:(i:Int)<(L.length:Int):=by omega
  obtain ⟨m,hmv⟩ : ∃ m,L[i]?=some m:=⟨_,zG hlt⟩
  have HRD:Hid (L.drop i=m::L.drop (i+1)):=zd (by
   obtain ⟨h1,h2⟩:=List.getElem?_eq_some_iff.1 hmv
   rw [List.drop_eq_getElem_cons h1,h2])
  obtain ⟨g0,off,rfl,hgl,hcell⟩:=HV.out (by omega)
  have hgl:=hgl (by omega)
  obtain ⟨q0,q1,q2,q3,q4,q5,q6,q7,q8⟩:=mv_cells (fun j u hj=>cell_keep (hcell j u hj) HK.out.2.2.2) hmv
  have hgm1:g0<Wr.heap.size:=zU hgl HK.out.2.2.2.size
  clear hcell hgl hmv
  go_upto_region 5 with fail
  refine wp_forget (fun w'=>∃ gm,Hid (gm=Wr.heap.size)∧Hid (w'.heap[gm]?=some (.cells m.arr 52 (0,0)))∧Hid (Ext Wr w')) ⟨Wr.heap.size,zd rfl,zd (one_new zR).1,zd (one_new zR).2⟩ ?_
  rintro W5 ⟨gm,HGM,HM5,HX5⟩
  rw [←HGM.out]
  clear q0 q1 q2 q3 q4 q5 q6 q7 q8 hgm1 HGM
  have hS:=fun w' (hw:Ext Wr w')=>mo_Step x v m w' B (HK.out.2.1.ext hw) (by omega)
  have hyl:=step_len x m
  obtain ⟨y,hy⟩ : ∃ y,(stepX x m).1=y:=⟨_,rfl⟩
  obtain ⟨ok,hok⟩ : ∃ ok,(stepX x m).2=ok:=⟨_,rfl⟩
  rw [hy,hok] at hS
  rw [hy] at hyl
  have HY:=zd hy
  have HOKB:=zd hok
  have HS:=zd hS
  clear hS hy hok
  go_upto_region 6 with (first|((with_reducible refine wpList_load_rowG ?_ 33 (.tmp 3) ?_ gx ?_ 33 (x.arr v) (0,0) _ ?_ zu33 ?_ ?_ ?_);(·rfl);(·rfl);(·rfl);(·exact (heap_ext HK.out.1 HX5.out));(·rfl);(·exact info_ex))|((with_reducible refine wpList_load_rowG ?_ 52 (.tmp 10) ?_ gm ?_ 52 m.arr (0,0) _ ?_ zu52 ?_ ?_ ?_);(·rfl);(·rfl);(·rfl);(·exact HM5.out);(·rfl);(·exact info_mv9 m))|(go_at_call 42;refine (HS.out _ HX5.out).mono ?_;rintro e w6 ⟨v',rfl,hO',hx6⟩;have HO6:=zd hO';have HX6:=zd hx6;have hv'1:v'.oneCell'=true:=(by obtain ⟨sa,sn,sc,hsv⟩:=own_slice hO';rw [hsv];rfl);clear hO' hx6)|(refine wpList_store_row rfl 33 _ _ rfl w6.heap.size _ rfl rfl 33 _ (heap_new rfl) info_ex rfl (arr_one y hv'1) ?_))
  refine wp_forget (fun w'=>∃ gy,Hid (gy=w6.heap.size)∧Hid (ExAt w' gy y v'∧Own w' W5.heap.size y.h v'∧gy<w'.heap.size∧Ext Wr w')∧Hid (W5.heap.size≤w'.heap.size)) ⟨w6.heap.size,zd rfl,zd ⟨setRow_heap _ _ _ _ _ _ (heap_new rfl),own_setRow (own_ext HO6.out (zR.alloc _)) (heap_new rfl) (by decide) _,by simp,((HX5.out.trans HX6.out).alloc _).setRow (HX5.out.trans HX6.out).size _⟩,zd (by have:=HX6.out.size;simp;omega)⟩ ?_
  rintro W7 ⟨gy,HGY,K7,HB7⟩
  rw [←HGY.out]
  clear HGY HO6 HX6
  clear HX5 HM5 HS
  have HQ7:=zd (heap_ext HQ.out K7.out.2.2.2)
  rcases ok
  case false=>
   have HK7:=zd (heap_ext HK.out.1 K7.out.2.2.2)
   go_wp2_with (first|((with_reducible refine wpList_load_rowG ?_ 33 (.tmp 3) ?_ gx ?_ 33 (x.arr v) (0,0) _ ?_ zu33 ?_ ?_ ?_);(·rfl);(·rfl);(·rfl);(·exact HK7.out);(·rfl);(·exact info_ex))|((with_reducible refine wpList_load_rowG ?_ 62 (.tmp 5) ?_ gq ?_ 62 q.arr (0,0) _ ?_ zu62 ?_ ?_ ?_);(·rfl);(·rfl);(·rfl);(·exact HQ7.out);(·rfl);(·exact info_wish q))|(go_at_call 23;refine (HM.out x v _ (HK.out.2.2.2.trans K7.out.2.2.2) (Row.of_own (HK.out.2.1.ext K7.out.2.2.2)) (by omega)).mono ?_;rintro e w9 ⟨rfl,hx9⟩))
   refine ⟨rfl,.tuple #[.int .i64 (i:Int),.bool (meet x)],by simp [results,go_sem],?_⟩
   have h1:=HR.out
   rw [HRD.out,repl_no HOKB.out] at h1
   rw [h1]
   exact ⟨rfl,(HK.out.2.2.2.trans K7.out.2.2.2).trans hx9⟩
  case true=>
   go_wp2_with (first|((with_reducible refine wpList_load_rowG ?_ 33 (.tmp 11) ?_ gy ?_ 33 (y.arr v') (0,0) _ ?_ zu33 ?_ ?_ ?_);(·rfl);(·rfl);(·rfl);(·exact K7.out.1);(·rfl);(·exact info_ex))|(refine wpList_store_row rfl 33 _ _ rfl gx _ rfl rfl 33 _ (heap_ext HK.out.1 K7.out.2.2.2) info_ex rfl (arr_one y hv'1) ?_))
   go_roundg (gk - 1)
   case rel=>
    refine ⟨i+1,y,v',W5.heap.size,by simp,by simp,by omega,zd ⟨setRow_heap _ _ _ _ _ _ (heap_ext HK.out.1 K7.out.2.2.2),own_setRow K7.out.2.1 (heap_ext HK.out.1 K7.out.2.2.2) (by decide) _,?_,Ext.setRow (HK.out.2.2.2.trans K7.out.2.2.2) HG1.out.1 _⟩,zd ((setRow_other _ _ _ _ (by have:=HG1.out.2.2;omega)).trans HQ7.out),by omega,zd ?_⟩
    ·have h1:=HB7.out
     simpa using h1
    ·have h1:=HR.out
     rw [HRD.out,repl_yes HOKB.out,HY.out] at h1
     rw [h1]
     simp only [Prod.mk.injEq,true_and]
     omega
   case measure=>omega
end Go.Proofs.YtlnmhocehgmbbaaGreatDoor
namespace Go.Proofs.YtlnmhocehgmbbaaGreatDoor

end Go.Proofs.YtlnmhocehgmbbaaGreatDoor

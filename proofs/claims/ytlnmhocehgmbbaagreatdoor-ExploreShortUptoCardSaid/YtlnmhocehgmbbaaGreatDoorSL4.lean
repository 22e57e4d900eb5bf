/- No condition. -/
import Derived.Test.YtlnmhocehgmbbaaGreatDoorSL2
import Derived.Test.YtlnmhocehgmbbaaGreatDoorSL3
import Derived.Laws.ResultCell
import Derived.Laws.AppendOwnNone
set_option linter.all false
set_option maxHeartbeats 800000
namespace Go.Proofs.YtlnmhocehgmbbaaGreatDoor
open Go.RowKit
attribute [local go_sem ↓] eql_lEq eql_sEq eql_eEq eql_oEq neq_lEq neq_sEq neq_eEq neq_oEq
attribute [local go_sem] ExtOf.cell ExtOf.frozen ExtOf.lt ExtOf.le
attribute [local go_sem high] ExtOf.cell2 ExtOf.frozen2 ExtOf.lt2 ExtOf.cell3 ExtOf.frozen3 ExtOf.lt3 ExtOf.cellB ExtOf.frozenB ExtOf.cellX ExtOf.frozenX ExtOf.cellX' ExtOf.frozenX'
attribute [local go_sem] BelOf.cell BelOf.frozen BelOf.lt
def takesS (tick:Bool) (k f c:Int) (t:ByteArray) (b:Bool) (sc:Int) (ek ec:Int) (lk lf lc:Int) (lt:ByteArray) (lb:Bool):Bool:=
 if tick then decide (ek=3∧ec=sc) else decide (ek=2) && lEq lk lf lc lt lb k f c t b
theorem or_takes (tick:Bool) (k f c:Int) (t:ByteArray) (b:Bool) (to k2 f2 c2:Int) (t2:ByteArray) (b2:Bool)
 (r sc:Int) (st:ByteArray) (ph pk pf pc:Int) (pt:ByteArray) (pb:Bool) (ek ec:Int) (et:ByteArray) (lk lf lc:Int) (lt:ByteArray) (lb:Bool) (w:World) :
 Calls Tryz.prog 129 #[.agg #[.bool tick,.int .i64 k,.int .i64 f,.int .u64 c,.string t,.bool b,.int .i64 to,.int .i64 k2,.int .i64 f2,.int .u64 c2,.string t2,.bool b2],
  .agg #[.int .i64 r,.int .u64 sc,.string st,.int .i64 ph,.int .i64 pk,.int .i64 pf,.int .u64 pc,.string pt,.bool pb],
  .agg #[.int .i64 ek,.int .u64 ec,.string et,.int .i64 lk,.int .i64 lf,.int .u64 lc,.string lt,.bool lb]] w
  fun e w'=>e = .returned (.bool (takesS tick k f c t b sc ek ec lk lf lc lt lb))∧Ext w w':=by
 cases tick
 ·by_cases h:ek=2
  ·have h':(ek == 2)=true:=by simpa using h
   have hs:takesS false k f c t b sc ek ec lk lf lc lt lb=lEq lk lf lc lt lb k f c t b:=by simp [takesS,h]
   rw [hs]
   clear hs h
   go_enter Tryz.func129,Tryz.ntmps129
   go_wp2
   all_goals (go_ret;exact ⟨rfl,((zR.alloc _).alloc _).alloc _⟩)
  ·have h':(ek == 2)=false:=by simpa using h
   have hs:takesS false k f c t b sc ek ec lk lf lc lt lb=false:=by simp [takesS,h]
   rw [hs]
   clear hs h
   go_enter Tryz.func129,Tryz.ntmps129
   go_wp2
   all_goals (go_ret;exact ⟨rfl,((zR.alloc _).alloc _).alloc _⟩)
 ·by_cases h:ek=3
  ·have h':(ek == 3)=true:=by simpa using h
   have hs:takesS true k f c t b sc ek ec lk lf lc lt lb=(ec == sc):=by simp [takesS,h];rfl
   rw [hs]
   clear hs h
   go_enter Tryz.func129,Tryz.ntmps129
   go_wp2
   all_goals (go_ret;exact ⟨rfl,((zR.alloc _).alloc _).alloc _⟩)
  ·have h':(ek == 3)=false:=by simpa using h
   have hs:takesS true k f c t b sc ek ec lk lf lc lt lb=false:=by simp [takesS,h]
   rw [hs]
   clear hs h
   go_enter Tryz.func129,Tryz.ntmps129
   go_wp2
   all_goals (go_ret;exact ⟨rfl,((zR.alloc _).alloc _).alloc _⟩)
theorem or_to (tick:Bool) (k f c:Int) (t:ByteArray) (b:Bool) (to k2 f2 c2:Int) (t2:ByteArray) (b2:Bool)
 (r sc:Int) (st:ByteArray) (ph pk pf pc:Int) (pt:ByteArray) (pb:Bool) (w:World) :
 Calls Tryz.prog 130 #[.agg #[.bool tick,.int .i64 k,.int .i64 f,.int .u64 c,.string t,.bool b,.int .i64 to,.int .i64 k2,.int .i64 f2,.int .u64 c2,.string t2,.bool b2],
  .agg #[.int .i64 r,.int .u64 sc,.string st,.int .i64 ph,.int .i64 pk,.int .i64 pf,.int .u64 pc,.string pt,.bool pb]] w
  fun e w'=>e = .returned (.agg (if to=6 then #[.int .i64 r,.int .u64 sc,.string st,.int .i64 to,.int .i64 k,.int .i64 f,.int .u64 c,.string t,.bool b]
   else #[.int .i64 r,.int .u64 sc,.string st,.int .i64 to,.int .i64 pk,.int .i64 pf,.int .u64 pc,.string pt,.bool pb]))∧Ext w w':=by
 by_cases h:to=6
 ·have h':(to == 6)=true:=by simpa using h
  rw [if_pos h]
  clear h
  go_enter Tryz.func130,Tryz.ntmps130
  go_wp2
  exact bodyPost_ret (v:=.agg #[.int .i64 r,.int .u64 sc,.string st,.int .i64 to,.int .i64 k,.int .i64 f,.int .u64 c,.string t,.bool b]) (by simp [results,Tryz.results130,go_sem]) rfl ⟨rfl,((zR.alloc _).alloc _).alloc _⟩
 ·have h':(to == 6)=false:=by simpa using h
  rw [if_neg h]
  clear h
  go_enter Tryz.func130,Tryz.ntmps130
  go_wp2
  exact bodyPost_ret (v:=.agg #[.int .i64 r,.int .u64 sc,.string st,.int .i64 to,.int .i64 pk,.int .i64 pf,.int .u64 pc,.string pt,.bool pb]) (by simp [results,Tryz.results130,go_sem]) rfl ⟨rfl,((zR.alloc _).alloc _).alloc _⟩
def chkS (s:St):Bool:=chk s.r s.c s.t s.ph s.p.k s.p.f s.p.c s.p.t s.p.b
def takesR (x:Rw) (s:St) (e:Ev):Bool:=takesS x.tick x.comes.k x.comes.f x.comes.c x.comes.t x.comes.b s.c e.k e.c e.l.k e.l.f e.l.c e.l.t e.l.b
def toP (to:Int) (l p:Lt):Lt:=if to=6 then l else p
def toS (x:Rw) (s:St):St:=⟨s.r,s.c,s.t,x.to,toP x.to x.comes s.p⟩
theorem or_toE (tick:Bool) (k f c:Int) (t:ByteArray) (b:Bool) (to k2 f2 c2:Int) (t2:ByteArray) (b2:Bool)
 (r sc:Int) (st:ByteArray) (ph pk pf pc:Int) (pt:ByteArray) (pb:Bool) (w:World) :
 Calls Tryz.prog 130 #[.agg #[.bool tick,.int .i64 k,.int .i64 f,.int .u64 c,.string t,.bool b,.int .i64 to,.int .i64 k2,.int .i64 f2,.int .u64 c2,.string t2,.bool b2],
  .agg #[.int .i64 r,.int .u64 sc,.string st,.int .i64 ph,.int .i64 pk,.int .i64 pf,.int .u64 pc,.string pt,.bool pb]] w
  fun e w'=>e = .returned (.agg #[.int .i64 r,.int .u64 sc,.string st,.int .i64 to,.int .i64 (toP to ⟨k,f,c,t,b⟩ ⟨pk,pf,pc,pt,pb⟩).k,.int .i64 (toP to ⟨k,f,c,t,b⟩ ⟨pk,pf,pc,pt,pb⟩).f,
   .int .u64 (toP to ⟨k,f,c,t,b⟩ ⟨pk,pf,pc,pt,pb⟩).c,.string (toP to ⟨k,f,c,t,b⟩ ⟨pk,pf,pc,pt,pb⟩).t,.bool (toP to ⟨k,f,c,t,b⟩ ⟨pk,pf,pc,pt,pb⟩).b])∧Ext w w':=
 (or_to tick k f c t b to k2 f2 c2 t2 b2 r sc st ph pk pf pc pt pb w).mono fun e w' ⟨he,hx⟩=>⟨by rw [he];unfold toP;split<;>rfl,hx⟩
def stepS (s:St) (e:Ev):St×List Ou:=
 if chkS s then
  if s.ph=0 then
   if e.k=1∧e.c=s.c∧e.t.size≤64 then (⟨s.r,s.c,e.t,2,s.p⟩,outS (prS s.c e.t 0)) else (s,[])
  else match (rowsS s.c s.t s.ph).find? (fun x=>takesR x s e) with
   | some x=>(toS x s,outS x.sends)
   | none=>(s,[])
 else (s,[])
def Stepped (w:World) (s:St×List Ou) (en:Ending) (w':World):Prop:=
 ∃ v,en = .returned (.tuple #[.agg s.1.cs.toArray,v])∧w'.ownsRow w.heap.size 126 6 v s.2.length (s.2.flatMap Ou.cs)∧Ext w w'
theorem info_state:(Tryz.prog.info? 26).map (·.size)=some 9:=by kernel_rfl
theorem wp_forget {P:Program} {c:Code} {Q:Exit→Act→World→Prop} {a:Act} {w:World} (F:World→Prop) (hF:F w) (h : ∀ w',F w'→c.wp P Q a w'):c.wp P Q a w:=h w hF
theorem or_stepA (r c:Int) (t:ByteArray) (ph k f c2:Int) (t2:ByteArray) (fk:Bool) (ek ec:Int) (et:ByteArray) (lk lf lc:Int) (lt:ByteArray) (lb:Bool) (w:World) (hc:chk r c t ph k f c2 t2 fk=false) :
 Calls Tryz.prog 97 #[.agg #[.int .i64 r,.int .u64 c,.string t,.int .i64 ph,.int .i64 k,.int .i64 f,.int .u64 c2,.string t2,.bool fk],
  .agg #[.int .i64 ek,.int .u64 ec,.string et,.int .i64 lk,.int .i64 lf,.int .u64 lc,.string lt,.bool lb]] w
  (Stepped w (⟨r,c,t,ph,⟨k,f,c2,t2,fk⟩⟩,[])):=by
 go_enter Tryz.func97,Tryz.ntmps97
 go_wp2_with (first
  | (go_at_call 87;refine (or_check _ _ _ _ _ _ _ _ _ _).mono ?_;rintro e w1 ⟨rfl,hx⟩;obtain ⟨x1,rfl⟩:=ext_of hx;clear hx)
  | (refine wpList_store_row rfl 26 _ _ rfl _ _ rfl rfl 26 _ (heap_ext (heap_new (by simp)) x1.ext) info_state rfl (by simp [Value.oneCell']) ?_))
 refine bodyPost_ret (results_row_tmp rfl _ _ _ 26 _ (0,0) _ rfl (setRow_heap _ _ _ _ _ _ (heap_ext (heap_new (by simp)) x1.ext)) zu26 rfl info_state) rfl ?_
 exact ⟨_,rfl,World.ownsRow_nil _ _ _ _,Ext.setRow ((((zR.alloc _).alloc _).alloc _).val x1) (by omega) _⟩
theorem stepS_A (s:St) (e:Ev) (h:chkS s=false):stepS s e=(s,[]):=by unfold stepS;rw [h];rfl
def start0 (r c:Int) (t:ByteArray) (k f c2:Int) (t2:ByteArray) (fk:Bool) (ek ec:Int) (et:ByteArray):St×List Ou:=
 if ek=1∧ec=c∧et.size≤64 then (⟨r,c,et,2,⟨k,f,c2,t2,fk⟩⟩,[⟨1,prS c et 0⟩]) else (⟨r,c,t,0,⟨k,f,c2,t2,fk⟩⟩,[])
theorem or_step0 (r c:Int) (t:ByteArray) (k f c2:Int) (t2:ByteArray) (fk:Bool) (ek ec:Int) (et:ByteArray) (lk lf lc:Int) (lt:ByteArray) (lb:Bool) (w:World) (hc:chk r c t 0 k f c2 t2 fk=true) :
 Calls Tryz.prog 97 #[.agg #[.int .i64 r,.int .u64 c,.string t,.int .i64 0,.int .i64 k,.int .i64 f,.int .u64 c2,.string t2,.bool fk],
  .agg #[.int .i64 ek,.int .u64 ec,.string et,.int .i64 lk,.int .i64 lf,.int .u64 lc,.string lt,.bool lb]] w
  (Stepped w (start0 r c t k f c2 t2 fk ek ec et)):=by
 go_enter Tryz.func97,Tryz.ntmps97
 go_wp2_with (first
  | (go_at_call 87;refine (or_check _ _ _ _ _ _ _ _ _ _).mono ?_;rintro e w1 ⟨rfl,hx⟩;obtain ⟨x1,rfl⟩:=ext_of hx;clear hx)
  | (refine wpList_store_row rfl 26 _ _ rfl _ _ rfl rfl 26 _ (heap_ext (heap_new (by simp)) x1.ext) info_state rfl (by simp [Value.oneCell']) ?_))
 case' _=>skip
 ·rw [show start0 r c t k f c2 t2 fk ek ec et=(⟨r,c,t,0,⟨k,f,c2,t2,fk⟩⟩,[]) from if_neg (by omega)]
  refine bodyPost_ret (results_row_tmp rfl _ _ _ 26 _ (0,0) _ rfl (setRow_heap _ _ _ _ _ _ (heap_ext (heap_new (by simp)) x1.ext)) zu26 rfl info_state) rfl ?_
  exact ⟨_,rfl,World.ownsRow_nil _ _ _ _,Ext.setRow ((((zR.alloc _).alloc _).alloc _).val x1) (by omega) _⟩
 ·have HS:=zd (show start0 r c t k f c2 t2 fk ek ec et=(⟨r,c,et,2,⟨k,f,c2,t2,fk⟩⟩,[⟨1,prS c et 0⟩]) from if_pos ⟨‹_›,‹_›,by omega⟩)
  go_region
  go_wp2_with fail
  refine wp_forget (fun w'=>w'.heap[w.heap.size]?=some (.cells #[.int .i64 r,.int .u64 c,.string et,.int .i64 2,.int .i64 k,.int .i64 f,.int .u64 c2,.string t2,.bool fk] 26 (0,0))∧w'.heap[w.heap.size+1+1]?=some (.cells #[.int .i64 0,.int .u64 0,.string { data:=#[] },.int .i64 0,.int .i64 0,.int .i64 0,.int .u64 0,.string { data:=#[] },.bool false] 26 (0,0))∧Ext w w') ⟨?f1,?f2,?f3⟩ ?fr
  case f1=>exact heap_setCell_same _ _ _ _ _ _ (heap_setCell_same _ _ _ _ _ _ (heap_ext (heap_ext (heap_new rfl) ((zR.alloc _).alloc _)) x1.ext))
  case f2=>
   rw [heap_drew,heap_setCell_other _ _ _ _ (by simp only [];omega),heap_setCell_other _ _ _ _ (by simp only [];omega)]
   exact heap_ext (heap_new (by simp)) x1.ext
  case f3=>exact ((((((zR.alloc _).alloc _).alloc _).val x1).setCell zN _).setCell zN _).drew
  clear x1
  rintro W7 ⟨h7a,h7b,h7x⟩
  have hc7:=zQ h7a
  have hl7:w.heap.size<W7.heap.size:=zL h7a
  have b7:=but_refl (w.heap.size+1+1) W7
  refine wp_region_mixX (w.heap.size+1+1) (af:=?af) [true,true,true,false,false,false] 59 (by kernel_rfl) rfl (by kernel_rfl) ?q ?r
  case q=>
   intro x0
   simp only [pickT,if_true,if_false,Bool.false_eq_true]
   repeat (go_big_quiet_step ((go_at_call 127;exact calls_ext (or_promise _ _ _ _ _ _ _ _ _ _ _))))
   exact rfl
  case r=>
   simp only [pickF,if_true,if_false,Bool.false_eq_true]
   intro x1
   have e1:Ext W7 x1.val:=zR.drew.val x1
   have g1:=h7x.trans e1
   go_wp2_with (go_at_call 126;refine (or_out _ _ _ _ _ _).mono ?_;rintro e w2 ⟨v,rfl,hv,hx2⟩)
   refine ⟨but_ext b7 (e1.trans hx2),?_⟩
   intro x2
   have e2:=(e1.trans hx2).trans x2.ext
   go_wp2_with (refine wpList_store_row rfl 26 _ _ rfl _ _ rfl rfl 26 _ (heap_ext h7b e2) info_state rfl (by simp [Value.oneCell']) ?_)
   refine ⟨but_setRow (but_ext b7 e2) _,?_⟩
   intro x3
   go_wp2_with fail
   refine ⟨but_ext (but_setRow (but_ext b7 e2) _) x3.ext,?_⟩
   intro x4
   go_wp2_with fail
   have gx:Ext w x4.val:=((Ext.setRow (h7x.trans e2) (Nat.le_succ_of_le (Nat.le_succ _)) _).val x3).val x4
   refine bodyPost_ret (results_row_tmp rfl _ _ _ 26 _ (0,0) _ rfl (heap_ext (heap_ext (setRow_heap _ _ _ _ _ _ (heap_ext h7b e2)) x3.ext) x4.ext) zu26 rfl info_state) rfl ?_
   rw [HS.out]
   refine ⟨_,rfl,?_,gx⟩
   have hv2:=own_ext (own_base (b':=w.heap.size) hv g1.size) x2.ext
   exact own_ext (own_ext (own_setRow hv2 (heap_ext h7b e2) (by decide) _) x3.ext) x4.ext
 all_goals
  rw [show start0 r c t k f c2 t2 fk ek ec et=(⟨r,c,t,0,⟨k,f,c2,t2,fk⟩⟩,[]) from if_neg (by omega)]
  refine bodyPost_ret (results_row_tmp rfl _ _ _ 26 _ (0,0) _ rfl (setRow_heap _ _ _ _ _ _ (heap_ext (heap_new (by simp)) x1.ext)) zu26 rfl info_state) rfl ?_
  exact ⟨_,rfl,World.ownsRow_nil _ _ _ _,Ext.setRow ((((zR.alloc _).alloc _).alloc _).val x1) (by omega) _⟩
theorem rw_cells {w:World} {g:Nat} {L:List Rw} {k:Nat} {x:Rw} (h : ∀ j u,(L.flatMap Rw.cs)[j]?=some u→w.cell? ⟨g,j,none⟩=some u) (hx:L[k]?=some x) :
 w.cell? ⟨g,k*12,none⟩=some (.bool x.tick)∧w.cell? ⟨g,k*12+1,none⟩=some (.int .i64 x.comes.k)∧w.cell? ⟨g,k*12+2,none⟩=some (.int .i64 x.comes.f)∧
 w.cell? ⟨g,k*12+3,none⟩=some (.int .u64 x.comes.c)∧w.cell? ⟨g,k*12+4,none⟩=some (.string x.comes.t)∧w.cell? ⟨g,k*12+5,none⟩=some (.bool x.comes.b)∧
 w.cell? ⟨g,k*12+6,none⟩=some (.int .i64 x.to)∧w.cell? ⟨g,k*12+7,none⟩=some (.int .i64 x.sends.k)∧w.cell? ⟨g,k*12+8,none⟩=some (.int .i64 x.sends.f)∧
 w.cell? ⟨g,k*12+9,none⟩=some (.int .u64 x.sends.c)∧w.cell? ⟨g,k*12+10,none⟩=some (.string x.sends.t)∧w.cell? ⟨g,k*12+11,none⟩=some (.bool x.sends.b):=by
 have f:=fun j hj=>flat_get Rw.cs 12 (fun _=>rfl) L k x hx j hj
 refine ⟨h _ _ (f 0 (by omega)),h _ _ (f 1 (by omega)),h _ _ (f 2 (by omega)),h _ _ (f 3 (by omega)),h _ _ (f 4 (by omega)),h _ _ (f 5 (by omega)),h _ _ (f 6 (by omega)),h _ _ (f 7 (by omega)),h _ _ (f 8 (by omega)),h _ _ (f 9 (by omega)),h _ _ (f 10 (by omega)),h _ _ (f 11 (by omega))⟩
theorem find_first {α:Type} (p:α→Bool) : ∀ (L:List α) (n:Nat) (x:α),L[n]?=some x→p x=true→(∀ j z,j<n→L[j]?=some z→p z=false)→L.find? p=some x
 | [],n,x,h,_,_=>by simp at h
 | y::L,0,x,h,hp,_=>by
  simp only [List.getElem?_cons_zero,Option.some.injEq] at h
  subst h
  simp [hp]
 | y::L,n+1,x,h,hp,hn=>by
  have hy:p y=false:=hn 0 y (by omega) rfl
  rw [List.find?_cons,hy]
  exact find_first p L n x (by simpa using h) hp fun j z hj hz=>hn (j+1) z (by omega) (by simpa using hz)
theorem step_found {r c:Int} {t:ByteArray} {ph k f c2:Int} {t2:ByteArray} {fk:Bool} {e:Ev} {L:List Rw} {n:Nat} {x:Rw} (hL:rowsS c t ph=L) (hc:chk r c t ph k f c2 t2 fk=true) (hp:(ph == 0)=false)
 (hx:L[n]?=some x) (ht:takesR x ⟨r,c,t,ph,⟨k,f,c2,t2,fk⟩⟩ e=true) (hno : ∀ j z,j<n→L[j]?=some z→takesR z ⟨r,c,t,ph,⟨k,f,c2,t2,fk⟩⟩ e=false) :
 stepS ⟨r,c,t,ph,⟨k,f,c2,t2,fk⟩⟩ e=(toS x ⟨r,c,t,ph,⟨k,f,c2,t2,fk⟩⟩,outS x.sends):=by
 have hp' : ¬ph=0:=by simpa using hp
 have hf:=find_first (fun x=>takesR x ⟨r,c,t,ph,⟨k,f,c2,t2,fk⟩⟩ e) L n x hx ht hno
 unfold stepS chkS
 simp only [hc,if_true,hp',if_false,hL,hf]
theorem step_none {r c:Int} {t:ByteArray} {ph k f c2:Int} {t2:ByteArray} {fk:Bool} {e:Ev} {L:List Rw} (hL:rowsS c t ph=L) (hc:chk r c t ph k f c2 t2 fk=true) (hp:(ph == 0)=false)
 (hno : ∀ (j:Nat) z,L[j]?=some z→takesR z ⟨r,c,t,ph,⟨k,f,c2,t2,fk⟩⟩ e=false) :
 stepS ⟨r,c,t,ph,⟨k,f,c2,t2,fk⟩⟩ e=(⟨r,c,t,ph,⟨k,f,c2,t2,fk⟩⟩,[]):=by
 have hp' : ¬ph=0:=by simpa using hp
 have hf:L.find? (fun x=>takesR x ⟨r,c,t,ph,⟨k,f,c2,t2,fk⟩⟩ e)=none:=by
  rw [List.find?_eq_none]
  intro z hz
  obtain ⟨j,hj⟩:=List.getElem?_of_mem hz
  simp [hno j z hj]
 unfold stepS chkS
 simp only [hc,if_true,hp',if_false,hL,hf]
theorem or_stepC (r c:Int) (t:ByteArray) (ph k f c2:Int) (t2:ByteArray) (fk:Bool) (ek ec:Int) (et:ByteArray) (lk lf lc:Int) (lt:ByteArray) (lb:Bool) (w:World) (hc:chk r c t ph k f c2 t2 fk=true) (hp:(ph == 0)=false) :
 Calls Tryz.prog 97 #[.agg #[.int .i64 r,.int .u64 c,.string t,.int .i64 ph,.int .i64 k,.int .i64 f,.int .u64 c2,.string t2,.bool fk],
  .agg #[.int .i64 ek,.int .u64 ec,.string et,.int .i64 lk,.int .i64 lf,.int .u64 lc,.string lt,.bool lb]] w
  (Stepped w (stepS ⟨r,c,t,ph,⟨k,f,c2,t2,fk⟩⟩ ⟨ek,ec,et,⟨lk,lf,lc,lt,lb⟩⟩)):=by
 have HC:=zd hc
 have HP:=zd hp
 generalize hL:rowsS c t ph=L
 have HL:=zd hL
 clear hL
 go_enter Tryz.func97,Tryz.ntmps97
 go_wp2_with (first
  | (go_at_call 87;refine (or_check _ _ _ _ _ _ _ _ _ _).mono ?_;rintro e w1 ⟨rfl,hx⟩;obtain ⟨x1,rfl⟩:=ext_of hx;clear hx)
  | (go_at_call 128;refine (or_rows _ _ _ _ _ _ _ _ _ _).mono ?_;rintro e w2 ⟨v,rfl,hv,hx2⟩;rw [HL.out] at hv;obtain ⟨a,cap,rfl,hm,hvw⟩:=own_view hv;obtain ⟨x2,rfl⟩:=ext_of hx2;clear hx2 hv))
 refine wp_forget (fun w'=>w'.heap[w.heap.size]?=some (.cells #[.int .i64 r,.int .u64 c,.string t,.int .i64 ph,.int .i64 k,.int .i64 f,.int .u64 c2,.string t2,.bool fk] 26 (0,0))∧w'.heap[w.heap.size+1]?=some (.cells #[.int .i64 ek,.int .u64 ec,.string et,.int .i64 lk,.int .i64 lf,.int .u64 lc,.string lt,.bool lb] 102 (0,0))∧w'.heap[w.heap.size+1+1]?=some (.cells #[.int .i64 0,.int .u64 0,.string { data:=#[] },.int .i64 0,.int .i64 0,.int .i64 0,.int .u64 0,.string { data:=#[] },.bool false] 26 (0,0))∧Ext w w'∧
  (0<L.length→∃ g,a=some ⟨g,0,none⟩∧g<w'.heap.size∧∀ j u,(L.flatMap Rw.cs)[j]?=some u→w'.cell? ⟨g,j,none⟩=some u)) ⟨?f1,?f2,?f3,?f4,?f5⟩ ?fr
 case f1=>exact heap_ext (heap_ext (heap_ext (heap_new rfl) ((zR.alloc _).alloc _)) x1.ext) x2.ext
 case f2=>exact heap_ext (heap_ext (heap_ext (heap_new (by simp)) (zR.alloc _)) x1.ext) x2.ext
 case f3=>exact heap_ext (heap_ext (heap_new (by simp)) x1.ext) x2.ext
 case f4=>exact ((((zR.alloc _).alloc _).alloc _).val x1).val x2
 case f5=>exact fun h=>let ⟨g,ha,_,hg,hcell⟩:=hvw h;⟨g,ha,hg,hcell⟩
 clear hvw x2 x1
 rintro W3 ⟨h3a,h3b,h3c,h3x,hvw⟩
 have HV:=zd hvw
 clear hvw
 have hc3:=zQ h3a
 have hd3:=zQ h3b
 have hl3:w.heap.size<W3.heap.size:=zL h3a
 have hm3:w.heap.size+1<W3.heap.size:=zL h3b
 have H3a:=zd h3a
 have H3c:=zd h3c
 clear h3a h3b h3c
 unfold maxLen at hm
 go_loopw [43] (fun i wr=>∃ n:Nat,n≤L.length∧i = .int .i64 n∧(∃ y:ExtOf W3,wr=y.val)∧∀ j x,j<n→L[j]?=some x→takesR x ⟨r,c,t,ph,⟨k,f,c2,t2,fk⟩⟩ ⟨ek,ec,et,⟨lk,lf,lc,lt,lb⟩⟩=false) (fun i _=>L.length - (intOf i).toNat)
 case atStart=>exact ⟨0,Nat.zero_le _,rfl,⟨⟨W3,zR⟩,rfl⟩,fun _ _ h=>by omega⟩
 case round=>
  obtain ⟨n,hn,rfl,⟨y,rfl⟩,hno⟩:=hrel
  have HN:=zd hno
  clear hno
  by_cases hlt:n<L.length
  ·obtain ⟨g,rfl,hg,hcell⟩:=HV.out (by omega)
   obtain ⟨x,hx⟩ : ∃ x,L[n]?=some x:=⟨_,zG hlt⟩
   obtain ⟨q0,q1,q2,q3,q4,q5,q6,q7,q8,q9,q10,q11⟩:=rw_cells hcell hx
   have HX:=zd hx
   clear hx hcell
   rcases ht:takesR x ⟨r,c,t,ph,⟨k,f,c2,t2,fk⟩⟩ ⟨ek,ec,et,⟨lk,lf,lc,lt,lb⟩⟩
   ·have HT:=zd ht
    simp only [takesR] at ht
    go_wp2_with (go_at_call 129;refine (or_takes _ _ _ _ _ _ _ _ _ _ _ _ _ _ _ _ _ _ _ _ _ _ _ _ _ _ _ _ _ _).mono ?_;rintro e w4 ⟨rfl,hx4⟩;obtain ⟨x4,rfl⟩:=ext_of hx4;clear hx4)
    go_roundw
    case rel=>
     refine ⟨n+1,by omega,by go_num,⟨⟨x4.val,(y.ext.alloc _).val x4⟩,rfl⟩,fun j z hj hz=>?_⟩
     by_cases hjn:j=n
     ·subst hjn
      rw [HX.out] at hz
      simp only [Option.some.injEq] at hz
      subst hz
      exact HT.out
     ·exact HN.out j z (by omega) hz
    case measure=>simp [intOf];omega
   ·have HT:=zd ht
    simp only [takesR] at ht
    go_wp2_with (go_at_call 129;refine (or_takes _ _ _ _ _ _ _ _ _ _ _ _ _ _ _ _ _ _ _ _ _ _ _ _ _ _ _ _ _ _).mono ?_;rintro e w4 ⟨rfl,hx4⟩;obtain ⟨x4,rfl⟩:=ext_of hx4;clear hx4)
    refine wp_forget (fun w'=>w'.heap[w.heap.size]?=some (.cells #[.int .i64 r,.int .u64 c,.string t,.int .i64 ph,.int .i64 k,.int .i64 f,.int .u64 c2,.string t2,.bool fk] 26 (0,0))∧w'.heap[w.heap.size+1+1]?=some (.cells #[.int .i64 0,.int .u64 0,.string { data:=#[] },.int .i64 0,.int .i64 0,.int .i64 0,.int .u64 0,.string { data:=#[] },.bool false] 26 (0,0))∧w'.heap[y.val.heap.size]?=some (.cells #[.bool x.tick,.int .i64 x.comes.k,.int .i64 x.comes.f,.int .u64 x.comes.c,.string x.comes.t,.bool x.comes.b,.int .i64 x.to,.int .i64 x.sends.k,.int .i64 x.sends.f,.int .u64 x.sends.c,.string x.sends.t,.bool x.sends.b] 186 (0,0))∧Ext w w'∧w.heap.size+1+1<y.val.heap.size) ⟨?d1,?d2,?d3,?d4,?d5⟩ ?dr
    case d1=>exact heap_ext H3a.out ((y.ext.alloc _).val x4)
    case d2=>exact heap_ext H3c.out ((y.ext.alloc _).val x4)
    case d3=>exact heap_ext (heap_new rfl) x4.ext
    case d4=>exact h3x.trans ((y.ext.alloc _).val x4)
    case d5=>exact zU (zL H3c.out) y.ext.size
    clear x4 q0 q1 q2 q3 q4 q5 q6 q7 q8 q9 q10 q11 hc3 hd3
    rintro W7 ⟨h7a,h7b,h7c,h7x,h7l⟩
    have hc7:=zQ h7a
    have hd7:=zQ h7c
    have hl7:w.heap.size<W7.heap.size:=zL h7a
    have hm7:y.val.heap.size<W7.heap.size:=zL h7c
    have H7b:=zd h7b
    clear h7a h7b h7c
    have b7:=but_refl (w.heap.size+1+1) W7
    refine wp_region_mixX (w.heap.size+1+1) (af:=?af) [true,true,true,true,true,false,false,false] 59 (by kernel_rfl) rfl (by kernel_rfl) ?q ?r
    case q=>
     intro x0
     simp only [pickT,if_true,if_false,Bool.false_eq_true]
     repeat (go_big_quiet_step ((go_at_call 130;exact calls_ext (or_toE _ _ _ _ _ _ _ _ _ _ _ _ _ _ _ _ _ _ _ _ _ _))))
     exact rfl
    case r=>
     simp only [pickF,if_true,if_false,Bool.false_eq_true]
     intro x1
     have e1:Ext W7 x1.val:=zR.drew.val x1
     have g1:=h7x.trans e1
     go_wp2_with (go_at_call 126;refine (or_out _ _ _ _ _ _).mono ?_;rintro e w2 ⟨v,rfl,hv,hx2⟩)
     refine ⟨but_ext b7 (e1.trans hx2),?_⟩
     intro x2
     have e2:=(e1.trans hx2).trans x2.ext
     go_wp2_with (refine wpList_store_row rfl 26 _ _ rfl _ _ rfl rfl 26 _ (heap_ext H7b.out e2) info_state rfl (by simp [Value.oneCell']) ?_)
     refine ⟨but_setRow (but_ext b7 e2) _,?_⟩
     intro x3
     go_wp2_with fail
     refine ⟨but_ext (but_setRow (but_ext b7 e2) _) x3.ext,?_⟩
     intro x4
     go_wp2_with fail
     have gx:Ext w x4.val:=((Ext.setRow (h7x.trans e2) (Nat.le_succ_of_le (Nat.le_succ _)) _).val x3).val x4
     refine bodyPost_ret (results_row_tmp rfl _ _ _ 26 _ (0,0) _ rfl (heap_ext (heap_ext (setRow_heap _ _ _ _ _ _ (heap_ext H7b.out e2)) x3.ext) x4.ext) zu26 rfl info_state) rfl ?_
     rw [step_found HL.out HC.out HP.out HX.out HT.out HN.out]
     refine ⟨_,rfl,?_,gx⟩
     have hv2:=own_ext (own_base (b':=w.heap.size) hv g1.size) x2.ext
     exact own_ext (own_ext (own_setRow hv2 (heap_ext H7b.out e2) (by decide) _) x3.ext) x4.ext
  ·have hs:stepS ⟨r,c,t,ph,⟨k,f,c2,t2,fk⟩⟩ ⟨ek,ec,et,⟨lk,lf,lc,lt,lb⟩⟩=(⟨r,c,t,ph,⟨k,f,c2,t2,fk⟩⟩,[]):=by
    exact step_none HL.out HC.out HP.out (fun j z hz=>HN.out j z (by have:=(zM hz);omega) hz)
   have HS:=zd hs
   clear hs
   go_wp2_with (refine wpList_store_row rfl 26 _ _ rfl _ _ rfl rfl 26 _ (heap_ext H3c.out y.ext) info_state rfl (by simp [Value.oneCell']) ?_)
   refine bodyPost_ret (results_row_tmp rfl _ _ _ 26 _ (0,0) _ rfl (setRow_heap _ _ _ _ _ _ (heap_ext H3c.out y.ext)) zu26 rfl info_state) rfl ?_
   rw [HS.out]
   exact ⟨_,rfl,World.ownsRow_nil _ _ _ _,Ext.setRow (h3x.val y) (by omega) _⟩
theorem or_step (r c:Int) (t:ByteArray) (ph k f c2:Int) (t2:ByteArray) (fk:Bool) (ek ec:Int) (et:ByteArray) (lk lf lc:Int) (lt:ByteArray) (lb:Bool) (w:World) :
 Calls Tryz.prog 97 #[.agg #[.int .i64 r,.int .u64 c,.string t,.int .i64 ph,.int .i64 k,.int .i64 f,.int .u64 c2,.string t2,.bool fk],.agg #[.int .i64 ek,.int .u64 ec,.string et,.int .i64 lk,.int .i64 lf,.int .u64 lc,.string lt,.bool lb]] w (Stepped w (stepS ⟨r,c,t,ph,⟨k,f,c2,t2,fk⟩⟩ ⟨ek,ec,et,⟨lk,lf,lc,lt,lb⟩⟩)):=by
 rcases hc:chk r c t ph k f c2 t2 fk
 ·rw [stepS_A ⟨r,c,t,ph,⟨k,f,c2,t2,fk⟩⟩ ⟨ek,ec,et,⟨lk,lf,lc,lt,lb⟩⟩ hc]
  exact or_stepA r c t ph k f c2 t2 fk ek ec et lk lf lc lt lb w hc
 ·by_cases hp:ph=0
  ·subst hp
   have h:=or_step0 r c t k f c2 t2 fk ek ec et lk lf lc lt lb w hc
   have e:stepS ⟨r,c,t,0,⟨k,f,c2,t2,fk⟩⟩ ⟨ek,ec,et,⟨lk,lf,lc,lt,lb⟩⟩=start0 r c t k f c2 t2 fk ek ec et:=by
    unfold stepS chkS start0
    simp only [hc,if_true]
    split<;>rfl
   rw [e]
   exact h
  ·exact or_stepC r c t ph k f c2 t2 fk ek ec et lk lf lc lt lb w hc (by simpa using hp)
def finS (s:St):Bool:=chkS s && (s.ph == 6 || s.ph == 7)
def waitS (s:St):Bool:=chkS s && (s.ph != 0 && !finS s)
theorem or_final (r c:Int) (t:ByteArray) (ph k f c2:Int) (t2:ByteArray) (fk:Bool) (w:World) :
 Calls Tryz.prog 62 #[.agg #[.int .i64 r,.int .u64 c,.string t,.int .i64 ph,.int .i64 k,.int .i64 f,.int .u64 c2,.string t2,.bool fk]] w fun e w'=>e = .returned (.bool (finS ⟨r,c,t,ph,⟨k,f,c2,t2,fk⟩⟩))∧Ext w w':=by
 rcases hc:chk r c t ph k f c2 t2 fk
 ·have hs:finS ⟨r,c,t,ph,⟨k,f,c2,t2,fk⟩⟩=false:=by simp [finS,chkS,hc]
  rw [hs];clear hs
  go_enter Tryz.func62,Tryz.ntmps62
  go_wp2_with (go_at_call 87;refine (or_check _ _ _ _ _ _ _ _ _ _).mono ?_;rintro e w1 ⟨rfl,hx⟩;obtain ⟨x1,rfl⟩:=ext_of hx;clear hx)
  go_ret
  exact ⟨rfl,(zR.alloc _).val x1⟩
 ·have hs:finS ⟨r,c,t,ph,⟨k,f,c2,t2,fk⟩⟩=(ph == 6 || ph == 7):=by simp [finS,chkS,hc]
  rw [hs];clear hs
  rcases h6:(ph == 6)
  all_goals
   go_enter Tryz.func62,Tryz.ntmps62
   go_wp2_with (go_at_call 87;refine (or_check _ _ _ _ _ _ _ _ _ _).mono ?_;rintro e w1 ⟨rfl,hx⟩;obtain ⟨x1,rfl⟩:=ext_of hx;clear hx)
   go_ret
   exact ⟨by simp,(zR.alloc _).val x1⟩
theorem or_waits (r c:Int) (t:ByteArray) (ph k f c2:Int) (t2:ByteArray) (fk:Bool) (w:World) :
 Calls Tryz.prog 152 #[.agg #[.int .i64 r,.int .u64 c,.string t,.int .i64 ph,.int .i64 k,.int .i64 f,.int .u64 c2,.string t2,.bool fk]] w fun e w'=>e = .returned (.bool (waitS ⟨r,c,t,ph,⟨k,f,c2,t2,fk⟩⟩))∧Ext w w':=by
 rcases hc:chk r c t ph k f c2 t2 fk
 ·have hs:waitS ⟨r,c,t,ph,⟨k,f,c2,t2,fk⟩⟩=false:=by simp [waitS,chkS,hc]
  rw [hs];clear hs
  go_enter Tryz.func152,Tryz.ntmps152
  go_wp2_with (go_at_call 87;refine (or_check _ _ _ _ _ _ _ _ _ _).mono ?_;rintro e w1 ⟨rfl,hx⟩;obtain ⟨x1,rfl⟩:=ext_of hx;clear hx)
  go_ret
  exact ⟨rfl,(zR.alloc _).val x1⟩
 ·have hs:waitS ⟨r,c,t,ph,⟨k,f,c2,t2,fk⟩⟩=(ph != 0 && !finS ⟨r,c,t,ph,⟨k,f,c2,t2,fk⟩⟩):=by simp [waitS,chkS,hc]
  rw [hs];clear hs
  rcases h0:(ph != 0)
  ·go_enter Tryz.func152,Tryz.ntmps152
   go_wp2_with (go_at_call 87;refine (or_check _ _ _ _ _ _ _ _ _ _).mono ?_;rintro e w1 ⟨rfl,hx⟩;obtain ⟨x1,rfl⟩:=ext_of hx;clear hx)
   go_ret
   exact ⟨by simp,(zR.alloc _).val x1⟩
  ·go_enter Tryz.func152,Tryz.ntmps152
   go_wp2_with (first
    | (go_at_call 87;refine (or_check _ _ _ _ _ _ _ _ _ _).mono ?_;rintro e w1 ⟨rfl,hx⟩;obtain ⟨x1,rfl⟩:=ext_of hx;clear hx)
    | (go_at_call 62;refine (or_final _ _ _ _ _ _ _ _ _ _).mono ?_;rintro e w1 ⟨rfl,hx⟩;obtain ⟨x2,rfl⟩:=ext_of hx;clear hx))
   go_ret
   exact ⟨by simp,((zR.alloc _).val x1).val x2⟩
theorem or_new (c:Int) (w:World) :
 Calls Tryz.prog 49 #[.int .u64 c] w fun e w'=>e = .returned (.agg #[.int .i64 0,.int .u64 c,.string { data:=#[] },.int .i64 0,.int .i64 0,.int .i64 0,.int .u64 0,.string { data:=#[] },.bool false])∧Ext w w':=by
 go_enter Tryz.func49,Tryz.ntmps49
 go_wp2
 exact bodyPost_ret (v:=.agg #[.int .i64 0,.int .u64 c,.string { data:=#[] },.int .i64 0,.int .i64 0,.int .i64 0,.int .u64 0,.string { data:=#[] },.bool false]) (by simp [results,Tryz.results49,go_sem]) rfl ⟨rfl,zR.alloc _⟩
end Go.Proofs.YtlnmhocehgmbbaaGreatDoor
namespace Go.Proofs.YtlnmhocehgmbbaaGreatDoor
theorem rows_none {c:Int} {t:ByteArray} {ph:Int} (h2:ph≠2) (h3:ph≠3) (h4:ph≠4) (h5:ph≠5):rowsS c t ph=[]:=by
 unfold rowsS;rw [if_neg h2,if_neg h3,if_neg h4,if_neg h5]
theorem step_cases (s:St) (e:Ev):stepS s e=(s,[])∨(s.ph=0∧stepS s e=(⟨s.r,s.c,e.t,2,s.p⟩,outS (prS s.c e.t 0)))∨
 ∃ x,x∈rowsS s.c s.t s.ph∧chkS s=true∧s.ph≠0∧takesR x s e=true∧stepS s e=(toS x s,outS x.sends):=by
 unfold stepS
 split
 ·rename_i hc
  split
  ·rename_i h0
   split
   ·exact .inr (.inl ⟨h0,rfl⟩)
   ·exact .inl rfl
  ·rename_i h0
   cases hf:(rowsS s.c s.t s.ph).find? (fun x=>takesR x s e) with
   | none=>exact .inl rfl
   | some x=>exact .inr (.inr ⟨x,List.mem_of_find?_eq_some hf,hc,h0,by simpa using List.find?_some hf,rfl⟩)
 ·exact .inl rfl
theorem rows_mem {c:Int} {t:ByteArray} {ph:Int} {x:Rw} (h:x∈rowsS c t ph) :
 (ph=2∧(x=⟨false,prS c t 1,3,sgS c t 0⟩∨x=⟨true,l0,4,abS c⟩))∨
 (ph=3∧(x=⟨false,prS c t 1,3,sgS c t 0⟩∨x=⟨false,sgS c t 1,6,l0⟩∨x=⟨true,l0,5,rsS c t⟩))∨
 (ph=4∧(x=⟨true,l0,4,abS c⟩∨x=⟨false,tkS c,7,l0⟩∨x=⟨false,inS c t,6,l0⟩))∨
 (ph=5∧(x=⟨true,l0,5,rsS c t⟩∨x=⟨false,sgS c t 1,6,l0⟩∨x=⟨false,inS c t,6,l0⟩)):=by
 by_cases h2:ph=2
 ·subst h2;exact .inl ⟨rfl,by simpa [rowsS] using h⟩
 by_cases h3:ph=3
 ·subst h3;exact .inr (.inl ⟨rfl,by simpa [rowsS] using h⟩)
 by_cases h4:ph=4
 ·subst h4;exact .inr (.inr (.inl ⟨rfl,by simpa [rowsS] using h⟩))
 by_cases h5:ph=5
 ·subst h5;exact .inr (.inr (.inr ⟨rfl,by simpa [rowsS] using h⟩))
 rw [rows_none h2 h3 h4 h5] at h
 cases h

instance:DecidableEq Lt:=fun a b=>decidable_of_iff (a.k=b.k∧a.f=b.f∧a.c=b.c∧a.t=b.t∧a.b=b.b) (by cases a;cases b;simp)
theorem lEq_lt (a b:Lt):lEq a.k a.f a.c a.t a.b b.k b.f b.c b.t b.b=decide (a=b):=by
 cases a;cases b;simp [lEq]
def lchk (l:Lt):Int:=
 if l.k<1∨7<l.k then 110
 else if ¬(l.f=0∨l.f=1) then 110
 else if ¬(l.k=1∨l.k=2∨l.k=4)∧l.f≠0 then 110
 else if ¬(l.k=1∨l.k=2∨l.k=4∨l.k=6)∧l.t≠{ data:=#[] } then 110
 else if ¬(l.k=1∨l.k=4)∧l.b=true then 110
 else if 64<l.t.size then 1
 else 0
theorem lchk_size {l:Lt} (h:lchk l=0):l.t.size≤64∧(l.f=0∨l.f=1)∧1≤l.k∧l.k≤7∧(l.b=true→l.k=1∨l.k=4):=by
 unfold lchk at h
 repeat' (split at h;(first|(exact absurd h (by decide))|skip))
 rename_i h1 h2 h3 h4 h5 h6
 refine ⟨by omega,by omega,by omega,by omega,fun hb=>?_⟩
 by_cases hk:l.k=1∨l.k=4
 ·exact hk
 ·exact absurd ⟨hk,hb⟩ h5
theorem lchk_ok {k f c:Int} {t:ByteArray} (hk:k=1∨k=2∨k=4∨(k=6∧f=0)∨((k=3∨k=5∨k=7)∧f=0∧t = { data:=#[] })) (hf:f=0∨f=1) (ht:t.size≤64):lchk ⟨k,f,c,t,false⟩=0:=by
 unfold lchk
 simp only
 rw [if_neg (by omega),if_neg (by omega),if_neg (by omega),if_neg ?_,if_neg (by simp),if_neg (by omega)]
 rintro ⟨h1,h2⟩
 rcases hk with h|h|h|h|⟨_,_,h⟩
 ·omega
 ·omega
 ·omega
 ·omega
 ·exact h2 h
def rsA (c:Int) (t:ByteArray):Lt:=⟨4,1,c,t,false⟩
def chkA (s:St):Bool:=
 decide (s.r=1∧s.t.size≤64) &&
  (if s.ph=0 then decide (s.t = { data:=#[] }) && decide (s.p=l0)
   else if s.ph=1∨s.ph=2∨s.ph=5∨s.ph=7 then decide (s.p=l0)
   else if s.ph=6 then decide (s.p=sgS s.c s.t 0) || decide (s.p=inS s.c s.t)
   else false)
def toldA (s:St) (l:Lt):Int:=
 if lchk l≠0∨l.b=true∨l.c≠s.c then 0
 else if l=prS s.c s.t 0∨l=sgS s.c s.t 0∨l=inS s.c s.t∨l=tkS s.c then l.k
 else 0
def takesA (s:St) (l:Lt):St×List Ou:=
 if s.ph=1 then (if toldA s l=1 then (⟨s.r,s.c,s.t,2,s.p⟩,[⟨0,prS s.c s.t 1⟩]) else (s,[]))
 else if s.ph=5 then
  (if toldA s l=6 then (⟨s.r,s.c,s.t,6,l⟩,[]) else if toldA s l=5 then (⟨s.r,s.c,s.t,7,s.p⟩,[])
   else if toldA s l=2 then (⟨s.r,s.c,s.t,6,l⟩,[⟨0,sgS s.c s.t 1⟩]) else (s,[]))
 else if s.ph=2 then
  (if toldA s l=2 then (⟨s.r,s.c,s.t,6,l⟩,[⟨0,sgS s.c s.t 1⟩]) else if toldA s l=1 then (s,[⟨0,prS s.c s.t 1⟩]) else (s,[]))
 else if s.ph=6 then (if toldA s l=2 then (s,[⟨0,sgS s.c s.t 1⟩]) else (s,[]))
 else (s,[])
def ticksA (s:St):St×List Ou:=
 if s.ph=1 then (⟨s.r,s.c,s.t,7,s.p⟩,[])
 else if s.ph=2∨s.ph=5 then (⟨s.r,s.c,s.t,5,s.p⟩,[⟨2,rsA s.c s.t⟩])
 else (s,[])
def stepA (s:St) (e:Ev):St×List Ou:=
 if chkA s=true then
  if e.k=2 then takesA s e.l
  else if e.c=s.c then
   if e.k=3 then ticksA s
   else if e.k=1∧s.ph=0∧e.t.size≤64 then (⟨s.r,s.c,e.t,1,s.p⟩,[]) else (s,[])
  else (s,[])
 else (s,[])
def finA (s:St):Bool:=chkA s && (s.ph == 6 || s.ph == 7)
structure Vd where
 c:Int
 k:Int
 t:ByteArray
instance:DecidableEq Vd:=fun a b=>decidable_of_iff (a.c=b.c∧a.k=b.k∧a.t=b.t) (by cases a;cases b;simp)
def v0:Vd:=⟨0,0,{ data:=#[] }⟩
def saysS (v:Vd):Option Lt:=
 if v.k=1∧v.t = { data:=#[] } then some ⟨5,0,v.c,{ data:=#[] },false⟩
 else if v.k=2∧v.t.size≤64 then some ⟨6,0,v.c,v.t,false⟩
 else none
structure Ex where
 c:Int
 s0:St
 s1:St
 v:Vd
 b0:Bool
 b1:Bool
 full:Bool
 h:List Lt
structure Mv where
 k:Int
 who:Int
 t:ByteArray
 l:Lt
 lost:Bool
def Ex.bad (x:Ex) (who:Int):Bool:=if who=0 then x.b0 else x.b1
def Ex.st (x:Ex) (who:Int):St:=if who=0 then x.s0 else x.s1
def newX (c:Int):Ex:=⟨c,⟨0,c,{ data:=#[] },0,l0⟩,⟨1,c,{ data:=#[] },0,l0⟩,v0,false,false,false,[]⟩
def wishS (h:List Lt) (l:Lt):Bool:=h.any fun x=>x.k == 4 && (x.b == l.b && decide (x.t=l.t))
def canP (x:Ex) (l:Lt):Bool:=
 if lchk l≠0∨l.c≠x.c then false
 else if l∈x.h then true
 else x.bad (if l.b=true then 1 - l.f else l.f) || wishS x.h l
def canS (x:Ex) (l:Lt):Bool:=
 if lchk l≠0∨l.c≠x.c then false
 else if l∈x.h then true
 else if l.k=1 then x.bad (if l.b=true then 1 - l.f else l.f) || wishS x.h l
 else if l.k=2 then x.bad l.f
 else if l.k=3 then x.b0
 else if l.k=4 then x.bad l.f && (canP x ⟨1,0,l.c,l.t,l.b⟩ && canP x ⟨1,1,l.c,l.t,l.b⟩)
 else decide (l.k=7)
def hearS (h:List Lt) (lost:Bool) (l:Lt):List Lt:=if lost=true∨l∈h then h else h++[l]
def hearsS (h:List Lt) (lost:Bool) (ls:List Lt):List Lt:=ls.foldl (fun h l=>hearS h lost l) h
def askV (x:Ex) (l:Lt):Vd:=if x.v.k=0∧x.full=false then (if l.k=4∧l.b=false then ⟨x.c,2,l.t⟩ else ⟨x.c,1,{ data:=#[] }⟩) else x.v
def tellS (c:Int) (v:Vd):Lt:=(saysS v).getD ⟨7,0,c,{ data:=#[] },false⟩
def askX (x:Ex) (m:Mv):Ex:=
 if (m.l.k=4∧m.l.b=false)∨m.l.k=3 then { x with v:=askV x m.l,h:=hearS x.h m.lost (tellS x.c (askV x m.l)) }
 else x
def evX (x:Ex) (m:Mv):Ev:=
 if m.k=1 then ⟨1,x.c,m.t,l0⟩ else if m.k=2 then ⟨2,x.c,{ data:=#[] },m.l⟩ else ⟨3,x.c,{ data:=#[] },l0⟩
def partyX (x:Ex) (m:Mv):Ex:=
 if m.who=0 then { x with s0:=(stepS x.s0 (evX x m)).1,h:=hearsS x.h m.lost ((stepS x.s0 (evX x m)).2.map (·.l)) }
 else { x with s1:=(stepA x.s1 (evX x m)).1,h:=hearsS x.h m.lost ((stepA x.s1 (evX x m)).2.map (·.l)) }
def stepX (x:Ex) (m:Mv):Ex×Bool:=
 if m.k=4 then (if canS x m.l=true then (askX x m,true) else (x,false))
 else if m.k=6 then ({ x with full:=true },true)
 else if m.who=0∨m.who=1 then
  if m.k=5 then ((if m.who=0 then { x with b0:=true } else { x with b1:=true }),true)
  else if m.k=1∨m.k=3∨(m.k=2∧canS x m.l=true) then
   if x.bad m.who=true then (x,false) else (partyX x m,true)
  else (x,false)
 else (x,false)
def boundX (x:Ex) (who:Int):List Lt:=x.h.filter fun l=>(l.k == 2 && l.f == who) || l.k == 6
def saidX (x:Ex):Lt:=(saysS x.v).getD l0
def holds1 (x:Ex):Bool:=(!x.b0 && (x.s0.ph == 7 && decide (0<(boundX x 0).length))) || (!x.b1 && (x.s1.ph == 7 && decide (0<(boundX x 1).length)))
def holds2 (x:Ex):Bool:=(!x.b0 && (x.s0.ph == 6 && !canS x x.s0.p)) || (!x.b1 && (x.s1.ph == 6 && !canS x x.s1.p))
def holds3 (x:Ex):Bool:=x.h.any (·.k == 5) && x.h.any (·.k == 6)
def holds4 (x:Ex):Bool:=(!x.b0 && !x.b1) && ((x.s0.ph == 6 && x.s1.ph == 7) || (x.s0.ph == 7 && x.s1.ph == 6))
def holds5 (x:Ex):Bool:=x.h.any fun l=>(l.k == 5 || l.k == 6) && !decide (l=saidX x)
def okX (x:Ex):Bool:=!(holds1 x || (holds2 x || (holds3 x || (holds4 x || holds5 x))))
def finX (x:Ex) (who:Int):Bool:=if who=0 then finS x.s0 else if who=1 then finA x.s1 else false
inductive EdgeO (s:St) (e:Ev):St×List Ou→Prop
 | same:EdgeO s e (s,[])
 | start (h0:s.ph=0) (ht:e.t.size≤64):EdgeO s e (⟨s.r,s.c,e.t,2,s.p⟩,[⟨1,prS s.c e.t 0⟩])
 | sign (h0:s.ph=2∨s.ph=3) (hk:e.k=2) (hl:e.l=prS s.c s.t 1):EdgeO s e (⟨s.r,s.c,s.t,3,s.p⟩,[⟨1,sgS s.c s.t 0⟩])
 | abort (h0:s.ph=2∨s.ph=4):EdgeO s e (⟨s.r,s.c,s.t,4,s.p⟩,[⟨2,abS s.c⟩])
 | resolve (h0:s.ph=3∨s.ph=5):EdgeO s e (⟨s.r,s.c,s.t,5,s.p⟩,[⟨2,rsS s.c s.t⟩])
 | signed (h0:s.ph=3∨s.ph=5) (hk:e.k=2) (hl:e.l=sgS s.c s.t 1):EdgeO s e (⟨s.r,s.c,s.t,6,e.l⟩,[])
 | token (h0:s.ph=4) (hk:e.k=2) (hl:e.l=tkS s.c):EdgeO s e (⟨s.r,s.c,s.t,7,s.p⟩,[])
 | instead (h0:s.ph=4∨s.ph=5) (hk:e.k=2) (hl:e.l=inS s.c s.t):EdgeO s e (⟨s.r,s.c,s.t,6,e.l⟩,[])
theorem lt_eta {a b:Lt} (h:lEq a.k a.f a.c a.t a.b b.k b.f b.c b.t b.b=true):a=b:=by
 rw [lEq_lt] at h;simpa using h
theorem edge_o (s:St) (e:Ev):EdgeO s e (stepS s e):=by
 by_cases hc:chkS s=true
 ·by_cases h0:s.ph=0
  ·unfold stepS
   rw [if_pos hc,if_pos h0]
   split
   ·rename_i h
    exact .start h0 h.2.2
   ·exact .same
  ·rcases step_cases s e with h1|⟨h1,_⟩|⟨x,hx,_,_,ht,h1⟩
   ·rw [h1];exact .same
   ·exact absurd h1 h0
   ·rw [h1]
    have key : ∀ l:Lt,takesS false l.k l.f l.c l.t l.b s.c e.k e.c e.l.k e.l.f e.l.c e.l.t e.l.b=true→e.k=2∧e.l=l:=fun l h=>by
     unfold takesS at h
     simp only [Bool.false_eq_true,if_false,Bool.and_eq_true,decide_eq_true_eq] at h
     exact ⟨h.1,lt_eta h.2⟩
    have fin : ∀ l:Lt,e.l=l→(⟨s.r,s.c,s.t,6,l⟩:St)=⟨s.r,s.c,s.t,6,e.l⟩:=fun l h=>by rw [h]
    rcases rows_mem hx with ⟨hp,hr⟩|⟨hp,hr⟩|⟨hp,hr⟩|⟨hp,hr⟩
    ·rcases hr with rfl|rfl
     ·obtain ⟨hk,hl⟩:=key _ ht
      exact .sign (.inl hp) hk hl
     ·exact .abort (.inl hp)
    ·rcases hr with rfl|rfl|rfl
     ·obtain ⟨hk,hl⟩:=key _ ht
      exact .sign (.inr hp) hk hl
     ·obtain ⟨hk,hl⟩:=key _ ht
      have:=EdgeO.signed (s:=s) (e:=e) (.inl hp) hk hl
      rw [hl] at this
      exact this
     ·exact .resolve (.inl hp)
    ·rcases hr with rfl|rfl|rfl
     ·exact .abort (.inr hp)
     ·obtain ⟨hk,hl⟩:=key _ ht
      exact .token hp hk hl
     ·obtain ⟨hk,hl⟩:=key _ ht
      have:=EdgeO.instead (s:=s) (e:=e) (.inl hp) hk hl
      rw [hl] at this
      exact this
    ·rcases hr with rfl|rfl|rfl
     ·exact .resolve (.inr hp)
     ·obtain ⟨hk,hl⟩:=key _ ht
      have:=EdgeO.signed (s:=s) (e:=e) (.inr hp) hk hl
      rw [hl] at this
      exact this
     ·obtain ⟨hk,hl⟩:=key _ ht
      have:=EdgeO.instead (s:=s) (e:=e) (.inr hp) hk hl
      rw [hl] at this
      exact this
 ·have:stepS s e=(s,[]):=stepS_A s e (by simpa using hc)
  rw [this];exact .same
inductive EdgeA (s:St) (e:Ev):St×List Ou→Prop
 | same:EdgeA s e (s,[])
 | start (h0:s.ph=0) (ht:e.t.size≤64):EdgeA s e (⟨s.r,s.c,e.t,1,s.p⟩,[])
 | promise (h0:s.ph=1):EdgeA s e (⟨s.r,s.c,s.t,2,s.p⟩,[⟨0,prS s.c s.t 1⟩])
 | again (h0:s.ph=2):EdgeA s e (s,[⟨0,prS s.c s.t 1⟩])
 | signed (h0:s.ph=2∨s.ph=5) (hk:e.k=2) (hl:e.l=sgS s.c s.t 0):EdgeA s e (⟨s.r,s.c,s.t,6,e.l⟩,[⟨0,sgS s.c s.t 1⟩])
 | told (h0:s.ph=6):EdgeA s e (s,[⟨0,sgS s.c s.t 1⟩])
 | instead (h0:s.ph=5) (hk:e.k=2) (hl:e.l=inS s.c s.t):EdgeA s e (⟨s.r,s.c,s.t,6,e.l⟩,[])
 | token (h0:s.ph=5) (hk:e.k=2) (hl:e.l=tkS s.c):EdgeA s e (⟨s.r,s.c,s.t,7,s.p⟩,[])
 | quit (h0:s.ph=1):EdgeA s e (⟨s.r,s.c,s.t,7,s.p⟩,[])
 | resolve (h0:s.ph=2∨s.ph=5):EdgeA s e (⟨s.r,s.c,s.t,5,s.p⟩,[⟨2,rsA s.c s.t⟩])
theorem told_of {s:St} {l:Lt} {k:Int} (h:toldA s l=k) (hk:k≠0):l.k=k∧(l=prS s.c s.t 0∨l=sgS s.c s.t 0∨l=inS s.c s.t∨l=tkS s.c):=by
 unfold toldA at h
 split at h
 ·exact absurd h.symm hk
 ·split at h
  ·exact ⟨h,‹_›⟩
  ·exact absurd h.symm hk
theorem told_2 {s:St} {l:Lt} (h:toldA s l=2):l=sgS s.c s.t 0:=by
 obtain ⟨hk,h1|h1|h1|h1⟩:=told_of h (by decide)
 ·rw [h1] at hk;exact absurd hk (by simp [prS])
 ·exact h1
 ·rw [h1] at hk;exact absurd hk (by simp [inS])
 ·rw [h1] at hk;exact absurd hk (by simp [tkS])
theorem told_6 {s:St} {l:Lt} (h:toldA s l=6):l=inS s.c s.t:=by
 obtain ⟨hk,h1|h1|h1|h1⟩:=told_of h (by decide)
 ·rw [h1] at hk;exact absurd hk (by simp [prS])
 ·rw [h1] at hk;exact absurd hk (by simp [sgS])
 ·exact h1
 ·rw [h1] at hk;exact absurd hk (by simp [tkS])
theorem told_5 {s:St} {l:Lt} (h:toldA s l=5):l=tkS s.c:=by
 obtain ⟨hk,h1|h1|h1|h1⟩:=told_of h (by decide)
 ·rw [h1] at hk;exact absurd hk (by simp [prS])
 ·rw [h1] at hk;exact absurd hk (by simp [sgS])
 ·rw [h1] at hk;exact absurd hk (by simp [inS])
 ·exact h1
theorem edge_a (s:St) (e:Ev):EdgeA s e (stepA s e):=by
 unfold stepA
 split
 ·split
  ·rename_i hk
   unfold takesA
   split
   ·split
    ·exact .promise ‹_›
    ·exact .same
   ·split
    ·split
     ·exact .instead ‹_› hk (told_6 ‹_›)
     ·split
      ·exact .token ‹_› hk (told_5 ‹_›)
      ·split
       ·exact .signed (.inr ‹_›) hk (told_2 ‹_›)
       ·exact .same
    ·split
     ·split
      ·exact .signed (.inl ‹_›) hk (told_2 ‹_›)
      ·split
       ·exact .again ‹_›
       ·exact .same
     ·split
      ·split
       ·exact .told ‹_›
       ·exact .same
      ·exact .same
  ·split
   ·split
    ·unfold ticksA
     split
     ·exact .quit ‹_›
     ·split
      ·exact .resolve ‹_›
      ·exact .same
    ·split
     ·rename_i h
      exact .start h.2.1 h.2.2
     ·exact .same
   ·exact .same
 ·exact .same
structure HeardOk (x:Ex) (l:Lt):Prop where
 c:l.c=x.c
 chk:lchk l=0
 b:l.b=false
 f:l.f=0∨l.f=1
 own:l.k=1∨l.k=2∨l.k=4→l.t=(x.st l.f).t∧(x.st l.f).ph≠0
 tok:l.k=5→x.v=⟨x.c,1,{ data:=#[] }⟩∧l=tkS x.c
 ins:l.k=6→x.v=⟨x.c,2,l.t⟩∧l=inS x.c l.t
def Q1 (x:Ex):Prop:=x.b1=true∨x.s1.ph=2∨x.s1.ph=5∨x.s1.ph=6∨(x.s1.ph=7∧x.v.k=1)
structure Inv2 (cn:Int) (x:Ex):Prop where
 c:x.c=cn
 c0:x.s0.c=cn
 c1:x.s1.c=cn
 k0:chkS x.s0=true
 k1:chkA x.s1=true
 v:x.v=v0∨x.v=⟨cn,1,{ data:=#[] }⟩∨(x.v.c=cn∧x.v.k=2∧x.v.t.size≤64)
 nd:x.h.Nodup
 h : ∀ l∈x.h,HeardOk x l
 p0 : ∀ l∈x.h,l.k=2→l.f=0→x.b0=true∨x.s0.ph=3∨x.s0.ph=5∨x.s0.ph=6
 p1 : ∀ l∈x.h,l.k=2→l.f=1→x.b1=true∨x.s1.ph=6
 q1 : ∀ l∈x.h,(l.k=1∧l.f=1)∨l.k=4→Q1 x
 r0:x.s0.ph=3∨x.s0.ph=5→Q1 x
 qv:x.v.k=2→Q1 x
 f0:x.b0=false→x.s0.ph=6→canS x x.s0.p=true
 f1:x.b1=false→x.s1.ph=6→canS x x.s1.p=true
 a0:x.b0=false→x.s0.ph=7→x.v.k=1
structure Grows (x y:Ex):Prop where
 c:y.c=x.c
 h : ∀ l∈x.h,l∈y.h
 b0:x.b0=true→y.b0=true
 b1:x.b1=true→y.b1=true
theorem Grows.bad {x y:Ex} (g:Grows x y) {n:Int} (h:x.bad n=true):y.bad n=true:=by
 unfold Ex.bad at *
 split<;>simp_all [g.b0,g.b1]
 all_goals first|exact g.b0 h|exact g.b1 h
theorem Grows.wish {x y:Ex} (g:Grows x y) {l:Lt} (h:wishS x.h l=true):wishS y.h l=true:=by
 unfold wishS at *
 rw [List.any_eq_true] at *
 obtain ⟨z,hz,h⟩:=h
 exact ⟨z,g.h z hz,h⟩
theorem Grows.canP {x y:Ex} (g:Grows x y) {l:Lt} (h:canP x l=true):canP y l=true:=by
 unfold Proofs.YtlnmhocehgmbbaaGreatDoor.canP at *
 rw [g.c]
 split at h
 ·cases h
 ·rename_i h1
  rw [if_neg h1]
  split at h
  ·rename_i h2
   rw [if_pos (g.h _ h2)]
  ·split
   ·rfl
   ·simp only [Bool.or_eq_true] at h ⊢
    exact h.imp g.bad g.wish
theorem Grows.canS {x y:Ex} (g:Grows x y) {l:Lt} (h:canS x l=true):canS y l=true:=by
 unfold Proofs.YtlnmhocehgmbbaaGreatDoor.canS at *
 rw [g.c]
 split at h
 ·cases h
 ·rename_i h1
  rw [if_neg h1]
  split at h
  ·rename_i h2
   rw [if_pos (g.h _ h2)]
  ·split
   ·rfl
   ·split at h
    ·rename_i hk
     rw [if_pos hk]
     simp only [Bool.or_eq_true] at h ⊢
     exact h.imp g.bad g.wish
    ·rename_i k1
     rw [if_neg k1]
     split at h
     ·rename_i hk
      rw [if_pos hk];exact g.bad h
     ·rename_i k2
      rw [if_neg k2]
      split at h
      ·rename_i hk
       rw [if_pos hk];exact g.b0 h
      ·rename_i k3
       rw [if_neg k3]
       split at h
       ·rename_i hk
        rw [if_pos hk]
        simp only [Bool.and_eq_true] at h ⊢
        exact ⟨g.bad h.1,g.canP h.2.1,g.canP h.2.2⟩
       ·rename_i k4
        rw [if_neg k4];exact h
theorem hears_nil (h:List Lt) (lost:Bool):hearsS h lost []=h:=rfl
theorem hears_one (h:List Lt) (lost:Bool) (l:Lt):hearsS h lost [l]=hearS h lost l:=rfl
theorem Inv2.wish {c:Int} {x:Ex} (i:Inv2 c x) {l:Lt} (h:wishS x.h l=true):Q1 x:=by
 unfold wishS at h
 rw [List.any_eq_true] at h
 obtain ⟨z,hz,h⟩:=h
 simp only [Bool.and_eq_true,beq_iff_eq] at h
 exact i.q1 z hz (.inr h.1)
theorem Inv2.promise {c:Int} {x:Ex} (i:Inv2 c x) {l:Lt} (hk:l.k=1) (hf:l.f=1) (hb:l.b=false) (h:canP x l=true):Q1 x:=by
 unfold canP at h
 split at h
 ·cases h
 ·split at h
  ·exact i.q1 l ‹_› (.inl ⟨hk,hf⟩)
  ·simp only [Bool.or_eq_true] at h
   rcases h with h|h
   ·rw [hb,if_neg (by simp),hf] at h
    exact .inl h
   ·exact i.wish h
theorem Inv2.resolve {c:Int} {x:Ex} (i:Inv2 c x) {l:Lt} (hk:l.k=4) (hb:l.b=false) (h:canS x l=true):Q1 x:=by
 unfold canS at h
 split at h
 ·cases h
 ·split at h
  ·exact i.q1 l ‹_› (.inr hk)
  ·simp [hk] at h
   exact i.promise (l:=⟨1,1,l.c,l.t,l.b⟩) rfl rfl hb h.2.2
structure Ok0 (x:Ex) (s':St) (ls:List Lt):Prop where
 c:s'.c=x.s0.c
 k:chkS s'=true
 t:x.s0.ph≠0→s'.t=x.s0.t∧s'.ph≠0
 h : ∀ l∈ls,l.c=x.c∧lchk l=0∧l.b=false∧l.f=0∧l.k≠5∧l.k≠6∧(l.k=1∨l.k=2∨l.k=4→l.t=s'.t∧s'.ph≠0)
 p0 : ∀ l∈ls,l.k=2→s'.ph=3∨s'.ph=5∨s'.ph=6
 p0':x.s0.ph=3∨x.s0.ph=5∨x.s0.ph=6→s'.ph=3∨s'.ph=5∨s'.ph=6
 q1 : ∀ l∈ls,l.k=4→Q1 x
 r0:s'.ph=3∨s'.ph=5→Q1 x
 f0:s'.ph=6→canS x s'.p=true
 a0:s'.ph=7→x.v.k=1
structure Ok1 (x:Ex) (s':St) (ls:List Lt):Prop where
 c:s'.c=x.s1.c
 k:chkA s'=true
 t:x.s1.ph≠0→s'.t=x.s1.t∧s'.ph≠0
 h : ∀ l∈ls,l.c=x.c∧lchk l=0∧l.b=false∧l.f=1∧l.k≠5∧l.k≠6∧(l.k=1∨l.k=2∨l.k=4→l.t=s'.t∧s'.ph≠0)
 p1 : ∀ l∈ls,l.k=2→s'.ph=6
 p1':x.s1.ph=6→s'.ph=6
 q1 : ∀ l∈ls,l.k=1∨l.k=4→s'.ph=2∨s'.ph=5∨s'.ph=6
 q1':x.s1.ph=2∨x.s1.ph=5∨x.s1.ph=6∨(x.s1.ph=7∧x.v.k=1)→s'.ph=2∨s'.ph=5∨s'.ph=6∨(s'.ph=7∧x.v.k=1)
 f1:s'.ph=6→canS x s'.p=true
structure Kept (cn:Int) (x y:Ex):Prop where
 inv:Inv2 cn y
 g:Grows x y
 v:x.v.k≠0→y.v=x.v
 fin : ∀ who,who=0∨who=1→finX x who=true→y.st who=x.st who
end Go.Proofs.YtlnmhocehgmbbaaGreatDoor
namespace Go.Proofs.YtlnmhocehgmbbaaGreatDoor
open Go.RowKit
section
variable {P:Program} {ops:Array Oper} {C:World→Prop} {Q:Exit→Act→World→Prop}
end
theorem wpList_app4 {P:Program} {ops:Array Oper} {rest:List Oper} {o:Oper} {a:Act} {Q:Exit→Act→World→Prop} {w:World} (B:Nat) (t e:TypeId) (i:TypeInfo) (z:Value) (size bytes:Nat)
 (ht:P.underlying t=some (.slice e)) (hi:P.info? e=some i) (hz:i.zero=some z) (hsize:i.size=size) (hby:i.bytes=bytes) (hzs:z.cells.size=size) (hsz:0<size)
 (hgd:o.guard=none) (s x:Operand) (ho:o.op = .call { callee:=.builtin .append,args:=#[s,x],argTypes:=#[t,t] })
 (v:Value) (n:Nat) (xs:List Value) (hs:a.eval s=v) (hown:w.ownsRow B e size v n xs) (hB:B≤w.heap.size)
 (v2:Value) (m:Nat) (news:List Value) (hx:a.eval x=v2) (hrow:Row w size v2 m news) (hnil:v2 = .slice none 0 0∨∃ a n c,v2 = .slice (some a) n c) (h1 : ∀ u∈news,u.oneCell'=true)
 (h63:n+m≤maxLen) (hbytes:(n+m)*bytes≤140737488355328)
 (h : ∀ v' w',w'.ownsRow B e size v' (n+m) (xs++news)→Below B w w'→w.grownBy w' v.ownBlock→wpList P ops Q rest (a.put o.dst v') w'):wpList P ops Q (o::rest) a w:=by
 rcases hnil with hnil|⟨ad,n',c',hnil⟩
 ·have hm0:m=0:=by
   rcases hrow.2 with ⟨h0,_⟩|⟨g,off,cap,hv,_⟩
   ·exact h0
   ·rw [hnil] at hv;cases hv
  subst hm0
  have hnews:news=[]:=List.length_eq_zero_iff.1 (by simpa using hrow.1)
  subst hnews
  refine wpList_append_own_none hgd s x t ho B e i size ht hi v n xs hs hown (by rw [hx,hnil]) (h v w (by simpa using hown) (Below.refl _ _) ⟨rfl,rfl,rfl,Nat.le_refl _,fun _ _ _=>rfl⟩)
 ·have key:v2 = .slice (some ad) m c'∧∀ j u,news[j]?=some u→w.cell? (ad.add j)=some u:=by
   rcases hrow.2 with ⟨h0,a',c2,hv⟩|⟨g,off,cap,hv,_,hc⟩
   ·rw [hnil] at hv
    simp only [Value.slice.injEq] at hv
    refine ⟨by rw [hnil,hv.2.1,h0],fun j u hj=>?_⟩
    have:news=[]:=List.length_eq_zero_iff.1 (by rw [hrow.1,h0,Nat.zero_mul])
    rw [this] at hj;simp at hj
   ·rw [hnil] at hv
    simp only [Value.slice.injEq,Option.some.injEq] at hv
    refine ⟨by rw [hnil,hv.2.1],fun j u hj=>?_⟩
    rw [hv.1]
    have:(⟨g,off,none⟩:Addr).add j=⟨g,off+j,none⟩:=by unfold Addr.add;split<;>simp_all
    rw [this];exact hc j u hj
  exact wpList_append_own w hgd s x t ho B e i z size bytes ht hi hz hsize hby hzs hsz v n xs hs hown ad m c' news (by rw [hx,key.1]) hrow.1 key.2 h1 h63 hbytes hB
   fun v' w' k1 k2 _=>h v' w' k1 (Below.grown (Below.refl _ _) k2 hB fun k hk=>(hown.lt k hk).1) k2
end Go.Proofs.YtlnmhocehgmbbaaGreatDoor

/- No condition. -/
import Derived.Test.YtlnmhocehgmbbaaGreatDoorWY9
import Derived.Laws.AppendOwnNone
set_option linter.all false
set_option maxRecDepth 100000
set_option maxHeartbeats 6400000
namespace Go.Proofs.YtlnmhocehgmbbaaGreatDoor
open Go.RowKit
theorem setCell_row {w:World} {b o:Nat} {arr:Array Value} {e:TypeId} {fr:Nat×Nat} (h:w.heap[b]?=some (.cells arr e fr)) (v:Value):(w.setCell ⟨b,o,none⟩ v).heap[b]?=some (.cells (arr.setIfInBounds o v) e fr):=by
 simp [World.setCell,Array.getElem?_modify,h]
structure Keeps (X:List Nat) (w w':World):Prop where
 os:w'.os=w.os
 tape:w'.tape=w.tape
 output:w'.output=w.output
 size:w.heap.size≤w'.heap.size
 block : ∀ k,k<w.heap.size→k∉X→w'.heap[k]?=w.heap[k]?
theorem Keeps.refl (X:List Nat) (w:World):Keeps X w w:=⟨rfl,rfl,rfl,Nat.le_refl _,fun _ _ _=>rfl⟩
theorem Keeps.trans {X:List Nat} {a b c:World} (h:Keeps X a b) (k:Keeps X b c):Keeps X a c:=
 ⟨k.os.trans h.os,k.tape.trans h.tape,k.output.trans h.output,zT h.size k.size,fun i hi hx=>(k.block i (zU hi h.size) hx).trans (h.block i hi hx)⟩
theorem Keeps.mono {X Y:List Nat} {a b:World} (h:Keeps X a b) (hs : ∀ k∈X,k∈Y):Keeps Y a b:=⟨h.os,h.tape,h.output,h.size,fun i hi hx=>h.block i hi fun he=>hx (hs i he)⟩
theorem Keeps.ext {X:List Nat} {a b c:World} (h:Keeps X a b) (k:Ext b c):Keeps X a c:=
 ⟨k.os.trans h.os,k.tape.trans h.tape,k.output.trans h.output,zT h.size k.size,fun i hi hx=>(k.block i (zU hi h.size)).trans (h.block i hi hx)⟩
theorem Keeps.cell {X:List Nat} {a b:World} (h:Keeps X a b) {p:Addr} {v:Value} (hp:p.block∉X) (hc:a.cell? p=some v):b.cell? p=some v:=by
 rw [←hc]
 exact World.cell?_of_block (h.block _ (World.block_lt_of_cell? a _ hc) hp)
def rowB (v:Value):List Nat:=match v.ownBlock with
 | some g=>[g]
 | none=>[]
section
variable {P:Program}
theorem run_append_where (w:World) (base:Nat) (t ty e:TypeId) (i:TypeInfo) (z:Value) (size bytes:Nat) (ht:P.underlying t=some (.slice e)) (hi:P.info? e=some i) (hz:i.zero=some z)
 (hsize:i.size=size) (hby:i.bytes=bytes) (hzs:z.cells.size=size) (hsz:0<size)
 (v:Value) (n:Nat) (xs:List Value) (hown:w.ownsRow base e size v n xs)
 (a:Addr) (m c:Nat) (news:List Value) (hm:0<m) (hl:news.length=m*size) (hnews : ∀ j u,news[j]?=some u→w.cell? (a.add j)=some u) (h1 : ∀ u∈news,u.oneCell'=true)
 (h63:n+m≤maxLen) (hbytes:(n+m)*bytes≤140737488355328) (hbase:base≤w.heap.size) :
 ∃ v' w',(Builtin.append_ #[t,t] ty #[v,.slice (some a) m c]).run P w = .ok v' w'∧w'.ownsRow base e size v' (n+m) (xs++news)∧w.grownBy w' v.ownBlock∧(∀ g∈rowB v',g∈rowB v∨w.heap.size≤g):=by
 obtain ⟨v',w',hr,h2,h3,_⟩:=run_append_own (P:=P) w base t ty e i z size bytes ht hi hz hsize hby hzs hsz v n xs hown a m c news hl hnews h1 h63 hbytes hbase
 refine ⟨v',w',hr,h2,h3,?_⟩
 subst hsize;subst hby
 have hsmall:n+m≤9223372036854775807:=by simp only [maxLen] at h63;omega
 rcases hown.2 with ⟨hv,hn⟩|⟨g,cap,cur,hv,hbg,hg,hnc,hcm,hcs,htake⟩
 ·subst hv;subst hn
  have hr2:=run_append_nil (P:=P) w t ty e i z ht hi hz a m c news hl hnews hm (by omega) (by have hb:=hbytes;simp only [Nat.zero_add] at hb;omega)
  rw [hr2] at hr
  cases hr
  intro g hg
  simp only [rowB,Value.ownBlock,List.mem_singleton] at hg
  exact .inr (by omega)
 ·subst hv
  by_cases hroom:n+m≤cap
  ·have hfit:n*i.size+news.length≤cur.size:=by rw [hl,hcs,←Nat.add_mul];exact Nat.mul_le_mul_right _ hroom
   have hr2:=run_append_room (P:=P) w t ty e i ht hi g n cap cur hg a m c news hl hnews h1 hroom hfit
   rw [hr2] at hr
   cases hr
   exact fun k hk=>.inl hk
  ·have holds : ∀ j u,xs[j]?=some u→w.cell? ((⟨g,0,none⟩:Addr).add j)=some u:=hown.cells (g:=g) rfl
   have hr2:=run_append_grow (P:=P) w t ty e i z ht hi hz ⟨g,0,none⟩ n cap xs hown.1 holds a m c news hl hnews (by omega) (by omega) (growslice_fits (by omega) hbytes)
   rw [hr2] at hr
   cases hr
   intro k hk
   simp only [rowB,Value.ownBlock,List.mem_singleton] at hk
   exact .inr (by omega)
theorem wpList_app5 {ops:Array Oper} {rest:List Oper} {o:Oper} {a:Act} {Q:Exit→Act→World→Prop} {w:World} (B:Nat) (t e:TypeId) (i:TypeInfo) (z:Value) (size bytes:Nat)
 (ht:P.underlying t=some (.slice e)) (hi:P.info? e=some i) (hz:i.zero=some z) (hsize:i.size=size) (hby:i.bytes=bytes) (hzs:z.cells.size=size) (hsz:0<size)
 (hgd:o.guard=none) (s x:Operand) (ho:o.op = .call { callee:=.builtin .append,args:=#[s,x],argTypes:=#[t,t] })
 (v:Value) (n:Nat) (xs:List Value) (hs:a.eval s=v) (hown:w.ownsRow B e size v n xs) (hB:B≤w.heap.size)
 (G m c:Nat) (news:Array Value) (hm:0<m) (hx:a.eval x = .slice (some ⟨G,0,none⟩) m c) (hG:w.heap[G]?=some (.cells news e (0,0))) (hl:news.size=m*size) (h1 : ∀ u∈news.toList,u.oneCell'=true)
 (h63:n+m≤maxLen) (hbytes:(n+m)*bytes≤140737488355328)
 (h : ∀ v' w',w'.ownsRow B e size v' (n+m) (xs++news.toList)→w.grownBy w' v.ownBlock→(∀ g∈rowB v',g∈rowB v∨w.heap.size≤g)→wpList P ops Q rest (a.put o.dst v') w'):wpList P ops Q (o::rest) a w:=by
 refine wpList_plain hgd fun _ hK=>?_
 obtain ⟨v',w',hr,h2,h3,h4⟩:=run_append_where (P:=P) w B t o.type e i z size bytes ht hi hz hsize hby hzs hsz v n xs hown ⟨G,0,none⟩ m c news.toList hm (by simpa using hl) (fun j u hj=>by
  have:(⟨G,0,none⟩:Addr).add j=⟨G,j,none⟩:=by unfold Addr.add;split<;>simp_all
  rw [this,cell_of_row w G j news e (0,0) hG]
  simpa using hj) h1 h63 hbytes hB
 unfold Oper.wp execOp
 simp only [ho,resolve,invoke,builtin,Sem.run_bind,Sem.run_pure,Result.andThen_ok,List.map_toArray,List.map_cons,List.map_nil,hs,hx,hr]
 exact hK _ _ (h v' w' h2 h3 h4)
end
theorem but_trans {X:Option Nat} {a b c:World} (h:a.grownBy b X) (k:b.grownBy c X):a.grownBy c X:=
 ⟨k.os.trans h.os,k.tape.trans h.tape,k.output.trans h.output,zT h.size k.size,fun i hi hx=>(k.block i (zU hi h.size) hx).trans (h.block i hi hx)⟩
theorem keeps_grown {X:List Nat} {a b c:World} (h:Keeps X a b) {v:Value} (k:b.grownBy c v.ownBlock) (hv : ∀ g∈rowB v,g∈X):Keeps X a c:=
 ⟨k.os.trans h.os,k.tape.trans h.tape,k.output.trans h.output,zT h.size k.size,fun i hi hx=>(k.block i (zU hi h.size) (fun he=>hx (hv i (by unfold rowB;rw [←he];exact .head _)))).trans (h.block i hi hx)⟩
theorem cell_other {w:World} {b o k:Nat} {v:Value} (h:k≠b):(w.setCell ⟨b,o,none⟩ v).heap[k]?=w.heap[k]?:=by
 simp only [World.setCell,Array.getElem?_modify]
 rw [if_neg (Ne.symm h)]
theorem Keeps.setCell {X:List Nat} {a b:World} (h:Keeps X a b) {g:Nat} (hg:g∈X∨a.heap.size≤g) (o:Nat) (v:Value):Keeps X a (b.setCell ⟨g,o,none⟩ v):=by
 refine ⟨h.os,h.tape,h.output,by simpa [World.setCell] using h.size,fun i hi hx=>?_⟩
 refine (cell_other ?_).trans (h.block i hi hx)
 rcases hg with hg|hg
 ·rintro rfl;exact hx hg
 ·omega
theorem own_same {w w':World} {base:Nat} {e:TypeId} {size:Nat} {v:Value} {n:Nat} {xs:List Value} (h:w.ownsRow base e size v n xs) (hk : ∀ k,base≤k→k<w.heap.size→w'.heap[k]?=w.heap[k]?):w'.ownsRow base e size v n xs:=by
 refine ⟨h.1,h.2.imp id ?_⟩
 rintro ⟨g,cap,cur,hv,hb,hg,r⟩
 exact ⟨g,cap,cur,hv,hb,by rw [hk g hb (zL hg)];exact hg,r⟩
theorem Keeps.setRow {X:List Nat} {a b:World} (h:Keeps X a b) {g:Nat} (hg:g∈X∨a.heap.size≤g) (cs:Array Value):Keeps X a (b.setRow g cs):=by
 refine ⟨h.os,h.tape,h.output,by simpa using h.size,fun i hi hx=>?_⟩
 refine (setRow_other b g i cs ?_).trans (h.block i hi hx)
 rcases hg with hg|hg
 ·rintro rfl;exact hx hg
 ·omega
theorem non_of {a b:World} (e:Ext a b):a.grownBy b none:=⟨e.os,e.tape,e.output,e.size,fun k hk _=>e.block k hk⟩
theorem non_ext {a b c:World} (h:a.grownBy b none) (e:Ext b c):a.grownBy c none:=but_trans h (non_of e)
def ExAt (w:World) (g:Nat) (x:Ex) (v:Value):Prop:=w.heap[g]?=some (.cells (x.arr v) 33 (0,0))
theorem ExAt.ext {w w':World} {g:Nat} {x:Ex} {v:Value} (h:ExAt w g x v) (e:Ext w w'):ExAt w' g x v:=heap_ext h e
def Own (w:World) (B:Nat) (h:List Lt) (v:Value):Prop:=w.ownsRow B 24 5 v h.length (h.flatMap Lt.cs)
theorem Own.ext {w w':World} {B:Nat} {h:List Lt} {v:Value} (o:Own w B h v) (e:Ext w w'):Own w' B h v:=own_ext o e
theorem Own.row {w:World} {B:Nat} {h:List Lt} {v:Value} (o:Own w B h v):Row w 5 v h.length (h.flatMap Lt.cs):=Row.of_own o
end Go.Proofs.YtlnmhocehgmbbaaGreatDoor
namespace Go.Proofs.YtlnmhocehgmbbaaGreatDoor
open Go.RowKit
attribute [local go_sem ↓] eql_lEq eql_sEq eql_eEq eql_oEq neq_lEq neq_sEq neq_eEq neq_oEq eql_vEq neq_vEq eql_nil
attribute [local go_sem] ExtOf.cell ExtOf.frozen ExtOf.lt ExtOf.le ButOf.cell0 ButOf.frozen0
attribute [local go_sem high] ExtOf.cell2 ExtOf.frozen2 ExtOf.lt2 ExtOf.cell3 ExtOf.frozen3 ExtOf.lt3 ExtOf.cellX ExtOf.frozenX ExtOf.cellX' ExtOf.frozenX'
def Mv.arr (m:Mv):Array Value:=#[.int .i64 m.k,.int .i64 m.who,.string m.t,.int .i64 m.l.k,.int .i64 m.l.f,.int .u64 m.l.c,.string m.l.t,.bool m.l.b,.bool m.lost]
def Heard1 (B gx:Nat) (x:Ex) (v:Value) (w w':World):Prop:=
 ∃ v',ExAt w' gx x v'∧Own w' B x.h v'∧Keeps (gx::rowB v) w w'∧∀ g∈rowB v',g∈rowB v∨w.heap.size≤g
theorem Heard1.ext {B gx:Nat} {x:Ex} {v:Value} {w a b:World} (h:Heard1 B gx x v w a) (e:Ext a b):Heard1 B gx x v w b:=by
 obtain ⟨v',h1,h2,h3,h4⟩:=h
 exact ⟨v',h1.ext e,h2.ext e,h3.ext e,h4⟩
theorem heard_same {B gx:Nat} {x:Ex} {v:Value} {w w':World} (hX:ExAt w gx x v) (hO:Own w B x.h v) (e:Ext w w'):Heard1 B gx x v w w':=
 ⟨v,hX.ext e,hO.ext e,(Keeps.refl _ w).ext e,fun _ h=>.inl h⟩
theorem arr_h (x:Ex) (v:Value) (h:List Lt):({ x with h:=h } : Ex).arr v=x.arr v:=rfl
theorem hear_skip {h:List Lt} {lost:Bool} {l:Lt} (hc:lost=true∨l∈h):hearS h lost l=h:=by unfold hearS;rw [if_pos hc]
theorem hear_add {h:List Lt} {l:Lt} (hc:l∉h):hearS h false l=h++[l]:=by unfold hearS;rw [if_neg (by rintro (h1|h1);cases h1;exact hc h1)]
theorem mo_hears0 (B gx gl:Nat) (x:Ex) (v:Value) (m:Mv) (l:Lt) (w:World) (hX:ExAt w gx x v) (hO:Own w B x.h v) (hl:LtAt w gl l) (hc:m.lost=true∨(m.lost=false∧l∈x.h)) :
 Calls Tryz.prog 71 #[.pointer (some ⟨gx,0,none⟩),.agg m.arr,.slice (some ⟨gl,0,none⟩) 1 1] w fun e w'=>e = .returned (.tuple #[])∧Ext w w':=by
 have HX:=zd hX
 have HL:=zd hl
 have HR:=zd hO.row
 clear hX hO hl
 have hco:=fun w' (hw:Ext w w')=>sl_contains v x.h l w' (Row.ext HR.out hw)
 unfold Mv.arr
 rcases hc with hc|⟨hc,hm⟩
 ·have HC:=zd hc
  clear hc hco HR
  go_enter Tryz.func71,Tryz.ntmps71
  go_wp2_with fail
  refine wp_forget (fun w'=>w'.heap[w.heap.size]?=some (.cells m.arr 52 (0,0))∧Ext w w') ⟨heap_new rfl,zR.alloc _⟩ ?_
  rintro W1 ⟨h1,e1⟩
  have HM1:=zd h1
  have HE1:=zd e1
  clear h1 e1
  go_loopg [10] 1 (fun g ii wr=>∃ y:ExtOf W1,wr=y.val∧((g=1∧ii = .int .i64 0)∨(g=0∧ii = .int .i64 1)))
  case atStart=>exact ⟨⟨_,zR⟩,rfl,.inl ⟨rfl,rfl⟩⟩
  case round=>
   obtain ⟨y,rfl,⟨rfl,rfl⟩|⟨rfl,rfl⟩⟩:=hrel
   ·have ql:=zQ (HL.out.ext (HE1.out.val y))
    go_wp2_with fail
    refine wp_forget (fun w'=>LtAt w' y.val.heap.size l∧Ext y.val w') ⟨heap_new rfl,zR.alloc _⟩ ?_
    rintro W2 ⟨h2,e2⟩
    have hm2:=heap_ext HM1.out (y.ext.trans e2)
    unfold Mv.arr at hm2
    have qm:=zQ hm2
    have qt:=zQ h2
    have lm:w.heap.size<W2.heap.size:=zL hm2
    have lt2:y.val.heap.size<W2.heap.size:=zL h2
    have hv2:W2.cell? ⟨gx,25,none⟩=some v:=by rw [cell_of_row _ _ _ _ _ _ (HX.out.ext ((HE1.out.val y).trans e2))];rfl
    have lx2:gx<W2.heap.size:=(Array.getElem?_eq_some_iff.1 (HX.out.ext ((HE1.out.val y).trans e2))).1
    have HE2:=zd e2
    clear hm2 h2 e2 ql
    have hlost:=HC.out
    refine wp_region_ext (by kernel_rfl) (by kernel_rfl) ?_
    repeat (go_big_quiet_step (fail))
    refine wpQuiet_nil ?_
    intro _ hx'
    obtain ⟨z,rfl⟩:=hx'
    go_wp2_with fail
    go_roundg 0
    case rel=>exact ⟨⟨z.val,(y.ext.trans HE2.out).val z⟩,rfl,.inr ⟨rfl,rfl⟩⟩
    case measure=>omega
   ·go_wp2_with fail
    exact ⟨rfl,.tuple #[],by simp [results,go_sem],rfl,HE1.out.val y⟩
 ·rw [decide_eq_true hm] at hco
  have HCo:=zd hco
  have HC:=zd hc
  clear hc hco HR hm
  go_enter Tryz.func71,Tryz.ntmps71
  go_wp2_with fail
  refine wp_forget (fun w'=>w'.heap[w.heap.size]?=some (.cells m.arr 52 (0,0))∧Ext w w') ⟨heap_new rfl,zR.alloc _⟩ ?_
  rintro W1 ⟨h1,e1⟩
  have HM1:=zd h1
  have HE1:=zd e1
  clear h1 e1
  go_loopg [10] 1 (fun g ii wr=>∃ y:ExtOf W1,wr=y.val∧((g=1∧ii = .int .i64 0)∨(g=0∧ii = .int .i64 1)))
  case atStart=>exact ⟨⟨_,zR⟩,rfl,.inl ⟨rfl,rfl⟩⟩
  case round=>
   obtain ⟨y,rfl,⟨rfl,rfl⟩|⟨rfl,rfl⟩⟩:=hrel
   ·have ql:=zQ (HL.out.ext (HE1.out.val y))
    go_wp2_with fail
    refine wp_forget (fun w'=>LtAt w' y.val.heap.size l∧Ext y.val w') ⟨heap_new rfl,zR.alloc _⟩ ?_
    rintro W2 ⟨h2,e2⟩
    have hm2:=heap_ext HM1.out (y.ext.trans e2)
    unfold Mv.arr at hm2
    have qm:=zQ hm2
    have qt:=zQ h2
    have lm:w.heap.size<W2.heap.size:=zL hm2
    have lt2:y.val.heap.size<W2.heap.size:=zL h2
    have hv2:W2.cell? ⟨gx,25,none⟩=some v:=by rw [cell_of_row _ _ _ _ _ _ (HX.out.ext ((HE1.out.val y).trans e2))];rfl
    have lx2:gx<W2.heap.size:=(Array.getElem?_eq_some_iff.1 (HX.out.ext ((HE1.out.val y).trans e2))).1
    have HE2:=zd e2
    clear hm2 h2 e2 ql
    have hlost:=HC.out
    refine wp_region_ext (by kernel_rfl) (by kernel_rfl) ?_
    repeat (go_big_quiet_step ((go_at_call 90;exact calls_ext (HCo.out _ (((HE1.out.val y).trans HE2.out).val _)))))
    refine wpQuiet_nil ?_
    intro _ hx'
    obtain ⟨z,rfl⟩:=hx'
    go_wp2_with fail
    go_roundg 0
    case rel=>exact ⟨⟨z.val,(y.ext.trans HE2.out).val z⟩,rfl,.inr ⟨rfl,rfl⟩⟩
    case measure=>omega
   ·go_wp2_with fail
    exact ⟨rfl,.tuple #[],by simp [results,go_sem],rfl,HE1.out.val y⟩
theorem mo_hears1 (B gx gl:Nat) (x:Ex) (v:Value) (m:Mv) (l:Lt) (w:World) (hX:ExAt w gx x v) (hO:Own w B x.h v) (hl:LtAt w gl l) (hlost:m.lost=false) (hm:l∉x.h)
 (hB:gx<B) (hBw:B≤w.heap.size) (hn:x.h.length≤100000) :
 Calls Tryz.prog 71 #[.pointer (some ⟨gx,0,none⟩),.agg m.arr,.slice (some ⟨gl,0,none⟩) 1 1] w fun e w'=>e = .returned (.tuple #[])∧Heard1 B gx { x with h:=x.h++[l] } v w w':=by
 obtain ⟨ti0,hi,hz0,hz1,hz2⟩:=info_parts info_letter
 have HX:=zd hX
 have HL:=zd hl
 have hO':w.ownsRow B 24 5 v x.h.length (x.h.flatMap Lt.cs):=hO
 have HO:=zd hO'
 clear hO'
 have HR:=zd hO.row
 clear hX hO hl
 have hco:=fun w' (hw:Ext w w')=>sl_contains v x.h l w' (Row.ext HR.out hw)
 unfold Mv.arr
 rw [decide_eq_false hm] at hco
 have HCo:=zd hco
 have HC:=zd hlost
 clear hlost hco HR hm
 go_enter Tryz.func71,Tryz.ntmps71
 go_wp2_with fail
 refine wp_forget (fun w'=>w'.heap[w.heap.size]?=some (.cells m.arr 52 (0,0))∧Ext w w') ⟨heap_new rfl,zR.alloc _⟩ ?_
 rintro W1 ⟨h1,e1⟩
 have HM1:=zd h1
 have HE1:=zd e1
 clear h1 e1
 go_loopg [10] 1 (fun g ii wr=>(g=1∧ii = .int .i64 0∧wr=W1)∨(g=0∧ii = .int .i64 1∧Hid (Heard1 B gx { x with h:=x.h++[l] } v w wr)))
 case atStart=>exact .inl ⟨rfl,rfl,rfl⟩
 case round=>
  obtain ⟨rfl,rfl,rfl⟩|⟨rfl,rfl,HD⟩:=hrel
  ·have ql:=zQ (HL.out.ext HE1.out)
   go_wp2_with fail
   refine wp_forget (fun w'=>LtAt w' wr.heap.size l∧Ext wr w') ⟨heap_new rfl,zR.alloc _⟩ ?_
   rintro W2 ⟨h2,e2⟩
   have hm2:=heap_ext HM1.out e2
   unfold Mv.arr at hm2
   have qm:=zQ hm2
   have qt:=zQ h2
   have lm:w.heap.size<W2.heap.size:=zL hm2
   have lt2:wr.heap.size<W2.heap.size:=zL h2
   have hv2:W2.cell? ⟨gx,25,none⟩=some v:=by rw [zQ (HX.out.ext (HE1.out.trans e2)) _];rfl
   have lx2:gx<W2.heap.size:=zL (HX.out.ext (HE1.out.trans e2))
   have HE2:=zd e2
   have HT2:=zd h2
   clear hm2 h2 e2 ql
   have hlost:=HC.out
   refine wp_region_ext (by kernel_rfl) (by kernel_rfl) ?_
   repeat (go_big_quiet_step ((go_at_call 90;exact calls_ext (HCo.out _ ((HE1.out.trans HE2.out).val _)))))
   refine wpQuiet_nil ?_
   intro _ hx'
   obtain ⟨z,rfl⟩:=hx'
   go_wp2_with fail
   refine wp_forget (fun w'=>LtAt w' wr.heap.size l∧ExAt w' gx x v∧Ext w w') ⟨HT2.out.ext z.ext,HX.out.ext ((HE1.out.trans HE2.out).val z),(HE1.out.trans HE2.out).val z⟩ ?_
   rintro W3 ⟨h3,hx3,e3⟩
   clear qm qt lm lt2 hv2 lx2 hlost z
   have qt:=zQ h3
   have lt3:wr.heap.size<W3.heap.size:=zL h3
   have hv3:W3.cell? ⟨gx,25,none⟩=some v:=by rw [zQ hx3 _];rfl
   have lx3:gx<W3.heap.size:=zL hx3
   have HE3:=zd e3
   have HX3:=zd hx3
   have lw:w.heap.size<wr.heap.size:=zL HM1.out
   clear h3 hx3 e3
   rcases HO.out.2 with ⟨hv,hn0⟩|⟨g,cap,cur,hv,hbg,hg,hnc,hcm,hcs,htk⟩
   ·subst hv
    clear hn0
    refine wp_region_late (af:=?af1) [true,true,true,true,true,true,false,false,false,false,false] [false,false,false,false,false,false,false,false,true,true,true] 37 (fun w'=>W3.grownBy w' none) (by kernel_rfl) rfl (by kernel_rfl) (fun _ _ h e=>non_ext h e) (non_of (Ext.refl W3).drew) ?q ?r
    case q=>
     intro w' hw'
     obtain ⟨y3,rfl⟩ : ∃ y3:ExtOf W3,w'=y3.val:=⟨⟨w',ext_grown hw'⟩,rfl⟩
     simp only [pickT,if_true,if_false,Bool.false_eq_true]
     repeat (go_big_quiet_step (fail))
     exact rfl
    case r=>
     simp only [pickN,if_true,if_false,Bool.false_eq_true]
     intro x1
     have e1:Ext W3 x1.val:=zR.drew.val x1
     go_wp2_with fail
     refine ⟨fun _=>non_of (e1.alloc _),?_⟩
     intro x2
     have e2:Ext W3 x2.val:=(e1.alloc _).val x2
     go_wp2_with (at_builtin;refine unHd ?_)
     unfold Hd2
     have hbx2:B≤x2.val.heap.size:=by have:=HE3.out.size;have:=e2.size;omega
     refine wpList_app5 B 31 24 ti0 _ 5 48 zu31 hi hz0 hz1 hz2 rfl (by decide) rfl _ _ rfl _ x.h.length _ rfl (own_ext HO.out (HE3.out.trans e2)) hbx2 x1.val.heap.size 1 1 #[.int .i64 l.k,.int .i64 l.f,.int .u64 l.c,.string l.t,.bool l.b] (by decide) rfl (heap_ext (heap_new rfl) x2.ext) rfl (by simp [Value.oneCell']) (by unfold maxLen;omega) (by omega) ?_
     intro v2 w2 hown2 hg2 hr2
     obtain ⟨g2,cap2,rfl⟩ : ∃ g2 cap2,v2 = .slice (some ⟨g2,0,none⟩) (x.h.length+1) cap2:=by
      rcases hown2.2 with ⟨_,h0⟩|⟨g2,cap2,_,h0,_⟩
      ·omega
      ·exact ⟨g2,cap2,h0⟩
     have c2:W3.grownBy w2 none:=but_trans (non_of (e2)) hg2
     refine ⟨c2,?_⟩
     intro x3
     go_wp2_with fail
     try refine ⟨fun h=>absurd h (by decide),?_⟩
     intro x4
     go_wp2_with fail
     try refine ⟨fun h=>absurd h (by decide),?_⟩
     intro x5
     have c5:W3.grownBy x5.val none:=non_ext c2 ((x3.ext.trans x4.ext).trans x5.ext)
     have hb5:ExAt x5.val gx x (.slice none 0 0):=(c5.block gx lx3 (by simp)).trans HX3.out
     have o5:=own_ext hown2 ((x3.ext.trans x4.ext).trans x5.ext)
     have hcb5:=zQ hb5
     have hfb5:=zF hb5
     unfold Ex.arr at hcb5
     generalize x5.val=w5 at c5 hb5 o5 hcb5 hfb5 ⊢
     have HB5:=zd hb5
     clear hb5
     go_wp2_with fail
     try refine ⟨fun h=>absurd h (by decide),?_⟩
     intro x6
     go_wp2_with fail
     go_roundg 0
     case rel=>
      refine .inr ⟨rfl,rfl,zd ⟨.slice (some ⟨g2,0,none⟩) (x.h.length+1) cap2,?_,?_,?_,fun k hk=>(hr2 k hk).imp id (fun h=>by have:=HE3.out.size;have:=e2.size;omega)⟩⟩
      ·exact heap_ext (setCell_row HB5.out _) x6.ext
      ·have:=own_ext (own_same o5 (fun k hk _=>cell_other (o:=25) (v:=.slice (some ⟨g2,0,none⟩) (x.h.length+1) cap2) (show k≠gx by omega))) x6.ext
       simpa [Own,Lt.cs] using this
      ·exact ((keeps_grown ((Keeps.refl _ w).ext HE3.out) (v:=.slice none 0 0) c5 (fun _ h=>List.mem_cons_of_mem _ h)).setCell (.inl (.head _)) 25 _).ext x6.ext
     case measure=>omega
   ·subst hv
    have lg:g<w.heap.size:=zL hg
    have n1:gx<g:=by omega
    have n2:g<wr.heap.size:=by omega
    clear hg hnc hcm hcs htk
    refine wp_region_late (af:=?af2) [true,true,true,true,true,true,false,false,false,false,false] [false,false,false,false,false,false,false,false,true,true,true] 37 (fun w'=>W3.grownBy w' (some g)) (by kernel_rfl) rfl (by kernel_rfl) (fun _ _ h e=>but_ext h e) (but_ext (but_refl g W3) (Ext.refl W3).drew) ?q ?r
    case q=>
     intro w' hw'
     obtain ⟨y3,rfl⟩ : ∃ y3:ButOf g W3,w'=y3.val:=⟨⟨w',hw'⟩,rfl⟩
     simp only [pickT,if_true,if_false,Bool.false_eq_true]
     repeat (go_big_quiet_step (fail))
     exact rfl
    case r=>
     simp only [pickN,if_true,if_false,Bool.false_eq_true]
     intro x1
     have e1:Ext W3 x1.val:=zR.drew.val x1
     go_wp2_with fail
     refine ⟨fun _=>but_ext (but_refl g W3) (e1.alloc _),?_⟩
     intro x2
     have e2:Ext W3 x2.val:=(e1.alloc _).val x2
     go_wp2_with (at_builtin;refine unHd ?_)
     unfold Hd2
     have hbx2:B≤x2.val.heap.size:=by have:=HE3.out.size;have:=e2.size;omega
     refine wpList_app5 B 31 24 ti0 _ 5 48 zu31 hi hz0 hz1 hz2 rfl (by decide) rfl _ _ rfl _ x.h.length _ rfl (own_ext HO.out (HE3.out.trans e2)) hbx2 x1.val.heap.size 1 1 #[.int .i64 l.k,.int .i64 l.f,.int .u64 l.c,.string l.t,.bool l.b] (by decide) rfl (heap_ext (heap_new rfl) x2.ext) rfl (by simp [Value.oneCell']) (by unfold maxLen;omega) (by omega) ?_
     intro v2 w2 hown2 hg2 hr2
     obtain ⟨g2,cap2,rfl⟩ : ∃ g2 cap2,v2 = .slice (some ⟨g2,0,none⟩) (x.h.length+1) cap2:=by
      rcases hown2.2 with ⟨_,h0⟩|⟨g2,cap2,_,h0,_⟩
      ·omega
      ·exact ⟨g2,cap2,h0⟩
     have c2:W3.grownBy w2 (some g):=but_trans (but_ext (but_refl g W3) (e2)) hg2
     refine ⟨c2,?_⟩
     intro x3
     go_wp2_with fail
     try refine ⟨fun h=>absurd h (by decide),?_⟩
     intro x4
     go_wp2_with fail
     try refine ⟨fun h=>absurd h (by decide),?_⟩
     intro x5
     have c5:W3.grownBy x5.val (some g):=but_ext c2 ((x3.ext.trans x4.ext).trans x5.ext)
     have hb5:ExAt x5.val gx x (.slice (some ⟨g,0,none⟩) x.h.length cap):=(c5.block gx lx3 (by simp;omega)).trans HX3.out
     have o5:=own_ext hown2 ((x3.ext.trans x4.ext).trans x5.ext)
     have hcb5:=zQ hb5
     have hfb5:=zF hb5
     unfold Ex.arr at hcb5
     generalize x5.val=w5 at c5 hb5 o5 hcb5 hfb5 ⊢
     have HB5:=zd hb5
     clear hb5
     go_wp2_with fail
     try refine ⟨fun h=>absurd h (by decide),?_⟩
     intro x6
     go_wp2_with fail
     go_roundg 0
     case rel=>
      refine .inr ⟨rfl,rfl,zd ⟨.slice (some ⟨g2,0,none⟩) (x.h.length+1) cap2,?_,?_,?_,fun k hk=>(hr2 k hk).imp id (fun h=>by have:=HE3.out.size;have:=e2.size;omega)⟩⟩
      ·exact heap_ext (setCell_row HB5.out _) x6.ext
      ·have:=own_ext (own_same o5 (fun k hk _=>cell_other (o:=25) (v:=.slice (some ⟨g2,0,none⟩) (x.h.length+1) cap2) (show k≠gx by omega))) x6.ext
       simpa [Own,Lt.cs] using this
      ·exact ((keeps_grown ((Keeps.refl _ w).ext HE3.out) (v:=.slice (some ⟨g,0,none⟩) x.h.length cap) c5 (fun _ h=>List.mem_cons_of_mem _ h)).setCell (.inl (.head _)) 25 _).ext x6.ext
     case measure=>omega
  ·go_wp2_with fail
   exact ⟨rfl,.tuple #[],by simp [results,go_sem],rfl,HD.out⟩
theorem mo_hears (B gx gl:Nat) (x:Ex) (v:Value) (m:Mv) (l:Lt) (w:World) (hX:ExAt w gx x v) (hO:Own w B x.h v) (hl:LtAt w gl l)
 (hB:gx<B) (hBw:B≤w.heap.size) (hn:x.h.length≤100000) :
 Calls Tryz.prog 71 #[.pointer (some ⟨gx,0,none⟩),.agg m.arr,.slice (some ⟨gl,0,none⟩) 1 1] w fun e w'=>e = .returned (.tuple #[])∧Heard1 B gx { x with h:=hearS x.h m.lost l } v w w':=by
 by_cases hc:m.lost=true∨l∈x.h
 ·rw [hear_skip hc]
  refine (mo_hears0 B gx gl x v m l w hX hO hl ?_).mono fun e w' h=>⟨h.1,heard_same hX hO h.2⟩
  rcases hc with hc|hc
  ·exact .inl hc
  ·cases hm:m.lost
   ·exact .inr ⟨rfl,hc⟩
   ·exact .inl rfl
 ·have hlost:m.lost=false:=by
   cases hm:m.lost
   ·rfl
   ·exact absurd (.inl hm) hc
  have hm:l∉x.h:=fun h=>hc (.inr h)
  rw [hlost,hear_add hm]
  exact mo_hears1 B gx gl x v m l w hX hO hl hlost hm hB hBw hn
def zP (w:World) (x:Ex) (v:Value) (m:Mv) (w':World):Prop:=ExAt w' w.heap.size x v∧w'.heap[w.heap.size+1]?=some (.cells m.arr 52 (0,0))∧w'.heap[w.heap.size+1+1]?=some (.cells #[.int .u64 0,.int .i64 0,.int .u64 0,.string { data:=#[] },.int .i64 0,.int .i64 0,.int .i64 0,.int .u64 0,.string { data:=#[] },.bool false,.int .i64 0,.int .u64 0,.string { data:=#[] },.int .i64 0,.int .i64 0,.int .i64 0,.int .u64 0,.string { data:=#[] },.bool false,.int .u64 0,.int .i64 0,.string { data:=#[] },.bool false,.bool false,.bool false,.slice none 0 0] 33 (0,0))∧Ext w w'
end Go.Proofs.YtlnmhocehgmbbaaGreatDoor

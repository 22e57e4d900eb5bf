/- No condition. -/
import Derived.Test.YtlnmhocehgmbbaaGreatDoorWY11
import Derived.Test.YtlnmhocehgmbbaaGreatDoorWY15
set_option linter.all false
set_option maxRecDepth 100000
set_option maxHeartbeats 6400000
namespace Go.Proofs.YtlnmhocehgmbbaaGreatDoor
open Go.RowKit
attribute [local go_sem ↓] eql_lEq eql_sEq eql_eEq eql_oEq neq_lEq neq_sEq neq_eEq neq_oEq eql_vEq neq_vEq eql_nil
attribute [local go_sem] ExtOf.cell ExtOf.frozen ExtOf.lt ExtOf.le
attribute [local go_sem high] ExtOf.cell2 ExtOf.frozen2 ExtOf.lt2 ExtOf.cell3 ExtOf.frozen3 ExtOf.lt3
theorem ev_cells {w:World} {g:Nat} {L:List Ev} {k:Nat} {x:Ev} (h : ∀ j u,(L.flatMap Ev.cs)[j]?=some u→w.cell? ⟨g,j,none⟩=some u) (hx:L[k]?=some x) :
 w.cell? ⟨g,k*8,none⟩=some (.int .i64 x.k)∧w.cell? ⟨g,k*8+1,none⟩=some (.int .u64 x.c)∧w.cell? ⟨g,k*8+2,none⟩=some (.string x.t)∧w.cell? ⟨g,k*8+3,none⟩=some (.int .i64 x.l.k)∧w.cell? ⟨g,k*8+4,none⟩=some (.int .i64 x.l.f)∧w.cell? ⟨g,k*8+5,none⟩=some (.int .u64 x.l.c)∧w.cell? ⟨g,k*8+6,none⟩=some (.string x.l.t)∧w.cell? ⟨g,k*8+7,none⟩=some (.bool x.l.b):=by
 have f:=fun j hj=>flat_get Ev.cs 8 (fun _=>rfl) L k x hx j hj
 exact ⟨h _ _ (f 0 (by omega)),h _ _ (f 1 (by omega)),h _ _ (f 2 (by omega)),h _ _ (f 3 (by omega)),h _ _ (f 4 (by omega)),h _ _ (f 5 (by omega)),h _ _ (f 6 (by omega)),h _ _ (f 7 (by omega))⟩
theorem or_events (r c:Int) (t:ByteArray) (ph k f c2:Int) (t2:ByteArray) (fk:Bool) (w:World) :
 Calls Tryz.prog 117 #[.agg #[.int .i64 r,.int .u64 c,.string t,.int .i64 ph,.int .i64 k,.int .i64 f,.int .u64 c2,.string t2,.bool fk]] w (Made w 102 8 (evsS ⟨r,c,t,ph,⟨k,f,c2,t2,fk⟩⟩).length ((evsS ⟨r,c,t,ph,⟨k,f,c2,t2,fk⟩⟩).flatMap Ev.cs)):=by
 rcases hw:waitS ⟨r,c,t,ph,⟨k,f,c2,t2,fk⟩⟩
 ·have e:evsS ⟨r,c,t,ph,⟨k,f,c2,t2,fk⟩⟩=[]:=by simp [evsS,hw]
  rw [e]
  clear e
  go_enter Tryz.func117,Tryz.ntmps117
  go_wp2_with (go_at_call 152;refine (or_waits _ _ _ _ _ _ _ _ _ _).mono ?_;rintro e w1 ⟨rfl,hx⟩;obtain ⟨x1,rfl⟩:=ext_of hx;clear hx)
  go_ret
  exact ⟨_,rfl,World.ownsRow_nil _ _ _ _,(zR.alloc _).val x1⟩
 ·have e:evsS ⟨r,c,t,ph,⟨k,f,c2,t2,fk⟩⟩=(rowsS c t ph).map (evR c):=by simp [evsS,hw]
  rw [e,List.length_map]
  exact or_eventsW r c t ph k f c2 t2 fk w hw
theorem evs_len (s:St):(evsS s).length≤3:=by
 unfold evsS
 split
 ·rw [List.length_map];exact rows_len _ _ _
 ·simp
def evB (e:Ev):Bool:=e.k == 2
theorem lines0 (evs:St→List Ev) (x:Ex):linesS evs x 0=((evs x.s0).filter evB).map (·.l):=rfl
theorem wa_0 (x:Ex) (v:Value) (w:World):Calls Tryz.prog 85 #[.agg (x.arr v),.int .i64 0] w (Made w 24 5 (linesS evsS x 0).length ((linesS evsS x 0).flatMap Lt.cs)):=by
 obtain ⟨i0,hi,hz0,hz1,hz2⟩:=info_parts info_letter
 have hE:=fun w=>or_events x.s0.r x.s0.c x.s0.t x.s0.ph x.s0.p.k x.s0.p.f x.s0.p.c x.s0.p.t x.s0.p.b w
 have hel:=evs_len x.s0
 rw [lines0]
 change ∀ w,Calls Tryz.prog 117 _ w (Made w 102 8 (evsS x.s0).length ((evsS x.s0).flatMap Ev.cs)) at hE
 generalize evsS x.s0=L at hE hel ⊢
 have HE:=zd hE
 clear hE
 go_enter Tryz.func85,Tryz.ntmps85
 go_upto_region 1 with fail
 refine wp_forget (fun w'=>ExAt w' w.heap.size x v∧Ext w w') (one_new zR) ?_
 rintro W1 ⟨h1,x1⟩
 unfold ExAt Ex.arr at h1
 have q1:=zQ h1
 have l1:w.heap.size<W1.heap.size:=zL h1
 have HX1:=zd x1
 clear x1 h1
 go_wp2_with (go_at_call 117;refine (HE.out _).mono ?_;rintro e w2 ⟨vr,rfl,hv,hx⟩;have hx2:=(Ext.alloc (Ext.refl W1) _).trans hx;obtain ⟨a,cap,rfl,hm,hvw⟩:=own_view hv;have HV:=zd hvw;have HX2:=zd hx2;unfold maxLen at hm;clear hvw hv hx hx2)
 refine wp_forget (fun w'=>w2=w') rfl ?_
 rintro _ rfl
 go_loopg [5,21] L.length (fun g l ii wr=>∃ (n:Nat) (M:List Lt) (y:ExtOf w2),ii = .int .i64 (n:Int)∧n+g=L.length∧wr=y.val∧Hid (M.length≤n∧M++((L.drop n).filter evB).map (·.l)=(L.filter evB).map (·.l))∧Hid (Own wr w2.heap.size M l))
 case atStart=>exact ⟨0,[],⟨w2,zR⟩,rfl,by omega,rfl,zd ⟨by simp,by simp⟩,zd (World.ownsRow_nil _ _ _ _)⟩
 case round=>
  obtain ⟨n,M,y,rfl,hg,rfl,HN,HOwn⟩:=hrel
  by_cases hlt:n<L.length
  ·obtain ⟨g,rfl,_,hgl,hcell⟩:=HV.out (by omega)
   obtain ⟨z,hx⟩ : ∃ x,L[n]?=some x:=⟨_,zG hlt⟩
   obtain ⟨q0,q1,q2,q3,q4,q5,q6,q7⟩:=ev_cells hcell hx
   have HX:=zd hx
   clear hx hcell
   have hlt':(n:Int)<(L.length:Int):=by omega
   have hMl:M.length≤n:=HN.out.1
   have hW1:w2.heap.size≤y.val.heap.size:=y.ext.size
   rcases h2:(z.k == 2)
   ·have HB:Hid (evB z=false):=zd h2
    go_wp2_with fail
    go_roundg (gk - 1)
    case rel=>
     refine ⟨n+1,M,⟨_,y.ext.alloc _⟩,rfl,by omega,rfl,zd ⟨by omega,?_⟩,zd (HOwn.out.ext (zR.alloc _))⟩
     have hh:=HN.out.2
     rw [List.drop_eq_getElem_cons hlt,List.filter_cons] at hh
     have hz:=(List.getElem?_eq_some_iff.1 HX.out).2
     rw [hz,HB.out] at hh
     simpa using hh
    case measure=>omega
   ·have HB:Hid (evB z=true):=zd h2
    go_wp2_with (at_builtin;refine wpList_app w2.heap.size 31 24 i0 _ 5 48 zu31 hi hz0 hz1 hz2 rfl (by decide) rfl _ _ rfl _ M.length _ rfl (own_ext HOwn.out (((Ext.refl y.val).alloc _).alloc _)) (zT y.ext.size (((Ext.refl y.val).alloc _).alloc _).size) (y.val.heap.size+1) 1 1 _ rfl (heap_new (by simp)) rfl (by simp [Value.oneCell']) (by unfold maxLen;omega) (by omega) ?_;intro v2 w3 hv2 hb2 _)
    go_roundg (gk - 1)
    case rel=>
     refine ⟨n+1,M++[z.l],⟨w3,((y.ext.alloc _).alloc _).trans' hb2⟩,rfl,by omega,rfl,zd ⟨by simp;omega,?_⟩,zd (by simpa [Own,Lt.cs] using hv2)⟩
     have hh:=HN.out.2
     rw [List.drop_eq_getElem_cons hlt,List.filter_cons] at hh
     have hz:=(List.getElem?_eq_some_iff.1 HX.out).2
     rw [hz,HB.out] at hh
     simpa using hh
    case measure=>omega
  ·have hge:(L.length:Int)≤(n:Int):=by omega
   go_wp2_with fail
   go_ret
   have hh:=HN.out.2
   rw [List.drop_eq_nil_of_le (by omega),List.filter_nil,List.map_nil,List.append_nil] at hh
   have hO:=HOwn.out
   rw [hh] at hO
   unfold Own at hO
   rw [List.length_map] at hO
   exact ⟨_,rfl,own_base hO (zT HX1.out.size HX2.out.size),HX1.out.trans (HX2.out.trans y.ext)⟩
def lk1 (c:Int) (t:ByteArray) (k:Int):Lt:=⟨k,0,c,if k=5 then { data:=#[] } else t,false⟩
theorem lines1 (evs:St→List Ev) (x:Ex):linesS evs x 1=[(1:Int),2,5,6].map (lk1 x.s1.c x.s1.t):=by simp [linesS,lk1]
theorem wa_1 (x:Ex) (v:Value) (w:World):Calls Tryz.prog 85 #[.agg (x.arr v),.int .i64 1] w (Made w 24 5 (linesS evsS x 1).length ((linesS evsS x 1).flatMap Lt.cs)):=by
 obtain ⟨i0,hi,hz0,hz1,hz2⟩:=info_parts info_letter
 rw [lines1]
 go_enter Tryz.func85,Tryz.ntmps85
 go_upto_region 1 with fail
 refine wp_forget (fun w'=>ExAt w' w.heap.size x v∧Ext w w') (one_new zR) ?_
 rintro W1 ⟨h1,x1⟩
 unfold ExAt Ex.arr at h1
 have q1:=zQ h1
 have l1:w.heap.size<W1.heap.size:=zL h1
 have HX1:=zd x1
 clear x1 h1
 go_wp2_with fail
 refine wp_forget (fun w'=>∃ gs gk,gs=W1.heap.size∧gk=W1.heap.size+1∧w'.heap[gs]?=some (.cells #[.int .i64 x.s1.r,.int .u64 x.s1.c,.string x.s1.t,.int .i64 x.s1.ph,.int .i64 x.s1.p.k,.int .i64 x.s1.p.f,.int .u64 x.s1.p.c,.string x.s1.p.t,.bool x.s1.p.b] 26 (0,0))∧w'.heap[gk]?=some (.cells #[.int .i64 1,.int .i64 2,.int .i64 5,.int .i64 6] 3 (0,0))∧Ext w w') ⟨_,_,rfl,rfl,heap_ext (heap_new rfl) (zR.alloc _),heap_new (by simp),(HX1.out.alloc _).alloc _⟩ ?_
 clear q1 l1
 rintro W2 ⟨gs,gq,hgs,hgq,h2,h3,x2⟩
 rw [←hgq,←hgs]
 clear hgq hgs HX1
 have q2:=zQ h2
 have q3:=zQ h3
 have l2:gs<W2.heap.size:=zL h2
 have l3:gq<W2.heap.size:=zL h3
 have HX2:=zd x2
 clear x2 h2 h3
 go_loopg [5,37] 4 (fun g l ii wr=>∃ (n:Nat) (y:ExtOf W2),ii = .int .i64 (n:Int)∧n+g=4∧wr=y.val∧Hid (Own wr W2.heap.size (([(1:Int),2,5,6].take n).map (lk1 x.s1.c x.s1.t)) l))
 case atStart=>exact ⟨0,⟨W2,zR⟩,rfl,by omega,rfl,zd (World.ownsRow_nil _ _ _ _)⟩
 case round=>
  obtain ⟨n,y,rfl,hg,rfl,HOwn⟩:=hrel
  have hW1:W2.heap.size≤y.val.heap.size:=y.ext.size
  obtain rfl|rfl|rfl|rfl|rfl:n=0∨n=1∨n=2∨n=3∨n=4:=by omega
  ·go_wp2_with (at_builtin;refine wpList_app W2.heap.size 31 24 i0 _ 5 48 zu31 hi hz0 hz1 hz2 rfl (by decide) rfl _ _ rfl _ 0 _ rfl (own_ext HOwn.out (((Ext.refl y.val).alloc _).alloc _)) (zT y.ext.size (((Ext.refl y.val).alloc _).alloc _).size) (y.val.heap.size+1) 1 1 _ rfl (heap_new (by simp)) rfl (by simp [Value.oneCell']) (by unfold maxLen;omega) (by omega) ?_;intro v2 w3 hv2 hb2 _)
   go_roundg 3
   case rel=>
    refine ⟨1,⟨w3,((y.ext.alloc _).alloc _).trans' hb2⟩,rfl,by omega,rfl,zd (by simpa [Own,Lt.cs,lk1] using hv2)⟩
   case measure=>omega
  ·go_wp2_with (at_builtin;refine wpList_app W2.heap.size 31 24 i0 _ 5 48 zu31 hi hz0 hz1 hz2 rfl (by decide) rfl _ _ rfl _ 1 _ rfl (own_ext HOwn.out (((Ext.refl y.val).alloc _).alloc _)) (zT y.ext.size (((Ext.refl y.val).alloc _).alloc _).size) (y.val.heap.size+1) 1 1 _ rfl (heap_new (by simp)) rfl (by simp [Value.oneCell']) (by unfold maxLen;omega) (by omega) ?_;intro v2 w3 hv2 hb2 _)
   go_roundg 2
   case rel=>
    refine ⟨2,⟨w3,((y.ext.alloc _).alloc _).trans' hb2⟩,rfl,by omega,rfl,zd (by simpa [Own,Lt.cs,lk1] using hv2)⟩
   case measure=>omega
  ·go_wp2_with (at_builtin;refine wpList_app W2.heap.size 31 24 i0 _ 5 48 zu31 hi hz0 hz1 hz2 rfl (by decide) rfl _ _ rfl _ 2 _ rfl (own_ext HOwn.out (((Ext.refl y.val).alloc _).alloc _)) (zT y.ext.size (((Ext.refl y.val).alloc _).alloc _).size) (y.val.heap.size+1) 1 1 _ rfl (heap_new (by simp)) rfl (by simp [Value.oneCell']) (by unfold maxLen;omega) (by omega) ?_;intro v2 w3 hv2 hb2 _)
   go_roundg 1
   case rel=>
    refine ⟨3,⟨w3,((y.ext.alloc _).alloc _).trans' hb2⟩,rfl,by omega,rfl,zd (by simpa [Own,Lt.cs,lk1] using hv2)⟩
   case measure=>omega
  ·go_wp2_with (at_builtin;refine wpList_app W2.heap.size 31 24 i0 _ 5 48 zu31 hi hz0 hz1 hz2 rfl (by decide) rfl _ _ rfl _ 3 _ rfl (own_ext HOwn.out (((Ext.refl y.val).alloc _).alloc _)) (zT y.ext.size (((Ext.refl y.val).alloc _).alloc _).size) (y.val.heap.size+1) 1 1 _ rfl (heap_new (by simp)) rfl (by simp [Value.oneCell']) (by unfold maxLen;omega) (by omega) ?_;intro v2 w3 hv2 hb2 _)
   go_roundg 0
   case rel=>
    refine ⟨4,⟨w3,((y.ext.alloc _).alloc _).trans' hb2⟩,rfl,by omega,rfl,zd (by simpa [Own,Lt.cs,lk1] using hv2)⟩
   case measure=>omega
  ·go_wp2_with fail
   go_ret
   have hO:=HOwn.out
   exact ⟨_,rfl,own_base hO HX2.out.size,HX2.out.trans y.ext⟩
theorem mo_waited (x:Ex) (v:Value) (who:Int) (w:World) (hw:who=0∨who=1):Calls Tryz.prog 85 #[.agg (x.arr v),.int .i64 who] w (Made w 24 5 (linesS evsS x who).length ((linesS evsS x who).flatMap Lt.cs)):=by
 rcases hw with rfl|rfl
 ·exact wa_0 x v w
 ·exact wa_1 x v w
theorem info_move:(Tryz.prog.info? 52).map (fun i=>(i.zero,i.size,i.bytes))=some (some (.agg #[.int .i64 0,.int .i64 0,.string { data:=#[] },.int .i64 0,.int .i64 0,.int .u64 0,.string { data:=#[] },.bool false,.bool false]),9,88):=by kernel_rfl
def Own9 (w:World) (B:Nat) (L:List Mv) (v:Value):Prop:=w.ownsRow B 52 9 v L.length (L.flatMap Mv.cs)
theorem Own9.ext {w w':World} {B:Nat} {L:List Mv} {v:Value} (h:Own9 w B L v) (e:Ext w w'):Own9 w' B L v:=own_ext h e
theorem kept_grown {w w':World} {v:Value} {b:Nat} {ob:Obj} (h:w.heap[b]?=some ob) (g:w.grownBy w' v.ownBlock) (hb:b∉rowB v):w'.heap[b]?=some ob:=by
 rw [g.block b (zL h) (fun he=>hb (by unfold rowB;rw [←he];exact .head _))]
 exact h
theorem own_rowB9 {w:World} {B:Nat} {e:TypeId} {size n:Nat} {xs:List Value} {v:Value} (o:w.ownsRow B e size v n xs) : ∀ g∈rowB v,B≤g∧g<w.heap.size:=by
 intro g hg
 rcases o.2 with ⟨hv,_⟩|⟨g',cap,cur,hv,hb,hg',_⟩
 ·subst hv;simp [rowB,Value.ownBlock] at hg
 ·subst hv
  simp only [rowB,Value.ownBlock,List.mem_singleton] at hg
  subst hg
  exact ⟨hb,(zL hg')⟩
section
variable {P:Program} {ops:Array Oper} {Q:Exit→Act→World→Prop}
theorem wpList_app6 {rest:List Oper} {o:Oper} {a:Act} {w:World} (B:Nat) (t e:TypeId) (i:TypeInfo) (z:Value) (size bytes:Nat)
 (ht:P.underlying t=some (.slice e)) (hi:P.info? e=some i) (hz:i.zero=some z) (hsize:i.size=size) (hby:i.bytes=bytes) (hzs:z.cells.size=size) (hsz:0<size)
 (hgd:o.guard=none) (s x:Operand) (ho:o.op = .call { callee:=.builtin .append,args:=#[s,x],argTypes:=#[t,t] })
 (v:Value) (n:Nat) (xs:List Value) (hs:a.eval s=v) (hown:w.ownsRow B e size v n xs) (hB:B≤w.heap.size)
 (G m c:Nat) (news:Array Value) (hm:0<m) (hx:a.eval x = .slice (some ⟨G,0,none⟩) m c) (hG:w.heap[G]?=some (.cells news e (0,0))) (hl:news.size=m*size) (h1 : ∀ u∈news.toList,u.oneCell'=true)
 (h63:n+m≤maxLen) (hbytes:(n+m)*bytes≤140737488355328)
 (h : ∀ v' w',w'.ownsRow B e size v' (n+m) (xs++news.toList)→Below B w w'→w.grownBy w' v.ownBlock→(∀ g∈rowB v',g∈rowB v∨w.heap.size≤g)→wpList P ops Q rest (a.put o.dst v') w'):wpList P ops Q (o::rest) a w:=
 wpList_app5 B t e i z size bytes ht hi hz hsize hby hzs hsz hgd s x ho v n xs hs hown hB G m c news hm hx hG hl h1 h63 hbytes
  fun v' w' k1 k2 k3=>h v' w' k1 (Below.grown (Below.refl _ _) k2 hB fun k hk=>(hown.lt k hk).1) k2 k3
end
def startM (who:Int) (t:ByteArray):Mv:=⟨1,who,t,l0,false⟩
def takeM (who:Int) (l:Lt):Mv:=⟨2,who,{ data:=#[] },l,false⟩
def tickM (who:Int):Mv:=⟨3,who,{ data:=#[] },l0,false⟩
def askA (c:Int):Mv:=⟨4,0,{ data:=#[] },⟨3,0,c,{ data:=#[] },false⟩,false⟩
def askR (c f:Int) (t:ByteArray):Mv:=⟨4,0,{ data:=#[] },⟨4,f,c,t,false⟩,false⟩
theorem candP_no {evs:St→List Ev} {x:Ex} {T:List ByteArray} {who:Int} (h:x.bad who=true):candP evs x T who=[]:=by simp [candP,h]
theorem candP_yes {evs:St→List Ev} {x:Ex} {T:List ByteArray} {who:Int} (h:x.bad who=false):candP evs x T who=T.map (startM who)++(linesS evs x who).map (takeM who)++[tickM who]:=by
 unfold candP
 rw [if_neg (by rw [h];simp),List.append_assoc]
 rfl
def cand1 (evs:St→List Ev) (x:Ex) (T:List ByteArray) (n:Nat):List Mv:=(List.range n).flatMap fun i:Nat=>candP evs x T (i:Int)
def cand2 (x:Ex) (T:List ByteArray) (n:Nat):List Mv:=(List.range n).flatMap fun i:Nat=>T.map (askR x.c (i:Int))
theorem cand1_succ {evs:St→List Ev} {x:Ex} {T:List ByteArray} {n:Nat} : cand1 evs x T (n+1)=cand1 evs x T n++candP evs x T (n:Int):=by simp [cand1,List.range_succ,List.flatMap_append]
theorem cand2_succ {x:Ex} {T:List ByteArray} {n:Nat} : cand2 x T (n+1)=cand2 x T n++T.map (askR x.c (n:Int)):=by simp [cand2,List.range_succ,List.flatMap_append]
theorem cand_eq (evs:St→List Ev) (x:Ex) (T:List ByteArray):candS evs x T=cand1 evs x T 2++[askA x.c]++cand2 x T 2++[⟨5,0,{ data:=#[] },l0,false⟩,⟨5,1,{ data:=#[] },l0,false⟩]:=by
 simp [candS,cand1,cand2,List.range_succ,askR,askA]
 rfl
theorem lines_len {evs:St→List Ev} (he : ∀ s,(evs s).length≤3) (x:Ex) (who:Int):(linesS evs x who).length≤4:=by
 unfold linesS
 split
 ·rw [List.length_map]
  have h1:=List.length_filter_le (fun e:Ev=>e.k == 2) (evs x.s0)
  have:=he x.s0
  omega
 ·simp
theorem cand1_len {evs:St→List Ev} (he : ∀ s,(evs s).length≤3) (x:Ex) (T:List ByteArray) : ∀ n,(cand1 evs x T n).length≤n*(T.length+5)
 | 0=>by simp [cand1]
 | n+1=>by
  rw [cand1_succ,List.length_append]
  have h1:=cand1_len he x T n
  have h2:(candP evs x T (n:Int)).length≤T.length+5:=by
   unfold candP
   split
   ·simp
   ·have:=lines_len he x (n:Int)
    simp
    omega
  rw [Nat.add_mul]
  omega
theorem cand2_len (x:Ex) (T:List ByteArray) : ∀ n,(cand2 x T n).length=n*T.length
 | 0=>by simp [cand2]
 | n+1=>by rw [cand2_succ,List.length_append,cand2_len x T n,List.length_map,Nat.add_mul];omega
theorem str_cell {w:World} {g off:Nat} {T:List ByteArray} {k:Nat} {x:ByteArray} (h : ∀ j u,(T.map Value.string)[j]?=some u→w.cell? ⟨g,off+j,none⟩=some u) (hx:T[k]?=some x):w.cell? ⟨g,off+k,none⟩=some (.string x):=
 h k _ (by rw [List.getElem?_map,hx];rfl)
theorem take_map {α β:Type} (f:α→β) {T:List α} {j:Nat} {t:α} (h:T[j]?=some t):(T.take (j+1)).map f=(T.take j).map f++[f t]:=by
 rw [List.take_add_one,h];simp
theorem own9_one {w:World} {B n:Nat} {M:List Mv} {xs:List Value} {z:Mv} {v:Value} (h:w.ownsRow B 52 9 v n xs) (hn:n=M.length+1) (hx:xs=M.flatMap Mv.cs++z.cs):Own9 w B (M++[z]) v:=by
 subst hn;subst hx
 unfold Own9
 rw [List.length_append,List.flatMap_append]
 simpa using h
def RowAt (w:World) (e:TypeId) (a:Option Addr) (xs:List Value) (l:Value):Prop:=xs≠[]→∃ gb cur,a=some ⟨gb,0,none⟩∧w.heap[gb]?=some (.cells cur e (0,0))∧gb∉rowB l∧∀ (j:Nat) u,xs[j]?=some u→cur[j]?=some u
theorem row_at {w w':World} {base:Nat} {e:TypeId} {size n:Nat} {v l:Value} {xs:List Value} (h:w.ownsRow base e size v n xs) (hw:Ext w w') (hl : ∀ g∈rowB l,g<base) : ∃ a cap,v = .slice a n cap∧n≤maxLen∧RowAt w' e a xs l:=by
 obtain ⟨hx,⟨hv,hn⟩|⟨g,cap,cur,hv,hb,hg,hn,hm,hs,ht⟩⟩:=h
 ·refine ⟨none,0,by rw [hv,hn],by omega,fun hne=>?_⟩
  subst hn
  rw [Nat.zero_mul] at hx
  exact absurd (List.length_eq_zero_iff.1 hx) hne
 ·refine ⟨_,_,hv,by omega,fun _=>⟨g,cur,rfl,heap_ext hg hw,fun hm=>by have:=hl g hm;omega,fun j u hj=>?_⟩⟩
  rw [←ht] at hj
  have hjl:=zM hj
  rw [List.length_take] at hjl
  rw [List.getElem?_take_of_lt (by omega)] at hj
  simpa using hj
theorem RowAt.step {w w1 w':World} {e:TypeId} {a:Option Addr} {xs:List Value} {l l':Value} (h:RowAt w e a xs l) (hx:Ext w w1) (hg:w1.grownBy w' l.ownBlock) (hl : ∀ g∈rowB l',g∈rowB l∨w1.heap.size≤g):RowAt w' e a xs l':=fun hne=>by
 obtain ⟨gb,cur,h1,h2,h3,h4⟩:=h hne
 refine ⟨gb,cur,h1,kept_grown (heap_ext h2 hx) hg h3,fun hm=>?_,h4⟩
 have hlt:=zL h2
 have:=hx.size
 rcases hl gb hm with h|h
 ·exact h3 h
 ·omega
theorem flat_ne {L:List Lt} {k:Nat} {x:Lt} (h:L[k]?=some x):L.flatMap Lt.cs≠[]:=fun e=>by
 have:=flat_get Lt.cs 5 (fun _=>rfl) L k x h 0 (by omega)
 rw [e] at this
 simp [Lt.cs] at this
theorem lt_cells0 {w:World} {g:Nat} {L:List Lt} {k:Nat} {x:Lt} (h : ∀ j u,(L.flatMap Lt.cs)[j]?=some u→w.cell? ⟨g,j,none⟩=some u) (hx:L[k]?=some x) :
 w.cell? ⟨g,k*5,none⟩=some (.int .i64 x.k)∧w.cell? ⟨g,k*5+1,none⟩=some (.int .i64 x.f)∧w.cell? ⟨g,k*5+2,none⟩=some (.int .u64 x.c)∧w.cell? ⟨g,k*5+3,none⟩=some (.string x.t)∧w.cell? ⟨g,k*5+4,none⟩=some (.bool x.b):=by
 have key:=fun j hj=>flat_get Lt.cs 5 (fun _=>rfl) L k x hx j hj
 exact ⟨h _ _ (key 0 (by omega)),h _ _ (key 1 (by omega)),h _ _ (key 2 (by omega)),h _ _ (key 3 (by omega)),h _ _ (key 4 (by omega))⟩
theorem mo_cand (x:Ex) (v tv:Value) (T:List ByteArray) (w:World) (hT:Row w 1 tv T.length (T.map Value.string)) (hn:T.length≤1000):Calls Tryz.prog 59 #[.agg (x.arr v),tv] w (Made w 52 9 (candS evsS x T).length ((candS evsS x T).flatMap Mv.cs)):=by
 obtain ⟨i0,hi,hz0,hz1,hz2⟩:=info_parts info_move
 obtain ⟨a,cap,rfl,hm,hvw⟩:=row_view hT
 have HV:=zd hvw
 clear hvw hT hm
 rw [cand_eq]
 have c1l:=cand1_len evs_len x T
 have c2l:=cand2_len x T
 have hLs:=lines_len evs_len x
 generalize hC1:cand1 evsS x T=C1 at c1l ⊢
 have HC1:=zd hC1
 generalize hC2:cand2 x T=C2 at c2l ⊢
 have HC2:=zd hC2
 have HC1L:=zd c1l
 have HC2L:=zd c2l
 clear hC1 hC2 c1l c2l
 go_enter Tryz.func59,Tryz.ntmps59
 go_upto_region 1 with fail
 refine wp_forget (fun w'=>ExAt w' w.heap.size x v∧Ext w w') (one_new zR) ?_
 rintro W1 ⟨h1,x1⟩
 have HX1:=zd h1
 unfold ExAt Ex.arr at h1
 have q1:=zQ h1
 have HQ1:=zd q1
 have l1:w.heap.size<W1.heap.size:=zL h1
 have HE1:=zd x1
 clear x1 h1 q1
 go_wp2_with fail
 go_loopg [5,14] 2 (fun g l ii wr=>∃ (n:Nat) (y:ExtOf W1),ii = .int .i64 (n:Int)∧n+g=2∧wr=y.val∧Hid (Own9 wr W1.heap.size (C1 n) l))
 case atStart=>exact ⟨0,⟨W1,zR⟩,rfl,by omega,rfl,zd (by rw [←HC1.out];exact World.ownsRow_nil W1 _ _ _)⟩
 case round=>
  obtain ⟨n,y,rfl,hg,rfl,HOwn⟩:=hrel
  by_cases hlt:n<2
  case neg=>
   have hge:(2:Int)≤(n:Int):=by omega
   have hO2:=HOwn.out
   rw [show n=2 by omega] at hO2
   have HO2:=zd hO2
   have hC12:(C1 2).length≤2*(T.length+5):=HC1L.out 2
   clear hO2 HOwn
   have q0:=HQ1.out 0
   have hyl:=y.ext.size
   go_upto_region 19 with (at_builtin;refine wpList_app6 W1.heap.size 48 52 i0 _ 9 88 zu48 hi hz0 hz1 hz2 rfl (by decide) rfl _ _ rfl _ (C1 2).length _ rfl (Own9.ext HO2.out ((Ext.refl y.val).alloc _)) (zT y.ext.size ((Ext.refl y.val).alloc _).size) y.val.heap.size 1 1 _ (by omega) rfl (heap_new (by simp)) rfl (by simp [Value.oneCell']) (by unfold maxLen;omega) (by omega) ?_;intro v2 w3 hv2 hb2 _ _)
   have hv3:=own9_one (z:=askA x.c) hv2 rfl (by simp [Mv.cs,askA,l0])
   have HO3:=zd hv3
   have hx3:=(y.ext.alloc _).trans' hb2
   obtain ⟨y3,rfl⟩:=ext_of hx3
   clear hv3 hv2 hb2 HO2 hx3 hyl
   go_wp2_with fail
   go_loopg [5,62] 2 (fun g l ii wr=>∃ (n:Nat) (y:ExtOf W1),ii = .int .i64 (n:Int)∧n+g=2∧wr=y.val∧Hid (Own9 wr W1.heap.size (C1 2++[askA x.c]++C2 n) l))
   case atStart=>exact ⟨0,y3,rfl,by omega,rfl,zd (by rw [←HC2.out,show cand2 x T 0=[] from rfl,List.append_nil];exact HO3.out)⟩
   case round=>
    clear HO3
    obtain ⟨m,y,rfl,hgm,rfl,HOwn⟩:=hrel
    by_cases hlm:m<2
    case neg=>
     have hge2:(2:Int)≤(m:Int):=by omega
     have hO2:=HOwn.out
     rw [show m=2 by omega] at hO2
     have HO2:=zd hO2
     have hC22:(C2 2).length≤2*T.length:=Nat.le_of_eq (HC2L.out 2)
     have hl2:(C1 2++[askA x.c]++C2 2).length≤5000:=by simp;omega
     have hzl:=y.ext.size
     clear hO2 HOwn
     go_wp2_with (at_builtin;refine wpList_app6 W1.heap.size 48 52 i0 _ 9 88 zu48 hi hz0 hz1 hz2 rfl (by decide) rfl _ _ rfl _ (C1 2++[askA x.c]++C2 2).length _ rfl (Own9.ext HO2.out ((Ext.refl y.val).alloc _)) (zT y.ext.size ((Ext.refl y.val).alloc _).size) y.val.heap.size 2 2 _ (by omega) rfl (heap_new (by simp)) rfl (by simp [Value.oneCell']) (by unfold maxLen;omega) (by omega) ?_;intro v2 w3 hv2 hb2 _ _)
     go_ret
     have hO6:Own9 w3 W1.heap.size (C1 2++[askA x.c]++C2 2++[⟨5,0,{ data:=#[] },l0,false⟩,⟨5,1,{ data:=#[] },l0,false⟩]) v2:=by
      unfold Own9
      rw [List.length_append,List.flatMap_append]
      simpa [Mv.cs,l0] using hv2
     refine ⟨_,rfl,?_,HE1.out.trans ((y.ext.alloc _).trans' hb2)⟩
     unfold Own9 at hO6
     have hO7:=own_base hO6 HE1.out.size
     simpa using hO7
    have hlm':(m:Int)<2:=by omega
    have hC2m:(C2 m).length≤2*T.length:=zT (Nat.le_of_eq (HC2L.out m)) (Nat.mul_le_mul_right _ (by omega))
    go_wp2_with fail
    go_loopg [5,67] T.length (fun g l ii wr=>∃ (j:Nat) (z:ExtOf W1),ii = .int .i64 (j:Int)∧j+g=T.length∧wr=z.val∧Hid (Own9 wr W1.heap.size (C1 2++[askA x.c]++C2 m++(T.take j).map (askR x.c m)) l))
    case atStart=>exact ⟨0,y,rfl,by omega,rfl,zd (by simpa using HOwn.out)⟩
    case round=>
     clear HOwn y
     obtain ⟨j,z,rfl,hgj,rfl,HOwn⟩:=hrel
     by_cases hj:j<T.length
     ·obtain ⟨t,ht⟩ : ∃ t,T[j]?=some t:=⟨_,zG hj⟩
      obtain ⟨g,off,rfl,hgl,hcell⟩:=HV.out (by omega)
      have hgl:=hgl (by omega)
      have qt:=cell_keep (str_cell hcell ht) HE1.out
      have HT:=zd ht
      have hgl1:g<W1.heap.size:=zU hgl HE1.out.size
      clear hcell hgl ht
      have hj':(j:Int)<(T.length:Int):=by omega
      have hzl:=z.ext.size
      have hml:(C1 2++[askA x.c]++C2 m++(T.take j).map (askR x.c m)).length≤6000:=by simp;omega
      go_wp2_with (at_builtin;refine wpList_app6 W1.heap.size 48 52 i0 _ 9 88 zu48 hi hz0 hz1 hz2 rfl (by decide) rfl _ _ rfl _ (C1 2++[askA x.c]++C2 m++(T.take j).map (askR x.c m)).length _ rfl (Own9.ext HOwn.out ((Ext.refl z.val).alloc _)) (zT z.ext.size ((Ext.refl z.val).alloc _).size) z.val.heap.size 1 1 _ (by omega) rfl (heap_new (by simp)) rfl (by simp [Value.oneCell']) (by unfold maxLen;omega) (by omega) ?_;intro v2 w3 hv2 hb2 _ _)
      go_roundg (gk - 1)
      case rel=>
       refine ⟨j+1,⟨w3,(z.ext.alloc _).trans' hb2⟩,rfl,by omega,rfl,zd ?_⟩
       rw [take_map _ HT.out,←List.append_assoc]
       exact own9_one hv2 rfl (by simp [Mv.cs,askR])
      case measure=>omega
     ·have hj':(T.length:Int)≤(j:Int):=by omega
      go_wp2_with fail
      go_roundg (1 - m)
      case rel=>
       refine ⟨m+1,z,rfl,by omega,rfl,zd ?_⟩
       have hO2:=HOwn.out
       rw [show j=T.length by omega,List.take_length] at hO2
       rw [←HC2.out,cand2_succ,HC2.out,←List.append_assoc]
       exact hO2
      case measure=>omega
  have hlt':(n:Int)<2:=by omega
  have hbc:W1.cell? ⟨w.heap.size,22+n,none⟩=some (.bool (x.bad (n:Int))):=by
   obtain rfl|rfl:n=0∨n=1:=by omega
   ·exact HQ1.out 22
   ·exact HQ1.out 23
  rcases hb:x.bad (n:Int)
  case true=>
   rw [hb] at hbc
   have HB:=zd hb
   clear hb
   go_wp2_with fail
   go_roundg (gk - 1)
   case rel=>exact ⟨n+1,y,rfl,by omega,rfl,zd (by rw [←HC1.out,cand1_succ,candP_no HB.out,List.append_nil,HC1.out];exact HOwn.out)⟩
   case measure=>omega
  rw [hb] at hbc
  have HB:=zd hb
  clear hb
  have hC1n:(C1 n).length≤2*(T.length+5):=zT (HC1L.out n) (Nat.mul_le_mul_right _ (by omega))
  go_wp2_with fail
  go_loopg [5,23] T.length (fun g l ii wr=>∃ (j:Nat) (z:ExtOf W1),ii = .int .i64 (j:Int)∧j+g=T.length∧wr=z.val∧Hid (Own9 wr W1.heap.size (C1 n++(T.take j).map (startM n)) l))
  case atStart=>exact ⟨0,y,rfl,by omega,rfl,zd (by simpa using HOwn.out)⟩
  case round=>
   clear HOwn y
   obtain ⟨j,z,rfl,hgj,rfl,HOwn⟩:=hrel
   by_cases hj:j<T.length
   ·obtain ⟨t,ht⟩ : ∃ t,T[j]?=some t:=⟨_,zG hj⟩
    obtain ⟨g,off,rfl,hgl,hcell⟩:=HV.out (by omega)
    have hgl:=hgl (by omega)
    have q0:=cell_keep (str_cell hcell ht) HE1.out
    have HT:=zd ht
    have hgl1:g<W1.heap.size:=zU hgl HE1.out.size
    clear hcell hgl ht
    have hj':(j:Int)<(T.length:Int):=by omega
    have hzl:=z.ext.size
    have hml:(C1 n++(T.take j).map (startM n)).length≤4000:=by simp;omega
    go_wp2_with (at_builtin;refine wpList_app6 W1.heap.size 48 52 i0 _ 9 88 zu48 hi hz0 hz1 hz2 rfl (by decide) rfl _ _ rfl _ (C1 n++(T.take j).map (startM n)).length _ rfl (Own9.ext HOwn.out ((Ext.refl z.val).alloc _)) (zT z.ext.size ((Ext.refl z.val).alloc _).size) z.val.heap.size 1 1 _ (by omega) rfl (heap_new (by simp)) rfl (by simp [Value.oneCell']) (by unfold maxLen;omega) (by omega) ?_;intro v2 w3 hv2 hb2 _ _)
    go_roundg (gk - 1)
    case rel=>
     refine ⟨j+1,⟨w3,(z.ext.alloc _).trans' hb2⟩,rfl,by omega,rfl,zd ?_⟩
     rw [take_map _ HT.out,←List.append_assoc]
     exact own9_one hv2 rfl (by simp [Mv.cs,startM,l0])
    case measure=>omega
   ·have hj':(T.length:Int)≤(j:Int):=by omega
    have hje:j=T.length:=by omega
    have hO2:=HOwn.out
    rw [hje,List.take_length] at hO2
    have HO2:=zd hO2
    clear hO2 HOwn hje
    go_wp2_with (first|((with_reducible refine wpList_load_rowG ?_ 33 (.tmp 2) ?_ w.heap.size ?_ 33 (x.arr v) (0,0) _ ?_ zu33 ?_ ?_ ?_);(·rfl);(·rfl);(·rfl);(·exact heap_ext HX1.out z.ext);(·rfl);(·exact info_ex))|(go_at_call 85;refine (mo_waited x v n _ (by omega)).mono ?_;rintro e w4 ⟨vr,rfl,hv,hx⟩;have hLn:=hLs (n:Int);generalize hlg:linesS evsS x (n:Int)=Ls at hv hLn;have HLG:=zd hlg;obtain ⟨va,vc,rfl,hm4,hra⟩:=row_at hv zR (fun g hg=>(own_rowB9 HO2.out g hg).2);have HRA:=zd hra;have HX4:=zd hx;unfold maxLen at hm4;clear hv hx hra hlg))
    have hO3:=Own9.ext HO2.out HX4.out
    have HO3:=zd hO3
    have hx4:=z.ext.trans HX4.out
    obtain ⟨y4,rfl⟩:=ext_of hx4
    clear hO3 HO2 hx4 HX4
    go_loopg [5,38] Ls.length (fun g l ii wr=>∃ (k:Nat) (y:ExtOf W1),ii = .int .i64 (k:Int)∧k+g=Ls.length∧wr=y.val∧Hid (Own9 wr W1.heap.size (C1 n++T.map (startM n)++(Ls.take k).map (takeM n)) l)∧Hid (RowAt wr 24 va (Ls.flatMap Lt.cs) l))
    case atStart=>exact ⟨0,y4,rfl,by omega,rfl,zd (by simpa using HO3.out),HRA⟩
    case round=>
     clear HO3 HRA y4 z
     obtain ⟨k,z,rfl,hgk,rfl,HOwn,HRA⟩:=hrel
     have hzl:=z.ext.size
     have hml:(C1 n++T.map (startM n)++(Ls.take k).map (takeM n)).length≤4000:=by simp;omega
     by_cases hk:k<Ls.length
     ·obtain ⟨ll,hll⟩ : ∃ t,Ls[k]?=some t:=⟨_,zG hk⟩
      obtain ⟨gb,cur,rfl,hob,hnb,hcu⟩:=HRA.out (flat_ne hll)
      have hgb:=zL hob
      obtain ⟨q0,q1,q2,q3,q4⟩:=lt_cells0 (fun j u hj=>(cell_of_row z.val gb j cur _ (0,0) hob).trans (hcu j u hj)) hll
      have HL:=zd hll
      clear hob hnb hcu hll
      have hk':(k:Int)<(Ls.length:Int):=by omega
      go_wp2_with (at_builtin;refine wpList_app6 W1.heap.size 48 52 i0 _ 9 88 zu48 hi hz0 hz1 hz2 rfl (by decide) rfl _ _ rfl _ (C1 n++T.map (startM n)++(Ls.take k).map (takeM n)).length _ rfl (Own9.ext HOwn.out (((Ext.refl z.val).alloc _).alloc _)) (zT z.ext.size (((Ext.refl z.val).alloc _).alloc _).size) (z.val.heap.size+1) 1 1 _ (by omega) rfl (heap_new (by simp)) rfl (by simp [Value.oneCell']) (by unfold maxLen;omega) (by omega) ?_;intro v2 w3 hv2 hb2 hgr hnw)
      go_roundg (gk - 1)
      case rel=>
       refine ⟨k+1,⟨w3,((z.ext.alloc _).alloc _).trans' hb2⟩,rfl,by omega,rfl,zd ?_,zd (RowAt.step HRA.out (((Ext.refl z.val).alloc _).alloc _) hgr hnw)⟩
       rw [take_map _ HL.out,←List.append_assoc]
       exact own9_one hv2 rfl (by simp [Mv.cs,takeM])
      case measure=>omega
     ·have hk':(Ls.length:Int)≤(k:Int):=by omega
      go_wp2_with (at_builtin;refine wpList_app6 W1.heap.size 48 52 i0 _ 9 88 zu48 hi hz0 hz1 hz2 rfl (by decide) rfl _ _ rfl _ (C1 n++T.map (startM n)++(Ls.take k).map (takeM n)).length _ rfl (Own9.ext HOwn.out ((Ext.refl z.val).alloc _)) (zT z.ext.size ((Ext.refl z.val).alloc _).size) z.val.heap.size 1 1 _ (by omega) rfl (heap_new (by simp)) rfl (by simp [Value.oneCell']) (by unfold maxLen;omega) (by omega) ?_;intro v2 w3 hv2 hb2 _ _)
      go_roundg (1 - n)
      case rel=>
       refine ⟨n+1,⟨w3,(z.ext.alloc _).trans' hb2⟩,rfl,by omega,rfl,zd ?_⟩
       rw [←HC1.out,cand1_succ,candP_yes HB.out,HLG.out,HC1.out]
       have hke:k=Ls.length:=by omega
       rw [hke,List.take_length] at hv2
       have hv3:=own9_one (z:=tickM n) hv2 rfl (by simp [Mv.cs,tickM,l0])
       simpa [List.append_assoc] using hv3
      case measure=>omega
end Go.Proofs.YtlnmhocehgmbbaaGreatDoor

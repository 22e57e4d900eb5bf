/- No condition. -/
import Derived.Test.YtlnmhocehgmbbaaGreatDoorWY19
set_option linter.all false
namespace Go.Proofs.YtlnmhocehgmbbaaGreatDoor
open Go.RowKit
theorem getM_putK (S:List (Ky×Value)) (x y:Ky) (v:Value):getM (putM S x v) y=if y=x then some v else getM S y:=by
 unfold putM
 cases hi:S.findIdx? (fun p=>decide (p.1=x)) with
 | none=>
  have h1:=List.findIdx?_eq_none_iff.1 hi
  unfold getM
  rw [List.find?_append]
  by_cases h:y=x
  ·subst h
   rw [if_pos rfl,List.find?_eq_none.2 (fun p hp=>by simpa using h1 p hp)]
   simp
  ·rw [if_neg h]
   cases hf:S.find? (fun p=>decide (p.1=y)) with
   | some q=>simp
   | none=>simp [Ne.symm h]
 | some j=>
  obtain ⟨hj,hp,hb⟩:=List.findIdx?_eq_some_iff_getElem.1 hi
  have hx:S[j].1=x:=by simpa using hp
  unfold getM
  simp only
  clear hi
  induction S generalizing j with
  | nil=>simp at hj
  | cons a S ih=>
   cases j with
   | zero=>
    simp only [List.set_cons_zero,List.find?_cons]
    simp only [List.getElem_cons_zero] at hx
    by_cases h:y=x
    ·subst h;simp
    ·rw [if_neg h,decide_eq_false (Ne.symm h),decide_eq_false (by rw [hx];exact Ne.symm h)]
   | succ j=>
    simp only [List.set_cons_succ,List.find?_cons]
    have ha:a.1≠x:=by
     have:=hb 0 (by omega)
     simpa using this
    by_cases h:a.1=y
    ·rw [decide_eq_true h,if_neg (by rw [←h];exact ha)]
    ·rw [decide_eq_false h]
     exact ih j (by simpa using hj) (by simpa using hp) (fun i hi=>by simpa using hb (i+1) (by omega)) (by simpa using hx)
def OwnI (w:World) (B:Nat) (I:List Nat) (v:Value):Prop:=w.ownsRow B 3 1 v I.length (intsC I)
theorem OwnI.ext {w w':World} {B:Nat} {I:List Nat} {v:Value} (h:OwnI w B I v) (e:Ext w w'):OwnI w' B I v:=own_ext h e
theorem row_tag {w:World} {B:Nat} {e:TypeId} {size n:Nat} {v:Value} {xs:List Value} (h:w.ownsRow B e size v n xs) {b:Nat} (hb:b∈rowB v) : ∃ cur,w.heap[b]?=some (.cells cur e (0,0)):=by
 rcases h.2 with ⟨hv,_⟩|⟨g,cap,cur,hv,_,hg,_⟩
 ·subst hv;simp [rowB,Value.ownBlock] at hb
 ·subst hv
  simp only [rowB,Value.ownBlock,List.mem_singleton] at hb
  subst hb
  exact ⟨cur,hg⟩
theorem tag_ne {w:World} {B:Nat} {e:TypeId} {size n:Nat} {v:Value} {xs:List Value} (h:w.ownsRow B e size v n xs) {b:Nat} {cs:Array Value} {t:TypeId} {fr:Nat×Nat} (hb:w.heap[b]?=some (.cells cs t fr)) (hne:t≠e):b∉rowB v:=fun hm=>by
 obtain ⟨cur,hc⟩:=row_tag h hm
 rw [hc] at hb
 cases hb
 exact hne rfl
structure GoAt (wS:World) (gl gm gr:Nat) (r:Rg) (tv:Value) (L:List (Fd×Value)) (lv:Value) (S:List (Ky×Value)) (N:Ky→List Nat) (w:World):Prop where
 ext:Ext wS w
 low:wS.heap.size≤gl∧wS.heap.size≤gm
 rg:RgAt w gr r tv
 lc:w.heap[gl]?=some (.cells #[lv] 83 (0,0))
 lr:FRow w wS.heap.size L lv
 mp:MapH kyV gm S w
 hh : ∀ p∈L,FH w p
 im : ∀ k,match getM S k with|some v=>OwnI w wS.heap.size (N k) v|none=>N k=[]
 dj : ∀ k k' v v',k≠k'→getM S k=some v→getM S k'=some v'→∀ g∈rowB v,g∉rowB v'
 lw : ∀ p∈L,∀ g∈rowB p.2,wS.heap.size≤g
section
variable {wS:World} {gl gm gr:Nat} {r:Rg} {tv:Value} {L:List (Fd×Value)} {lv:Value} {S:List (Ky×Value)} {N:Ky→List Nat} {w w':World}
theorem GoAt.ext' (h:GoAt wS gl gm gr r tv L lv S N w) (e:Ext w w'):GoAt wS gl gm gr r tv L lv S N w' where
 ext:=h.ext.trans e
 low:=h.low
 rg:=h.rg.ext e
 lc:=heap_ext h.lc e
 lr:=h.lr.ext e
 mp:=h.mp.same (e.block _ h.mp.lt)
 hh:=fun p hp=>(h.hh p hp).imp fun _ o=>own_ext o e
 im:=fun k=>by
  have:=h.im k
  cases hk:getM S k with
  | none=>rw [hk] at this;exact this
  | some v=>rw [hk] at this;exact OwnI.ext this e
 dj:=h.dj
 lw:=h.lw
theorem GoAt.nmap (h:GoAt wS gl gm gr r tv L lv S N w) {b:Nat} {cs:Array Value} {t:TypeId} {fr:Nat×Nat} (hb:w.heap[b]?=some (.cells cs t fr)):b≠gm:=fun e=>by
 obtain ⟨es,clock,hm⟩:=h.mp.obj
 rw [e,hm] at hb
 cases hb
theorem GoAt.put (h:GoAt wS gl gm gr r tv L lv S N w) {k0:Ky} {n:Nat} {v3:Value} {ob':Obj} {w2 w3:World} (k2:Keeps [gm] w w2) (o3:w3.ownsRow wS.heap.size 3 1 v3 ((N k0).length+1) (intsC (N k0++[n]))) (g3:w2.grownBy w3 ((getM S k0).getD (.slice none 0 0)).ownBlock)
 (nw : ∀ g∈rowB v3,g∈rowB ((getM S k0).getD (.slice none 0 0))∨w2.heap.size≤g) (m4:MapH kyV gm (putM S k0 v3) (setB w3 gm ob')) :
 GoAt wS gl gm gr r tv L lv (putM S k0 v3) (fun k=>if k=k0 then N k++[n] else N k) (setB w3 gm ob'):=by
 have hv0:((getM S k0).getD (.slice none 0 0) = .slice none 0 0)∨(getM S k0=some ((getM S k0).getD (.slice none 0 0))∧OwnI w wS.heap.size (N k0) ((getM S k0).getD (.slice none 0 0))):=by
  have:=h.im k0
  cases hk:getM S k0 with
  | none=>exact .inl rfl
  | some v=>rw [hk] at this;exact .inr ⟨rfl,this⟩
 generalize (getM S k0).getD (.slice none 0 0)=v0 at g3 nw hv0
 have same : ∀ b,b<w.heap.size→b≠gm→b∉rowB v0→(setB w3 gm ob').heap[b]?=w.heap[b]?:=fun b hb h1 h2=>by
  rw [setB_other h1,g3.block b (zU hb k2.size) (fun he=>h2 (by unfold rowB;rw [←he];exact .head _))]
  exact k2.block b hb (by simpa using h1)
 have tag : ∀ {b:Nat} {cs:Array Value} {t:TypeId} {fr:Nat×Nat},w.heap[b]?=some (.cells cs t fr)→t≠3→(setB w3 gm ob').heap[b]?=some (.cells cs t fr):=fun hb ht=>by
  rw [same _ (zL hb) (h.nmap hb) ?_]
  ·exact hb
  ·rcases hv0 with e|⟨_,ho⟩
   ·rw [e];simp [rowB,Value.ownBlock]
   ·exact tag_ne ho hb ht
 have row : ∀ {B:Nat} {e:TypeId} {size n:Nat} {v:Value} {xs:List Value},w.ownsRow B e size v n xs→e≠3→(setB w3 gm ob').ownsRow B e size v n xs:=fun ho he=>own_at ho fun b hb=>by
  obtain ⟨cur,hc⟩:=row_tag ho hb
  rw [hc]
  exact tag hc he
 have hgm : ∀ {B:Nat} {e:TypeId} {size n:Nat} {v:Value} {xs:List Value},w.ownsRow B e size v n xs→gm∉rowB v:=fun ho hb=>by
  obtain ⟨cur,hc⟩:=row_tag ho hb
  exact h.nmap hc rfl
 have hgm0:gm∉rowB v0:=by
  rcases hv0 with e|⟨_,ho⟩
  ·rw [e];simp [rowB,Value.ownBlock]
  ·exact hgm ho
 have hgm3:gm∉rowB v3:=fun hm=>by
  rcases nw gm hm with h1|h1
  ·exact hgm0 h1
  ·have:=h.mp.lt
   have:=k2.size
   omega
 refine ⟨?_,h.low,tag h.rg (by decide),tag h.lc (by decide),row h.lr (by decide),m4,fun p hp=>(h.hh p hp).imp fun _ o=>row o (by decide),fun k=>?_,fun k k' v v' hkk hk hk'=>?_,h.lw⟩
 ·have hs:=h.ext.size
  refine ⟨g3.os.trans (k2.os.trans h.ext.os),g3.tape.trans (k2.tape.trans h.ext.tape),g3.output.trans (k2.output.trans h.ext.output),?_,fun b hb=>?_⟩
  ·have:=k2.size
   have:=g3.size
   simp only [setB,Array.size_setIfInBounds]
   omega
  ·rw [same b (by omega) (by have:=h.low.2;omega) ?_]
   ·exact h.ext.block b hb
   ·rcases hv0 with e|⟨_,ho⟩
    ·rw [e];simp [rowB,Value.ownBlock]
    ·intro hm
     have:=(own_rowB9 ho b hm).1
     omega
 ·rw [getM_putK]
  by_cases hk:k=k0
  ·subst hk
   rw [if_pos rfl,if_pos rfl]
   show (setB w3 gm ob').ownsRow _ _ 1 v3 (N k++[n]).length _
   rw [List.length_append]
   exact own_at o3 fun b hb=>setB_other fun e=>hgm3 (e ▸ hb)
  ·rw [if_neg hk,if_neg hk]
   have hi:=h.im k
   cases hg:getM S k with
   | none=>rw [hg] at hi;exact hi
   | some v=>
    rw [hg] at hi
    refine own_at hi fun b hb=>same b (own_rowB9 hi b hb).2 (fun e=>hgm hi (e ▸ hb)) ?_
    rcases hv0 with e|⟨e,_⟩
    ·rw [e];simp [rowB,Value.ownBlock]
    ·exact h.dj k k0 v v0 hk hg e b hb
 ·rw [getM_putK] at hk hk'
  have key : ∀ k v,k≠k0→getM S k=some v→∀ g∈rowB v,g∉rowB v3:=fun k v hk hg g hgv hg3=>by
   have hi:=h.im k
   rw [hg] at hi
   rcases nw g hg3 with h1|h1
   ·rcases hv0 with e|⟨e,_⟩
    ·rw [e] at h1;simp [rowB,Value.ownBlock] at h1
    ·exact h.dj k k0 v v0 hk hg e g hgv h1
   ·have:=(own_rowB9 hi g hgv).2
    have:=k2.size
    omega
  by_cases h1:k=k0
  ·rw [if_pos h1] at hk
   cases hk
   rw [if_neg (fun e=>hkk (h1.trans e.symm))] at hk'
   intro g hg3 hgv
   exact key k' v' (fun e=>hkk (h1.trans e.symm)) hk' g hgv hg3
  ·rw [if_neg h1] at hk
   by_cases h2:k'=k0
   ·rw [if_pos h2] at hk'
    cases hk'
    exact key k v h1 hk
   ·rw [if_neg h2] at hk'
    exact h.dj k k' v v' hkk hk hk'
theorem GoAt.add (h:GoAt wS gl gm gr r tv L lv S N w) {p:Fd×Value} {lv':Value} {N':Ky→List Nat} {w3:World} (o3:FRow w3 wS.heap.size (L++[p]) lv') (g3:w.grownBy w3 lv.ownBlock) (nw : ∀ g∈rowB lv',g∈rowB lv∨w.heap.size≤g)
 (hp:FH w p) (hlp : ∀ g∈rowB p.2,wS.heap.size≤g) (hN:N'=N):GoAt wS gl gm gr r tv (L++[p]) lv' S N' (w3.setCell ⟨gl,0,none⟩ lv'):=by
 subst hN
 have hgl:gl∉rowB lv:=tag_ne h.lr h.lc (by decide)
 have lgl:=zL h.lc
 have same : ∀ b,b<w.heap.size→b≠gl→b∉rowB lv→(w3.setCell ⟨gl,0,none⟩ lv').heap[b]?=w.heap[b]?:=fun b hb h1 h2=>by
  rw [cell_other h1,g3.block b hb (fun he=>h2 (by unfold rowB;rw [←he];exact .head _))]
 have tag : ∀ {b:Nat} {cs:Array Value} {t:TypeId} {fr:Nat×Nat},w.heap[b]?=some (.cells cs t fr)→t≠88→b≠gl→(w3.setCell ⟨gl,0,none⟩ lv').heap[b]?=some (.cells cs t fr):=fun hb ht hg=>by
  rw [same _ (zL hb) hg (tag_ne h.lr hb ht)]
  exact hb
 have row : ∀ {B:Nat} {e:TypeId} {size n:Nat} {v:Value} {xs:List Value},w.ownsRow B e size v n xs→e≠88→e≠83→(w3.setCell ⟨gl,0,none⟩ lv').ownsRow B e size v n xs:=fun ho he he2=>own_at ho fun b hb=>by
  obtain ⟨cur,hc⟩:=row_tag ho hb
  rw [hc]
  refine tag hc he fun e1=>?_
  rw [e1,h.lc] at hc
  cases hc
  exact he2 rfl
 have hgl3:gl∉rowB lv':=fun hm=>by
  rcases nw gl hm with h1|h1
  ·exact hgl h1
  ·omega
 have hgm:gm∉rowB lv:=fun hb=>by
  obtain ⟨cur,hc⟩:=row_tag h.lr hb
  exact h.nmap hc rfl
 have hgr:gr≠gl:=fun e=>by
  have:=h.rg
  unfold RgAt at this
  rw [e,h.lc] at this
  simp only [Option.some.injEq,Obj.cells.injEq] at this
  exact absurd this.2.1 (by decide)
 refine ⟨?_,h.low,tag h.rg (by decide) hgr,?_,own_at o3 fun b hb=>cell_other fun e=>hgl3 (e ▸ hb),h.mp.same (same gm h.mp.lt (h.nmap h.lc).symm hgm),?_,fun k=>?_,h.dj,fun q hq=>(List.mem_append.1 hq).elim (h.lw q) fun hq=>by rw [List.mem_singleton.1 hq];exact hlp⟩
 ·have hs:=h.ext.size
  refine ⟨g3.os.trans h.ext.os,g3.tape.trans h.ext.tape,g3.output.trans h.ext.output,?_,fun b hb=>?_⟩
  ·have:=g3.size
   simp only [World.setCell,Array.size_modify]
   omega
  ·rw [same b (by omega) (by have:=h.low.1;omega) fun hm=>by have:=(own_rowB9 h.lr b hm).1;omega]
   exact h.ext.block b hb
 ·have h1:=kept_grown h.lc g3 hgl
  have:=heap_setCell_same _ _ 0 _ _ lv' h1
  exact this
 ·intro q hq
  rcases List.mem_append.1 hq with hq|hq
  ·exact (h.hh q hq).imp fun _ o=>row o (by decide) (by decide)
  ·rw [List.mem_singleton.1 hq]
   exact hp.imp fun _ o=>row o (by decide) (by decide)
 ·have hi:=h.im k
  cases hg:getM S k with
  | none=>rw [hg] at hi;exact hi
  | some v=>
   rw [hg] at hi
   exact row hi (by decide) (by decide)
end
section
variable {P:Program} {ops:Array Oper} {Q:Exit→Act→World→Prop} {rest:List Oper} {o:Oper} {a:Act} {w w':World}
theorem wpList_val (hgd:o.guard=none) {v:Value} (hr:(execOp a.eval o).run P w = .ok (.value v) w') (h:wpList P ops Q rest (a.put o.dst v) w'):wpList P ops Q (o::rest) a w:=by
 refine wpList_plain hgd fun K hK=>?_
 unfold Oper.wp
 rw [hr]
 exact hK _ _ h
theorem wpList_unit (hgd:o.guard=none) (hr:(execOp a.eval o).run P w = .ok .skip w') (h:wpList P ops Q rest (a.put o.dst undef) w'):wpList P ops Q (o::rest) a w:=by
 refine wpList_plain hgd fun K hK=>?_
 unfold Oper.wp
 rw [hr]
 exact hK _ _ h
theorem wpList_ins (hgd:o.guard=none) (T:TypeId) (m k x:Operand) (ho:o.op = .insert T m k x) (mv kv v:Value) (hm:a.eval m=mv) (hk:a.eval k=kv) (hx:a.eval x=v)
 (hr:(Instr.mapUpdate T mv kv v).run P w = .ok () w') (h:wpList P ops Q rest (a.put o.dst undef) w'):wpList P ops Q (o::rest) a w:=by
 refine wpList_unit hgd ?_ h
 unfold execOp
 simp only [ho,hm,hk,hx,Sem.run_bind,hr,Result.andThen_ok,Sem.run_pure]
theorem wpList_look (hgd:o.guard=none) (T:TypeId) (m k:Operand) (ok:Bool) (ho:o.op = .lookup T m k ok) (mv kv v:Value) (hm:a.eval m=mv) (hk:a.eval k=kv)
 (hr:(Instr.lookup T mv kv ok).run P w = .ok v w') (h:wpList P ops Q rest (a.put o.dst v) w'):wpList P ops Q (o::rest) a w:=by
 refine wpList_val hgd ?_ h
 unfold execOp
 simp only [ho,hm,hk,Sem.run_bind,hr,Result.andThen_ok,Sem.run_pure]
theorem wpList_ment (hgd:o.guard=none) (T:TypeId) (m k:Operand) (ho:o.op = .mapEntry T m k) (mv kv v:Value) (hm:a.eval m=mv) (hk:a.eval k=kv)
 (hr:(Instr.mapEntry T mv kv).run P w = .ok v w') (h:wpList P ops Q rest (a.put o.dst v) w'):wpList P ops Q (o::rest) a w:=by
 refine wpList_val hgd ?_ h
 unfold execOp
 simp only [ho,hm,hk,Sem.run_bind,hr,Result.andThen_ok,Sem.run_pure]
theorem wpList_esto (hgd:o.guard=none) (T:TypeId) (m s x:Operand) (ho:o.op = .entryStore T m s x) (mv sv v:Value) (hm:a.eval m=mv) (hs:a.eval s=sv) (hx:a.eval x=v)
 (hr:(Instr.entryStore T mv sv v).run P w = .ok () w') (h:wpList P ops Q rest (a.put o.dst undef) w'):wpList P ops Q (o::rest) a w:=by
 refine wpList_unit hgd ?_ h
 unfold execOp
 simp only [ho,hm,hs,hx,Sem.run_bind,hr,Result.andThen_ok,Sem.run_pure]
end
theorem ext_setB {a w:World} {b:Nat} {ob:Obj} (h:Ext a w) (hb:a.heap.size≤b):Ext a (setB w b ob):=
 ⟨h.os,h.tape,h.output,by simpa [setB] using h.size,fun k hk=>(setB_other (by omega)).trans (h.block k hk)⟩
section
variable {wS:World} {gl gm gr:Nat} {r:Rg} {tv:Value} {L:List (Fd×Value)} {lv:Value} {S:List (Ky×Value)} {N:Ky→List Nat} {w w':World}
theorem GoAt.put_tag (h:GoAt wS gl gm gr r tv L lv S N w) {k0:Ky} {ob':Obj} {w2 w3:World} (k2:Keeps [gm] w w2) (g3:w2.grownBy w3 ((getM S k0).getD (.slice none 0 0)).ownBlock)
 {b:Nat} {cs:Array Value} {t:TypeId} {fr:Nat×Nat} (hb:w.heap[b]?=some (.cells cs t fr)) (ht:t≠3):(setB w3 gm ob').heap[b]?=some (.cells cs t fr):=by
 have hn:b∉rowB ((getM S k0).getD (.slice none 0 0)):=by
  have:=h.im k0
  cases hk:getM S k0 with
  | none=>simp [rowB,Value.ownBlock]
  | some v=>rw [hk] at this;exact tag_ne this hb ht
 have hl:=zL hb
 rw [setB_other (h.nmap hb),g3.block b (zU hl k2.size) (fun he=>hn (by unfold rowB;rw [←he];exact .head _)),k2.block b hl (by simpa using h.nmap hb)]
 exact hb
theorem GoAt.put_row (h:GoAt wS gl gm gr r tv L lv S N w) {k0:Ky} {ob':Obj} {w2 w3:World} (k2:Keeps [gm] w w2) (g3:w2.grownBy w3 ((getM S k0).getD (.slice none 0 0)).ownBlock)
 {B:Nat} {e:TypeId} {size n:Nat} {v:Value} {xs:List Value} (ho:w.ownsRow B e size v n xs) (he:e≠3):(setB w3 gm ob').ownsRow B e size v n xs:=own_at ho fun b hb=>by
 obtain ⟨cur,hc⟩:=row_tag ho hb
 rw [hc]
 exact h.put_tag k2 g3 hc he
theorem GoAt.add_tag (h:GoAt wS gl gm gr r tv L lv S N w) {lv':Value} {w3:World} (g3:w.grownBy w3 lv.ownBlock)
 {b:Nat} {cs:Array Value} {t:TypeId} {fr:Nat×Nat} (hb:w.heap[b]?=some (.cells cs t fr)) (ht:t≠88) (hg:b≠gl):(w3.setCell ⟨gl,0,none⟩ lv').heap[b]?=some (.cells cs t fr):=by
 rw [cell_other hg]
 exact kept_grown hb g3 (tag_ne h.lr hb ht)
theorem GoAt.add_row (h:GoAt wS gl gm gr r tv L lv S N w) {lv':Value} {w3:World} (g3:w.grownBy w3 lv.ownBlock)
 {B:Nat} {e:TypeId} {size n:Nat} {v:Value} {xs:List Value} (ho:w.ownsRow B e size v n xs) (he:e≠88) (he2:e≠83):(w3.setCell ⟨gl,0,none⟩ lv').ownsRow B e size v n xs:=own_at ho fun b hb=>by
 obtain ⟨cur,hc⟩:=row_tag ho hb
 rw [hc]
 refine h.add_tag g3 hc he fun e1=>?_
 rw [e1,h.lc] at hc
 cases hc
 exact he2 rfl
theorem GoAt.start {p:Fd×Value} {gb gi:Nat} (hE:Ext wS w) (low:wS.heap.size≤gl∧wS.heap.size≤gm) (rg:RgAt w gr r tv) (lc:w.heap[gl]?=some (.cells #[.slice (some ⟨gb,0,none⟩) 1 1] 83 (0,0)))
 (hb:w.heap[gb]?=some (.cells (fvC p).toArray 88 (0,0))) (hgb:wS.heap.size≤gb) (mp:MapH kyV gm [(keyK p.1.x,.slice (some ⟨gi,0,none⟩) 1 1)] w) (hi:w.heap[gi]?=some (.cells #[.int .i64 0] 3 (0,0))) (hgi:wS.heap.size≤gi)
 (hh:FH w p) (hlp : ∀ g∈rowB p.2,wS.heap.size≤g):GoAt wS gl gm gr r tv [p] (.slice (some ⟨gb,0,none⟩) 1 1) [(keyK p.1.x,.slice (some ⟨gi,0,none⟩) 1 1)] (numsK [p]) w where
 ext:=hE
 low:=low
 rg:=rg
 lc:=lc
 lr:=⟨by simp [fvC_len],.inr ⟨gb,1,_,rfl,hgb,hb,Nat.le_refl _,by decide,by simp [fvC_len],by
  rw [List.take_of_length_le (by simp [fvC_len])]
  simp⟩⟩
 mp:=mp
 hh:=fun q hq=>by rw [List.mem_singleton.1 hq];exact hh
 im:=fun k=>by
  unfold getM
  by_cases hk:keyK p.1.x=k
  ·have hN:numsK [p] k=[0]:=by simp [numsK,hk,List.range_succ]
   simp only [List.find?_cons,decide_eq_true hk,Option.map_some]
   rw [hN]
   exact ⟨rfl,.inr ⟨gi,1,_,rfl,hgi,hi,Nat.le_refl _,by decide,rfl,rfl⟩⟩
  ·have hN:numsK [p] k=[]:=by simp [numsK,hk,List.range_succ]
   simp only [List.find?_cons,decide_eq_false hk,List.find?_nil,Option.map_none]
   exact hN
 dj:=fun k k' v v' hne hk hk'=>by
  unfold getM at hk hk'
  by_cases h1:keyK p.1.x=k
  ·have h2 : ¬keyK p.1.x=k':=fun e=>hne (h1.symm.trans e)
   simp [h2] at hk'
  ·simp [h1] at hk
 lw:=fun q hq=>by rw [List.mem_singleton.1 hq];exact hlp
end
theorem zero_ints (w:World):(zeroValue 95).run Tryz.prog w = .ok (.slice none 0 0) w:=by kernel_rfl
theorem ex_never (x:Ex) (v:Value) (w:World):Calls Tryz.prog 29 #[.agg (x.arr v)] w fun e w'=>e = .returned (.bool false)∧Ext w w':=by
 go_enter Tryz.func29,Tryz.ntmps29
 go_wp2_with fail
 go_ret
 exact ⟨rfl,zR.alloc _⟩
end Go.Proofs.YtlnmhocehgmbbaaGreatDoor

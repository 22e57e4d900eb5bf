/- No condition. -/
import Derived.Test.YtlnmhocehgmbbaaGreatDoorWY1
import Derived.Deep.Light
set_option linter.all false
set_option maxHeartbeats 400000
namespace Go.Proofs.YtlnmhocehgmbbaaGreatDoor
open Go.RowKit
theorem wpOp_of_list {P:Program} {ops:Array Oper} {C:World→Prop} {K:Act→World→Prop} {Q:Exit→Act→World→Prop} {i:Nat} {o:Oper} {a:Act} {w:World} (ho:ops[i]?=some o)
 (h:wpList P ops (Exit.then (fun a' w'=>C w'∧K a' w') (Quiets Q)) [o] a w):wpOp P ops (Quiets Q) i (fun a' w'=>C w'∧K a' w') a w:=by
 simp only [wpList] at h
 unfold wpOp
 simp only [ho]
 by_cases hwd:Region.wanted o (yielded ops a.tmps)=true
 ·rw [if_pos hwd] at h ⊢
  rcases h with h|h
  ·refine .inl ?_
   unfold Oper.wp at *
   generalize (execOp a.eval o).run P w=r at *
   cases r with
   | ok n w2=>
    cases n<;>simp only [Oper.upon] at h ⊢
    case value u=>exact h
    case skip=>exact h
    case defer d=>exact h
    case enter f args=>
     exact Calls.mono h fun e w'' he=>by
      cases e with
      | returned u=>exact he
      | panicked c=>exact he
      | outgrown=>exact he
    case row row args=>exact h
   | halt x w2=>
    cases x<;>simp only [Oper.upon] at h ⊢
    case panic u=>exact h
  ·exact .inr ⟨h.1,h.2⟩
 ·rw [if_neg hwd] at h ⊢
  exact h
section
variable {P:Program} {md:Region.Mode} {ops:Array Oper}
theorem wpOp_ahead {Q:Exit→Act→World→Prop} {j:Nat} {oi oj:Oper} {v:Value} (hj:ops[j]?=some oj) (hap:oi.apart ops oj=true)
 (hsj : ∀ cs b,oj.op≠.select cs b) {K:Act→World→Prop} {a:Act} {w:World} (h:wpOp P ops (Quiets Q) j K a w) :
 wpOp P ops (Quiets Q) j (fun a' w'=>∃ a0,a'=a0.put oi.dst v∧K a0 w') (a.put oi.dst v) w:=by
 obtain ⟨h1,h2,h3⟩:=Oper.apart_spec hap
 have comm : ∀ (a:Act) u,(a.put oi.dst v).put oj.dst u=(a.put oj.dst u).put oi.dst v:=fun a u=>Act.put_comm a v u h2
 unfold wpOp at *
 simp only [hj] at *
 rw [wanted_put oj a oi.dst v h1]
 by_cases hw:Region.wanted oj (yielded ops a.tmps)=true
 ·rw [if_pos hw] at h ⊢
  have he:=execOp_put oj hsj a oi.dst v h1
  rcases h with h|h
  ·refine .inl ?_
   unfold Oper.wp at *
   rw [he]
   generalize (execOp a.eval oj).run P w=r at *
   cases r with
   | ok n w'=>
    cases n<;>simp only [Oper.upon] at h ⊢
    case value u=>exact ⟨_,comm a u,h⟩
    case skip=>exact ⟨_,comm a _,h⟩
    case defer d=>
     refine ⟨_,?_,h⟩
     rw [Act.put_defers]
     exact comm _ _
    case enter f args=>
     refine Calls.mono h fun e w'' he=>?_
     cases e with
     | returned u=>exact ⟨_,comm a u,he⟩
     | panicked c=>exact (he:False).elim
     | outgrown=>exact he
    case row row args=>exact Rows.mono h fun u w'' he=>⟨_,comm a u,he⟩
   | halt x w'=>
    cases x<;>simp only [Oper.upon] at h ⊢
    case panic u=>exact (h:False).elim
  ·refine .inr ⟨?_,h.2⟩
   have h4:=h.1
   unfold Oper.asks at *
   rwa [he]
 ·rw [if_neg hw] at h ⊢
  exact ⟨_,comm a _,h⟩
structure Stp where
 q:Bool
 k:Nat
 o:Oper
def wpPre (P:Program) (ops:Array Oper) (C:World→Prop) (B:Nat) (z:Array Value) (t:TypeId) (d:Option Tmp) (K:Act→World→Prop) (Q:Exit→Act→World→Prop):List Stp→Act→World→Prop
 | [],a,w=>∀ (x:ExtOf w) (g:Nat),B≤g→x.val.heap[g]?=some (.cells z t (0,0))→K (a.put d (.pointer (some ⟨g,0,none⟩))) x.val
 | s::l,a,w=>if s.q then ∃ v,YieldsE P ops C s.o v a∧wpPre P ops C B z t d K Q l (a.put s.o.dst v) w
  else ∀ x:ExtOf w,wpList P ops (Exit.then (fun a' w''=>Ext x.val w''∧wpPre P ops C B z t d K Q l a' w'') (Quiets Q)) [s.o] a x.val
def wpPost (P:Program) (ops:Array Oper) (C:World→Prop) (Q:Exit→Act→World→Prop):List Stp→Act→World→Prop
 | [],a,w=>∀ x:ExtOf w,Q .normal a x.val
 | s::l,a,w=>if s.q then ∃ v,YieldsE P ops C s.o v a∧wpPost P ops C Q l (a.put s.o.dst v) w
  else ∀ x:ExtOf w,wpList P ops (Exit.then (fun a' w''=>C w''∧wpPost P ops C Q l a' w'') (Quiets Q)) [s.o] a x.val
theorem wpPre_up {C:World→Prop} {B:Nat} {z:Array Value} {t:TypeId} {d:Option Tmp} {K:Act→World→Prop} {Q:Exit→Act→World→Prop} : ∀ {l:List Stp} {a:Act} {w w':World},wpPre P ops C B z t d K Q l a w→Ext w w'→wpPre P ops C B z t d K Q l a w'
 | [],_,_,_,h,e=>fun x=>h ⟨x.val,e.trans x.ext⟩
 | s::l,a,w,w',h,e=>by
  unfold wpPre at *
  split at h
  ·rename_i hq
   rw [if_pos hq]
   obtain ⟨v,hy,hn⟩:=h
   exact ⟨v,hy,wpPre_up hn e⟩
  ·rename_i hq
   rw [if_neg hq]
   exact fun x=>h ⟨x.val,e.trans x.ext⟩
def floatB (md:Region.Mode) (ops:Array Oper) (i:Nat) (oi:Oper):List Stp→Array Bool→Bool
 | [],l=>decide (Region.ready md ops l=[i])
 | s::pre,l=>
  (if s.q then (Region.ready md ops l).contains s.k && Region.free md ops l s.k && (Region.ready md ops (l.setIfInBounds i true)).contains s.k && Region.free md ops (l.setIfInBounds i true) s.k
   else (Region.ready md ops l).all (fun j=>j == s.k || j == i) && decide (s.k∈Region.ready md ops l) && decide (Region.ready md ops (l.setIfInBounds i true)=[s.k])) &&
  decide (s.k≠i) && oi.apart ops s.o && floatB md ops i oi pre (l.setIfInBounds s.k true)
def listAll:List Stp→Array Bool→Array Bool
 | [],l=>l
 | s::pre,l=>listAll pre (l.setIfInBounds s.k true)
variable {C:World→Prop} {Q:Exit→Act→World→Prop} {i:Nat} {oi:Oper} {B:Nat} {z:Array Value} {t:TypeId} {K:Act→World→Prop} {nf:Nat}
theorem float_done (hCE : ∀ w w',C w→Ext w w'→C w') (hsel : ∀ (j:Nat) (o:Oper) cs b,ops[j]?=some o→o.op≠.select cs b) :
 ∀ (pre:List Stp) (l:Array Bool) (a:Act) (w:World) (g:Nat),(∀ p∈pre,ops[p.k]?=some p.o)→floatB md ops i oi pre l=true→
  (∀ a w,C w→K a w→wpAnyE P md ops C Q nf ((listAll pre l).setIfInBounds i true) a w)→
  wpPre P ops C B z t oi.dst K Q pre a w→C w→B≤g→w.heap[g]?=some (.cells z t (0,0))→
  wpAnyE P md ops C Q (pre.length+nf) (l.setIfInBounds i true) (a.put oi.dst (.pointer (some ⟨g,0,none⟩))) w
 | [],l,a,w,g,_,_,hK,h,hC,hg,hz=>by
  rw [List.length_nil,Nat.zero_add]
  exact hK _ _ hC (h ⟨w,Ext.refl w⟩ g hg hz)
 | ⟨true,k,o⟩::pre,l,a,w,g,hv,hB,hK,h,hC,hg,hz=>by
  simp only [floatB,if_true,Bool.and_eq_true,decide_eq_true_eq] at hB
  obtain ⟨⟨⟨⟨⟨⟨_,_⟩,hr⟩,hf⟩,hne⟩,hap⟩,hB'⟩:=hB
  have ho:ops[k]?=some o:=hv ⟨true,k,o⟩ (by simp)
  obtain ⟨h1,h2,h3⟩:=Oper.apart_spec hap
  simp only [wpPre,if_true] at h
  obtain ⟨v,hy,hn⟩:=h
  rw [List.length_cons,show pre.length+1+nf=(pre.length+nf)+1 by omega]
  have hy':YieldsE P ops C o v (a.put oi.dst (.pointer (some ⟨g,0,none⟩))):=hy.of_same (execOp_put o (fun cs b=>hsel k o cs b ho) a oi.dst _ h1) (wanted_put o a oi.dst _ h1)
  refine wpAnyE_first hCE ho hsel _ _ _ w (Region.free_spec ho hf) (by simpa using hr) hy' hC ?_
  rw [Array.setIfInBounds_comm _ _ (Ne.symm hne),Act.put_comm a _ v h2]
  exact float_done hCE hsel pre (l.setIfInBounds k true) _ w g (fun p hp=>hv p (List.mem_cons_of_mem _ hp)) hB' hK hn hC hg hz
 | ⟨false,k,o⟩::pre,l,a,w,g,hv,hB,hK,h,hC,hg,hz=>by
  simp only [floatB,Bool.false_eq_true,if_false,Bool.and_eq_true,decide_eq_true_eq] at hB
  obtain ⟨⟨⟨⟨⟨_,_⟩,hr⟩,hne⟩,hap⟩,hB'⟩:=hB
  have ho:ops[k]?=some o:=hv ⟨false,k,o⟩ (by simp)
  simp only [wpPre,Bool.false_eq_true,if_false] at h
  rw [List.length_cons,show pre.length+1+nf=(pre.length+nf)+1 by omega]
  intro w' hw'
  refine ⟨fun h0=>(by rw [hr] at h0;cases h0),fun j hj=>?_⟩
  rw [hr] at hj
  obtain rfl:j=k:=by simpa using hj
  have h1:=wpOp_ahead (oi:=oi) (v:=.pointer (some ⟨g,0,none⟩)) ho hap (fun cs b=>hsel j o cs b ho) (wpOp_of_list (C:=fun w''=>Ext w' w'') ho (h ⟨w',hw'⟩))
  refine wpOp_mono (fun a' w'' ⟨a0,ha,he,hp⟩=>⟨hCE _ _ (hCE _ _ hC hw') he,?_⟩) h1
  subst ha
  rw [Array.setIfInBounds_comm _ _ (Ne.symm hne)]
  exact float_done hCE hsel pre (l.setIfInBounds j true) a0 w'' g (fun p hp=>hv p (List.mem_cons_of_mem _ hp)) hB' hK hp (hCE _ _ (hCE _ _ hC hw') he) hg (heap_ext hz (hw'.trans he))
theorem float_main (hCE : ∀ w w',C w→Ext w w'→C w') (hsel : ∀ (j:Nat) (o:Oper) cs b,ops[j]?=some o→o.op≠.select cs b) (hi:ops[i]?=some oi) (hgd:oi.guard=none)
 (hal : ∀ (a:Act) (w:World),(execOp a.eval oi).run P w = .ok (.value (.pointer (some ⟨w.heap.size,0,none⟩))) (w.alloc (.cells z t))) :
 ∀ (pre:List Stp) (l:Array Bool) (a:Act) (w:World),(∀ p∈pre,ops[p.k]?=some p.o)→floatB md ops i oi pre l=true→
  (∀ a w,C w→K a w→wpAnyE P md ops C Q nf ((listAll pre l).setIfInBounds i true) a w)→
  wpPre P ops C B z t oi.dst K Q pre a w→C w→B≤w.heap.size→wpAnyE P md ops C Q (pre.length+1+nf) l a w:=by
 have made : ∀ (pre:List Stp) (l:Array Bool) (a:Act) (w':World),(∀ p∈pre,ops[p.k]?=some p.o)→floatB md ops i oi pre l=true→
  (∀ a w,C w→K a w→wpAnyE P md ops C Q nf ((listAll pre l).setIfInBounds i true) a w)→
  wpPre P ops C B z t oi.dst K Q pre a w'→C w'→B≤w'.heap.size→
  wpOp P ops (Quiets Q) i (fun a' w''=>C w''∧wpAnyE P md ops C Q (pre.length+nf) (l.setIfInBounds i true) a' w'') a w':=by
  intro pre l a w' hv hB hK h hC hb
  unfold wpOp
  simp only [hi]
  rw [if_pos (by simp [Region.wanted,hgd])]
  refine .inl ?_
  unfold Oper.wp
  rw [hal]
  have e:Ext w' (w'.alloc (.cells z t)):=zR.alloc _
  exact ⟨hCE _ _ hC e,float_done hCE hsel pre l a _ w'.heap.size hv hB hK (wpPre_up h e) (hCE _ _ hC e) hb (heap_alloc_new w' _)⟩
 intro pre
 induction pre with
 | nil=>
  intro l a w hv hB hK h hC hb
  rw [show ([]:List Stp).length+1+nf=nf+1 by rw [List.length_nil];omega]
  intro w' hw'
  have hr:Region.ready md ops l=[i]:=by simpa [floatB] using hB
  refine ⟨fun h0=>(by rw [hr] at h0;cases h0),fun j hj=>?_⟩
  rw [hr] at hj
  obtain rfl:j=i:=by simpa using hj
  have:=made [] l a w' hv hB hK (wpPre_up h hw') (hCE _ _ hC hw') (zT hb hw'.size)
  simpa using this
 | cons s pre ih=>
  obtain ⟨q,k,o⟩:=s
  intro l a w hv hB hK h hC hb
  have ho:ops[k]?=some o:=hv ⟨q,k,o⟩ (by simp)
  have hB0:=hB
  have h0:=h
  cases q
  ·simp only [floatB,Bool.false_eq_true,if_false,Bool.and_eq_true,decide_eq_true_eq] at hB
   obtain ⟨⟨⟨⟨⟨hall,hk⟩,hr⟩,hne⟩,hap⟩,hB'⟩:=hB
   simp only [wpPre,Bool.false_eq_true,if_false] at h
   rw [List.length_cons,show pre.length+1+1+nf=(pre.length+1+nf)+1 by omega]
   intro w' hw'
   refine ⟨fun h0=>(by rw [h0] at hk;cases hk),fun j hj=>?_⟩
   have hjk:j=k∨j=i:=by simpa using List.all_eq_true.1 hall j hj
   rcases hjk with rfl|rfl
   ·refine wpOp_mono (fun a' w'' ⟨he,hp⟩=>⟨hCE _ _ (hCE _ _ hC hw') he,?_⟩) (wpOp_of_list (C:=fun w''=>Ext w' w'') ho (h ⟨w',hw'⟩))
    exact ih (l.setIfInBounds j true) a' w'' (fun p hp=>hv p (List.mem_cons_of_mem _ hp)) hB' hK hp (hCE _ _ (hCE _ _ hC hw') he) (zT hb (hw'.trans he).size)
   ·exact made (⟨false,k,o⟩::pre) l a w' hv hB0 hK (wpPre_up h0 hw') (hCE _ _ hC hw') (zT hb hw'.size)
  ·simp only [floatB,if_true,Bool.and_eq_true,decide_eq_true_eq] at hB
   obtain ⟨⟨⟨⟨⟨⟨hr,hf⟩,_⟩,_⟩,hne⟩,hap⟩,hB'⟩:=hB
   simp only [wpPre,if_true] at h
   obtain ⟨v,hy,hn⟩:=h
   rw [List.length_cons,show pre.length+1+1+nf=(pre.length+1+nf)+1 by omega]
   exact wpAnyE_first hCE ho hsel _ _ _ w (Region.free_spec ho hf) (by simpa using hr) hy hC
    (ih (l.setIfInBounds k true) _ w (fun p hp=>hv p (List.mem_cons_of_mem _ hp)) hB' hK hn hC hb)
def restL:List Bool→List Bool→Nat→List Oper→List Stp
 | b::m,c::n,k,o::l=>if b then restL m n (k+1) l else ⟨c,k,o⟩::restL m n (k+1) l
 | _,_,_,_=>[]
theorem restL_valid : ∀ (m c:List Bool) (k:Nat) (l:List Oper),(∀ j,j<l.length→l[j]?=ops[k+j]?)→∀ p∈restL m c k l,ops[p.k]?=some p.o
 | [],_,_,_,_,p,hp=>by simp [restL] at hp
 | _::_,[],_,_,_,p,hp=>by simp [restL] at hp
 | _::_,_::_,_,[],_,p,hp=>by simp [restL] at hp
 | b::m,c::n,k,o::l,ho,p,hp=>by
  have h0:ops[k]?=some o:=by simpa using (ho 0 (by simp)).symm
  have ho' : ∀ j,j<l.length→l[j]?=ops[k+1+j]?:=fun j hj=>by
   have:=ho (j+1) (by simp;omega)
   simpa [Nat.add_assoc,Nat.add_comm 1 j] using this
  cases b
  ·simp only [restL,Bool.false_eq_true,if_false,List.mem_cons] at hp
   rcases hp with rfl|hp
   ·exact h0
   ·exact restL_valid m n (k+1) l ho' p hp
  ·simp only [restL,if_true] at hp
   exact restL_valid m n (k+1) l ho' p hp
theorem restL_length : ∀ (m c:List Bool) (k:Nat) (l:List Oper),m.length=l.length→c.length=l.length→(pickT m l).length+(restL m c k l).length=l.length
 | [],[],_,[],_,_=>rfl
 | [],_,_,_::_,h,_=>by simp at h
 | _::_,_,_,[],h,_=>by simp at h
 | _,[],_,_::_,_,h=>by simp at h
 | _,_::_,_,[],_,h=>by simp at h
 | b::m,c::n,k,o::l,h,h2=>by
  have:=restL_length m n (k+1) l (by simpa using h) (by simpa using h2)
  cases b<;>simp [pickT,restL]<;>omega
def seqL (md:Region.Mode) (ops:Array Oper):List Stp→Array Bool→Bool
 | [],l=>(Region.ready md ops l).isEmpty
 | s::r,l=>(if s.q then (Region.ready md ops l).contains s.k && Region.free md ops l s.k else decide (Region.ready md ops l=[s.k])) && seqL md ops r (l.setIfInBounds s.k true)
theorem post_of_seqL (hCE : ∀ w w',C w→Ext w w'→C w') (hsel : ∀ (j:Nat) (o:Oper) cs b,ops[j]?=some o→o.op≠.select cs b) : ∀ (r:List Stp) (l:Array Bool) (a:Act) (w:World),(∀ p∈r,ops[p.k]?=some p.o)→seqL md ops r l=true→C w→
 wpPost P ops C Q r a w→wpAnyE P md ops C Q r.length l a w
 | [],l,a,w,_,hB,_,h=>⟨by simpa [seqL] using hB,fun w' hw'=>h ⟨w',hw'⟩⟩
 | ⟨false,k,o⟩::r,l,a,w,hv,hB,hC,h=>by
  simp only [seqL,Bool.false_eq_true,if_false,Bool.and_eq_true,decide_eq_true_eq] at hB
  simp only [wpPost,Bool.false_eq_true,if_false] at h
  have ho:ops[k]?=some o:=hv ⟨false,k,o⟩ (by simp)
  intro w' hw'
  refine ⟨fun h0=>(by rw [hB.1] at h0;cases h0),fun j hj=>?_⟩
  rw [hB.1] at hj
  obtain rfl:j=k:=by simpa using hj
  exact wpOp_mono (fun a' w'' ⟨hc,hp⟩=>⟨hc,post_of_seqL hCE hsel r _ a' w'' (fun p hp=>hv p (List.mem_cons_of_mem _ hp)) hB.2 hc hp⟩) (wpOp_of_list ho (h ⟨w',hw'⟩))
 | ⟨true,k,o⟩::r,l,a,w,hv,hB,hC,h=>by
  simp only [seqL,if_true,Bool.and_eq_true] at hB
  simp only [wpPost,if_true] at h
  obtain ⟨v,hy,hn⟩:=h
  have ho:ops[k]?=some o:=hv ⟨true,k,o⟩ (by simp)
  exact wpAnyE_first hCE ho hsel _ _ _ w (Region.free_spec ho hB.1.2) (by simpa using hB.1.1) hy hC
   (post_of_seqL hCE hsel r _ _ w (fun p hp=>hv p (List.mem_cons_of_mem _ hp)) hB.2 hC hn)
def mixFB (ops:Array Oper) (m c:List Bool) (l:List Oper) (n n0:Nat):Bool:=
 Region.noSelect ops && decide (m.length=l.length) && decide (c.length=l.length) && dstsOk n (pickT m l) &&
  (match Region.lexMask .any ops m 0 (Array.replicate l.length false) with
   | some le=>(match (restL m c 0 l).drop n0 with
    | ⟨_,i,oi⟩::post=>oi.guard.isNone && floatB .any ops i oi ((restL m c 0 l).take n0) le && seqL .any ops post ((listAll ((restL m c 0 l).take n0) le).setIfInBounds i true)
    | []=>false)
   | none=>false)
def wpFloat (P:Program) (ops:Array Oper) (C:World→Prop) (B:Nat) (z:Array Value) (t:TypeId) (Q:Exit→Act→World→Prop) (n0:Nat) (l:List Stp) (a:Act) (w:World):Prop:=
 match l.drop n0 with
 | s::post=>(∀ (a:Act) (w:World),(execOp a.eval s.o).run P w = .ok (.value (.pointer (some ⟨w.heap.size,0,none⟩))) (w.alloc (.cells z t)))∧wpPre P ops C B z t s.o.dst (wpPost P ops C Q post) Q (l.take n0) a w
 | []=>False
theorem wp_region_mixF {id:Nat} {a af:Act} {w:World} {l:List Oper} (z:Array Value) (t:TypeId) (m c:List Bool) (n n0:Nat) (hm:P.follows .mixedOrders=true)
 (hn:a.tmps.size=n) (hB:mixFB l.toArray m c l n n0=true) (hCE : ∀ w w',C w→Ext w w'→C w') (hC:C w.drew)
 (h : ∀ w',C w'→wpQuiet P l.toArray (fun w''=>∃ x:ExtOf w',w''=x.val) (fun a'=>a'=af) (pickT m l) a)
 (hr:wpFloat P l.toArray C w.heap.size z t Q n0 (restL m c 0 l) af w.drew):(Code.region id l.toArray true).wp P Q a w:=by
 subst hn
 simp only [mixFB,Bool.and_eq_true,decide_eq_true_eq] at hB
 obtain ⟨⟨⟨⟨hs,hl⟩,hcl⟩,hd⟩,hx⟩:=hB
 split at hx
 case h_2=>cases hx
 case h_1 le hle=>
  unfold wpFloat at hr
  split at hx
  case h_2=>cases hx
  case h_1 q i oi post hdrop=>
   simp only [Bool.and_eq_true] at hx
   obtain ⟨⟨hg,hf⟩,hsq⟩:=hx
   have hsel:=Region.noSelect_spec hs
   have hv:=restL_valid (ops:=l.toArray) m c 0 l (fun j _=>by simp)
   have hvp : ∀ p∈post,l.toArray[p.k]?=some p.o:=fun p hp=>hv p (List.mem_of_mem_drop (by rw [hdrop];exact List.mem_cons_of_mem _ hp))
   have hvi:l.toArray[i]?=some oi:=hv ⟨q,i,oi⟩ (List.mem_of_mem_drop (by rw [hdrop];simp))
   have hvt : ∀ p∈(restL m c 0 l).take n0,l.toArray[p.k]?=some p.o:=fun p hp=>hv p (List.mem_of_mem_take hp)
   rw [hdrop] at hr
   obtain ⟨hal,hpre⟩:=hr
   have hq:=walkE_of_quiet (P:=P) (ops:=l.toArray) (C:=C) ⟨_,hC⟩ (pickT m l) a hd h
   have hmain:=float_main (P:=P) (md:=.any) (ops:=l.toArray) (C:=C) (Q:=Q) (K:=wpPost P l.toArray C Q post) (nf:=post.length) hCE hsel hvi (by simpa using hg) hal
    ((restL m c 0 l).take n0) le af w.drew hvt hf (fun a w hc hk=>post_of_seqL hCE hsel post _ a w hvp hsq hc hk) hpre hC zN
   have:=wpAnyE_lex (P:=P) (md:=.any) (ops:=l.toArray) (Q:=Q) hCE hs m l 0 _ a w.drew hl (fun j _=>by simp) hle hq hC hmain
   have hlen:(pickT m l).length+(((restL m c 0 l).take n0).length+1+post.length)=l.length:=by
    have h1:=restL_length m c 0 l hl hcl
    have h3:((restL m c 0 l).take n0).length+((restL m c 0 l).drop n0).length=(restL m c 0 l).length:=by rw [←List.length_append,List.take_append_drop]
    rw [hdrop] at h3
    simp only [List.length_cons] at h3
    omega
   rw [hlen] at this
   refine Code.wp_mono quiets_imp (wp_region_any hm ?_)
   have h2:=wpAny_of_E _ _ _ _ this
   simpa using h2
theorem wp_region_mixQ {id:Nat} {a af:Act} {w:World} {l:List Oper} (m c:List Bool) (n:Nat) (hm:P.follows .mixedOrders=true)
 (hn:a.tmps.size=n) (hB:(Region.noSelect l.toArray && decide (m.length=l.length) && decide (c.length=l.length) && dstsOk n (pickT m l) &&
  (match Region.lexMask .any l.toArray m 0 (Array.replicate l.length false) with|some le=>seqL .any l.toArray (restL m c 0 l) le|none=>false))=true) (hCE : ∀ w w',C w→Ext w w'→C w') (hC:C w.drew)
 (h : ∀ w',C w'→wpQuiet P l.toArray (fun w''=>∃ x:ExtOf w',w''=x.val) (fun a'=>a'=af) (pickT m l) a)
 (hr:wpPost P l.toArray C Q (restL m c 0 l) af w.drew):(Code.region id l.toArray true).wp P Q a w:=by
 subst hn
 simp only [Bool.and_eq_true,decide_eq_true_eq] at hB
 obtain ⟨⟨⟨⟨hs,hl⟩,hcl⟩,hd⟩,hx⟩:=hB
 split at hx
 case h_2=>cases hx
 case h_1 le hle=>
  have hv:=restL_valid (ops:=l.toArray) m c 0 l (fun j _=>by simp)
  have hq:=walkE_of_quiet (P:=P) (ops:=l.toArray) (C:=C) ⟨_,hC⟩ (pickT m l) a hd h
  have:=wpAnyE_lex (P:=P) (md:=.any) (ops:=l.toArray) (Q:=Q) hCE hs m l 0 _ a w.drew hl (fun j _=>by simp) hle hq hC (post_of_seqL hCE (Region.noSelect_spec hs) _ _ _ _ hv hx hC hr)
  rw [restL_length m c 0 l hl hcl] at this
  refine Code.wp_mono quiets_imp (wp_region_any hm ?_)
  have h2:=wpAny_of_E _ _ _ _ this
  simpa using h2
end
def setB (w:World) (r:Nat) (ob:Obj):World:={ w with heap:=w.heap.setIfInBounds r ob }
theorem setB_same {w:World} {r:Nat} {ob:Obj} (h:r<w.heap.size):(setB w r ob).heap[r]?=some ob:=by simp [setB,h]
theorem setB_other {w:World} {r k:Nat} {ob:Obj} (h:k≠r):(setB w r ob).heap[k]?=w.heap[k]?:=by simp [setB,Array.getElem?_setIfInBounds_ne (Ne.symm h)]
theorem run_getMap {P:Program} {w:World} {r:Nat} {arr:Array MapEntry} {clock:Nat} (h:w.heap[r]?=some (.map arr clock)):(getObj r).run P w = .ok (.map arr clock) w:=by
 simp [getObj,Sem.run,h]
theorem run_setMap {P:Program} {w:World} {r:Nat} {arr arr':Array MapEntry} {clock clock':Nat} (h:w.heap[r]?=some (.map arr clock)):(Go.setObj r (.map arr' clock')).run P w = .ok () (setB w r (.map arr' clock')):=by
 simp [Go.setObj,Sem.run,h,setB]
structure KeysOk (P:Program) (kt:TypeId) {α:Type} [DecidableEq α] (kv:α→Value):Prop where
 find : ∀ (x:α) (es:List MapEntry) (S:List (α×Value)) (w:World),es.map (fun e=>(e.key,e.val))=S.map (fun p=>(kv p.1,p.2))→
  (Instr.findKey kt (kv x) es).run P w = .ok ((S.findIdx? (fun p=>decide (p.1=x))).bind fun j=>(S[j]?).map fun p=>(j,p.2)) w
 chk : ∀ (x:α) (e:Bool) (w:World),(Instr.checkKey e 10000 kt (kv x)).run P w = .ok () w
 bits : ∀ x,Instr.sameBits 10000 (kv x) (kv x)=true
def MapG {α:Type} (kv:α→Value) (b:Nat) (S:List (α×Value)) (w:World):Prop:=∃ es clock,w.heap[b]?=some (.map es clock)∧es.toList.map (fun e=>(e.key,e.val))=S.map (fun p=>(kv p.1,p.2))
section
variable {α:Type} {kv:α→Value} {b:Nat} {S:List (α×Value)} {w w':World}
theorem MapG.same (h:MapG kv b S w) (e:w'.heap[b]?=w.heap[b]?):MapG kv b S w':=by
 obtain ⟨es,clock,h1,h2⟩:=h
 exact ⟨es,clock,e.trans h1,h2⟩
theorem MapG.ext (h:MapG kv b S w) (e:Ext w w'):MapG kv b S w':=by
 obtain ⟨es,clock,h1,h2⟩:=h
 exact ⟨es,clock,heap_ext h1 e,h2⟩
theorem MapG.lt (h:MapG kv b S w):b<w.heap.size:=by
 obtain ⟨es,clock,h1,_⟩:=h
 exact (zL h1)
end
section
variable {P:Program} {kt et T:TypeId} {α:Type} [DecidableEq α] {kv:α→Value}
def getM (S:List (α×Value)) (x:α):Option Value:=(S.find? fun p=>decide (p.1=x)).map (·.2)
def putM (S:List (α×Value)) (x:α) (v:Value):List (α×Value):=match S.findIdx? (fun p=>decide (p.1=x)) with
 | some j=>S.set j (x,v)
 | none=>S++[(x,v)]
theorem find_of_idxM (S:List (α×Value)) (x:α):((S.findIdx? (fun p=>decide (p.1=x))).bind fun j=>(S[j]?).map (·.2))=getM S x:=by
 unfold getM
 induction S with
 | nil=>rfl
 | cons t S ih=>
  rw [List.findIdx?_cons,List.find?_cons]
  cases h:decide (t.1=x) with
  | true=>simp
  | false=>
   simp only [Bool.false_eq_true,if_false]
   rw [←ih]
   cases S.findIdx? (fun p=>decide (p.1=x)) with
   | none=>rfl
   | some j=>rfl
def lookG (S:List (α×Value)) (x:α) (z:Value) (ok:Bool):Value:=match getM S x with
 | some v=>if ok then .tuple #[v,.bool true] else v
 | none=>if ok then .tuple #[z,.bool false] else z
theorem run_lookupG (hK:KeysOk P kt kv) (hT:P.underlying T=some (.map kt et)) {z:Value} (hz : ∀ w,(zeroValue et).run P w = .ok z w) {w:World} {b:Nat} {S:List (α×Value)} (hM:MapG kv b S w) (x:α) (ok:Bool) :
 (Instr.lookup T (.map (some b)) (kv x) ok).run P w = .ok (lookG S x z ok) w:=by
 obtain ⟨es,clock,h1,h2⟩:=hM
 have hf:=hK.find x es.toList S w h2
 have hg:=find_of_idxM S x
 simp only [Instr.lookup,Sem.run_bind,run_underlying hT w,Result.andThen_ok,run_getMap h1,Sem.run_pure,hK.chk,hf]
 cases hi:S.findIdx? (fun p=>decide (p.1=x)) with
 | none=>
  rw [hi] at hg
  simp only [Option.bind_none] at hg ⊢
  simp only [Sem.run_bind,hz,Result.andThen_ok,Sem.run_pure]
  cases ok<;>simp [lookG,←hg]
 | some j=>
  rw [hi] at hg
  simp only [Option.bind_some] at hg ⊢
  obtain ⟨hlt,_⟩:=List.findIdx?_eq_some_iff_getElem.1 hi
  rw [zG hlt] at hg ⊢
  simp only [Option.map_some] at hg ⊢
  cases ok<;>simp [lookG,←hg]
theorem keys_struct {fs:Array Field} (hk:P.underlying kt=some (.struct fs)) (heq : ∀ x y w,(Op.equal kt (kv x) (kv y)).run P w = .ok (decide (y=x)) w) (hchk : ∀ (x:α) (e:Bool) (w:World),(Instr.checkKey e 10000 kt (kv x)).run P w = .ok () w) (hb : ∀ x,Instr.sameBits 10000 (kv x) (kv x)=true):KeysOk P kt kv where
 find:=by
  intro x es S w h
  have key : ∀ (l:List MapEntry) (S:List (α×Value)) (i:Nat),l.map (fun e=>(e.key,e.val))=S.map (fun p=>(kv p.1,p.2))→
   (Instr.findAsking kt (kv x) l i).run P w = .ok ((S.findIdx? (fun p=>decide (p.1=x))).bind fun j=>(S[j]?).map fun p=>(i+j,p.2)) w:=by
   intro l
   induction l with
   | nil=>intro S i h;cases S with
    | nil=>rfl
    | cons t S=>simp at h
   | cons e l ih=>
    intro S i h
    cases S with
    | nil=>simp at h
    | cons t S=>
     simp only [List.map_cons,List.cons.injEq,Prod.mk.injEq] at h
     obtain ⟨⟨h1,h2⟩,h3⟩:=h
     unfold Instr.findAsking
     rw [h1,h2]
     simp only [Sem.run_bind,heq,Result.andThen_ok]
     rw [List.findIdx?_cons]
     by_cases hk:t.1=x
     ·simp [hk]
     ·simp only [decide_eq_false hk,Bool.false_eq_true,if_false]
      rw [ih S (i+1) h3]
      cases S.findIdx? (fun p=>decide (p.1=x)) with
      | none=>rfl
      | some j=>simp [Nat.add_assoc,Nat.add_comm 1 j]
  have hk1:=key es S 0 h
  simp only [Nat.zero_add] at hk1
  cases es with
  | nil=>
   cases S with
   | nil=>
    simp only [Instr.findKey,Sem.run_bind,run_underlying hk w,Result.andThen_ok]
    rfl
   | cons t S=>simp at h
  | cons e l=>
   have hf:Instr.findNow (.struct fs) (kv x) (e::l) 0=none:=by
    unfold Instr.findNow
    have:Instr.sameNow (.struct fs) (kv x) e.key=none:=by
     generalize kv x=a
     generalize e.key=c
     cases a<;>cases c<;>rfl
    rw [this]
   simp only [Instr.findKey,Sem.run_bind,run_underlying hk w,Result.andThen_ok,hf]
   exact hk1
 chk:=hchk
 bits:=hb
end
theorem toList_eq_iff (s t:ByteArray):(s.toList=t.toList)↔s=t:=by
 rw [ByteArray.toList_eq,ByteArray.toList_eq]
 constructor
 ·intro h;obtain ⟨⟨x⟩⟩:=s;obtain ⟨⟨y⟩⟩:=t;simpa using h
 ·intro h;rw [h]
theorem toList_beq (s t:ByteArray):(s.toList == t.toList)=decide (s=t):=by
 rw [Bool.eq_iff_iff];simp [toList_eq_iff]
def lEq (k:Int) (f:Int) (c:Int) (t:ByteArray) (b:Bool) (k':Int) (f':Int) (c':Int) (t':ByteArray) (b':Bool):Bool:=decide (k=k'∧f=f'∧c=c'∧t=t'∧b=b')
theorem eql_lEq (k:Int) (f:Int) (c:Int) (t:ByteArray) (b:Bool) (k':Int) (f':Int) (c':Int) (t':ByteArray) (b':Bool) (w:World):(binOp .eql 24 (.agg #[.int .i64 k,.int .i64 f,.int .u64 c,.string t,.bool b]) (.agg #[.int .i64 k',.int .i64 f',.int .u64 c',.string t',.bool b'])).run Tryz.prog w = .ok (.bool (lEq k f c t b k' f' c' t' b')) w:=by
 simp [go_sem,toList_beq,lEq]
 by_cases h_k:k=k'
 case neg=>simp [h_k]
 by_cases h_f:f=f'
 case neg=>simp [h_f]
 by_cases h_c:c=c'
 case neg=>simp [h_c]
 by_cases h_t:t=t'
 case neg=>simp [h_t]
 by_cases h_b:b=b'
 case neg=>simp [h_b]
 simp [h_k,h_f,h_c,h_t,h_b]
theorem neq_lEq (k:Int) (f:Int) (c:Int) (t:ByteArray) (b:Bool) (k':Int) (f':Int) (c':Int) (t':ByteArray) (b':Bool) (w:World):(binOp .neq 24 (.agg #[.int .i64 k,.int .i64 f,.int .u64 c,.string t,.bool b]) (.agg #[.int .i64 k',.int .i64 f',.int .u64 c',.string t',.bool b'])).run Tryz.prog w = .ok (.bool (!(lEq k f c t b k' f' c' t' b'))) w:=by
 simp [go_sem,toList_beq,lEq]
 by_cases h_k:k=k'
 case neg=>simp [h_k]
 by_cases h_f:f=f'
 case neg=>simp [h_f]
 by_cases h_c:c=c'
 case neg=>simp [h_c]
 by_cases h_t:t=t'
 case neg=>simp [h_t]
 by_cases h_b:b=b'
 case neg=>simp [h_b]
 simp [h_k,h_f,h_c,h_t,h_b]
def sEq (r:Int) (c:Int) (t:ByteArray) (ph:Int) (pk:Int) (pf:Int) (pc:Int) (pt:ByteArray) (pb:Bool) (r':Int) (c':Int) (t':ByteArray) (ph':Int) (pk':Int) (pf':Int) (pc':Int) (pt':ByteArray) (pb':Bool):Bool:=decide (r=r'∧c=c'∧t=t'∧ph=ph'∧pk=pk'∧pf=pf'∧pc=pc'∧pt=pt'∧pb=pb')
theorem eql_sEq (r:Int) (c:Int) (t:ByteArray) (ph:Int) (pk:Int) (pf:Int) (pc:Int) (pt:ByteArray) (pb:Bool) (r':Int) (c':Int) (t':ByteArray) (ph':Int) (pk':Int) (pf':Int) (pc':Int) (pt':ByteArray) (pb':Bool) (w:World):(binOp .eql 26 (.agg #[.int .i64 r,.int .u64 c,.string t,.int .i64 ph,.int .i64 pk,.int .i64 pf,.int .u64 pc,.string pt,.bool pb]) (.agg #[.int .i64 r',.int .u64 c',.string t',.int .i64 ph',.int .i64 pk',.int .i64 pf',.int .u64 pc',.string pt',.bool pb'])).run Tryz.prog w = .ok (.bool (sEq r c t ph pk pf pc pt pb r' c' t' ph' pk' pf' pc' pt' pb')) w:=by
 simp [go_sem,toList_beq,sEq]
 by_cases h_r:r=r'
 case neg=>simp [h_r]
 by_cases h_c:c=c'
 case neg=>simp [h_c]
 by_cases h_t:t=t'
 case neg=>simp [h_t]
 by_cases h_ph:ph=ph'
 case neg=>simp [h_ph]
 by_cases h_pk:pk=pk'
 case neg=>simp [h_pk]
 by_cases h_pf:pf=pf'
 case neg=>simp [h_pf]
 by_cases h_pc:pc=pc'
 case neg=>simp [h_pc]
 by_cases h_pt:pt=pt'
 case neg=>simp [h_pt]
 by_cases h_pb:pb=pb'
 case neg=>simp [h_pb]
 simp [h_r,h_c,h_t,h_ph,h_pk,h_pf,h_pc,h_pt,h_pb]
theorem neq_sEq (r:Int) (c:Int) (t:ByteArray) (ph:Int) (pk:Int) (pf:Int) (pc:Int) (pt:ByteArray) (pb:Bool) (r':Int) (c':Int) (t':ByteArray) (ph':Int) (pk':Int) (pf':Int) (pc':Int) (pt':ByteArray) (pb':Bool) (w:World):(binOp .neq 26 (.agg #[.int .i64 r,.int .u64 c,.string t,.int .i64 ph,.int .i64 pk,.int .i64 pf,.int .u64 pc,.string pt,.bool pb]) (.agg #[.int .i64 r',.int .u64 c',.string t',.int .i64 ph',.int .i64 pk',.int .i64 pf',.int .u64 pc',.string pt',.bool pb'])).run Tryz.prog w = .ok (.bool (!(sEq r c t ph pk pf pc pt pb r' c' t' ph' pk' pf' pc' pt' pb'))) w:=by
 simp [go_sem,toList_beq,sEq]
 by_cases h_r:r=r'
 case neg=>simp [h_r]
 by_cases h_c:c=c'
 case neg=>simp [h_c]
 by_cases h_t:t=t'
 case neg=>simp [h_t]
 by_cases h_ph:ph=ph'
 case neg=>simp [h_ph]
 by_cases h_pk:pk=pk'
 case neg=>simp [h_pk]
 by_cases h_pf:pf=pf'
 case neg=>simp [h_pf]
 by_cases h_pc:pc=pc'
 case neg=>simp [h_pc]
 by_cases h_pt:pt=pt'
 case neg=>simp [h_pt]
 by_cases h_pb:pb=pb'
 case neg=>simp [h_pb]
 simp [h_r,h_c,h_t,h_ph,h_pk,h_pf,h_pc,h_pt,h_pb]
def eEq (k:Int) (c:Int) (t:ByteArray) (lk:Int) (lf:Int) (lc:Int) (lt:ByteArray) (lb:Bool) (k':Int) (c':Int) (t':ByteArray) (lk':Int) (lf':Int) (lc':Int) (lt':ByteArray) (lb':Bool):Bool:=decide (k=k'∧c=c'∧t=t'∧lk=lk'∧lf=lf'∧lc=lc'∧lt=lt'∧lb=lb')
theorem eql_eEq (k:Int) (c:Int) (t:ByteArray) (lk:Int) (lf:Int) (lc:Int) (lt:ByteArray) (lb:Bool) (k':Int) (c':Int) (t':ByteArray) (lk':Int) (lf':Int) (lc':Int) (lt':ByteArray) (lb':Bool) (w:World):(binOp .eql 102 (.agg #[.int .i64 k,.int .u64 c,.string t,.int .i64 lk,.int .i64 lf,.int .u64 lc,.string lt,.bool lb]) (.agg #[.int .i64 k',.int .u64 c',.string t',.int .i64 lk',.int .i64 lf',.int .u64 lc',.string lt',.bool lb'])).run Tryz.prog w = .ok (.bool (eEq k c t lk lf lc lt lb k' c' t' lk' lf' lc' lt' lb')) w:=by
 simp [go_sem,toList_beq,eEq]
 by_cases h_k:k=k'
 case neg=>simp [h_k]
 by_cases h_c:c=c'
 case neg=>simp [h_c]
 by_cases h_t:t=t'
 case neg=>simp [h_t]
 by_cases h_lk:lk=lk'
 case neg=>simp [h_lk]
 by_cases h_lf:lf=lf'
 case neg=>simp [h_lf]
 by_cases h_lc:lc=lc'
 case neg=>simp [h_lc]
 by_cases h_lt:lt=lt'
 case neg=>simp [h_lt]
 by_cases h_lb:lb=lb'
 case neg=>simp [h_lb]
 simp [h_k,h_c,h_t,h_lk,h_lf,h_lc,h_lt,h_lb]
theorem neq_eEq (k:Int) (c:Int) (t:ByteArray) (lk:Int) (lf:Int) (lc:Int) (lt:ByteArray) (lb:Bool) (k':Int) (c':Int) (t':ByteArray) (lk':Int) (lf':Int) (lc':Int) (lt':ByteArray) (lb':Bool) (w:World):(binOp .neq 102 (.agg #[.int .i64 k,.int .u64 c,.string t,.int .i64 lk,.int .i64 lf,.int .u64 lc,.string lt,.bool lb]) (.agg #[.int .i64 k',.int .u64 c',.string t',.int .i64 lk',.int .i64 lf',.int .u64 lc',.string lt',.bool lb'])).run Tryz.prog w = .ok (.bool (!(eEq k c t lk lf lc lt lb k' c' t' lk' lf' lc' lt' lb'))) w:=by
 simp [go_sem,toList_beq,eEq]
 by_cases h_k:k=k'
 case neg=>simp [h_k]
 by_cases h_c:c=c'
 case neg=>simp [h_c]
 by_cases h_t:t=t'
 case neg=>simp [h_t]
 by_cases h_lk:lk=lk'
 case neg=>simp [h_lk]
 by_cases h_lf:lf=lf'
 case neg=>simp [h_lf]
 by_cases h_lc:lc=lc'
 case neg=>simp [h_lc]
 by_cases h_lt:lt=lt'
 case neg=>simp [h_lt]
 by_cases h_lb:lb=lb'
 case neg=>simp [h_lb]
 simp [h_k,h_c,h_t,h_lk,h_lf,h_lc,h_lt,h_lb]
def oEq (to:Int) (lk:Int) (lf:Int) (lc:Int) (lt:ByteArray) (lb:Bool) (to':Int) (lk':Int) (lf':Int) (lc':Int) (lt':ByteArray) (lb':Bool):Bool:=decide (to=to'∧lk=lk'∧lf=lf'∧lc=lc'∧lt=lt'∧lb=lb')
theorem eql_oEq (to:Int) (lk:Int) (lf:Int) (lc:Int) (lt:ByteArray) (lb:Bool) (to':Int) (lk':Int) (lf':Int) (lc':Int) (lt':ByteArray) (lb':Bool) (w:World):(binOp .eql 126 (.agg #[.int .i64 to,.int .i64 lk,.int .i64 lf,.int .u64 lc,.string lt,.bool lb]) (.agg #[.int .i64 to',.int .i64 lk',.int .i64 lf',.int .u64 lc',.string lt',.bool lb'])).run Tryz.prog w = .ok (.bool (oEq to lk lf lc lt lb to' lk' lf' lc' lt' lb')) w:=by
 simp [go_sem,toList_beq,oEq]
 by_cases h_to:to=to'
 case neg=>simp [h_to]
 by_cases h_lk:lk=lk'
 case neg=>simp [h_lk]
 by_cases h_lf:lf=lf'
 case neg=>simp [h_lf]
 by_cases h_lc:lc=lc'
 case neg=>simp [h_lc]
 by_cases h_lt:lt=lt'
 case neg=>simp [h_lt]
 by_cases h_lb:lb=lb'
 case neg=>simp [h_lb]
 simp [h_to,h_lk,h_lf,h_lc,h_lt,h_lb]
theorem neq_oEq (to:Int) (lk:Int) (lf:Int) (lc:Int) (lt:ByteArray) (lb:Bool) (to':Int) (lk':Int) (lf':Int) (lc':Int) (lt':ByteArray) (lb':Bool) (w:World):(binOp .neq 126 (.agg #[.int .i64 to,.int .i64 lk,.int .i64 lf,.int .u64 lc,.string lt,.bool lb]) (.agg #[.int .i64 to',.int .i64 lk',.int .i64 lf',.int .u64 lc',.string lt',.bool lb'])).run Tryz.prog w = .ok (.bool (!(oEq to lk lf lc lt lb to' lk' lf' lc' lt' lb'))) w:=by
 simp [go_sem,toList_beq,oEq]
 by_cases h_to:to=to'
 case neg=>simp [h_to]
 by_cases h_lk:lk=lk'
 case neg=>simp [h_lk]
 by_cases h_lf:lf=lf'
 case neg=>simp [h_lf]
 by_cases h_lc:lc=lc'
 case neg=>simp [h_lc]
 by_cases h_lt:lt=lt'
 case neg=>simp [h_lt]
 by_cases h_lb:lb=lb'
 case neg=>simp [h_lb]
 simp [h_to,h_lk,h_lf,h_lc,h_lt,h_lb]
end Go.Proofs.YtlnmhocehgmbbaaGreatDoor
namespace Go.Proofs.YtlnmhocehgmbbaaGreatDoor
open Go.RowKit
attribute [local go_sem ↓] eql_lEq eql_sEq eql_eEq eql_oEq neq_lEq neq_sEq neq_eEq neq_oEq
attribute [local go_sem] ExtOf.cell ExtOf.frozen ExtOf.lt ExtOf.le
attribute [local go_sem high] ExtOf.cell2 ExtOf.frozen2 ExtOf.lt2 ExtOf.cell3 ExtOf.frozen3 ExtOf.lt3
theorem ret_bool {a b:Bool} (h:a=b):Ending.returned (.bool a) = .returned (.bool b):=by rw [h]
theorem or_promise (r c ph:Int) (t:ByteArray) (k f c2:Int) (t2:ByteArray) (fk:Bool) (n:Int) (w:World) :
 Calls Tryz.prog 127 #[.agg #[.int .i64 r,.int .u64 c,.string t,.int .i64 ph,.int .i64 k,.int .i64 f,.int .u64 c2,.string t2,.bool fk],.int .i64 n] w fun e w'=>e = .returned (.agg #[.int .i64 1,.int .i64 n,.int .u64 c,.string t,.bool false])∧Ext w w':=by
 go_enter Tryz.func127,Tryz.ntmps127
 go_wp2
 exact bodyPost_ret (v:=.agg #[.int .i64 1,.int .i64 n,.int .u64 c,.string t,.bool false]) (by simp [results,Tryz.results127,go_sem]) rfl ⟨rfl,(zR.alloc _).alloc _⟩
theorem or_signature (r c ph:Int) (t:ByteArray) (k f c2:Int) (t2:ByteArray) (fk:Bool) (n:Int) (w:World) :
 Calls Tryz.prog 118 #[.agg #[.int .i64 r,.int .u64 c,.string t,.int .i64 ph,.int .i64 k,.int .i64 f,.int .u64 c2,.string t2,.bool fk],.int .i64 n] w fun e w'=>e = .returned (.agg #[.int .i64 2,.int .i64 n,.int .u64 c,.string t,.bool false])∧Ext w w':=by
 go_enter Tryz.func118,Tryz.ntmps118
 go_wp2
 exact bodyPost_ret (v:=.agg #[.int .i64 2,.int .i64 n,.int .u64 c,.string t,.bool false]) (by simp [results,Tryz.results118,go_sem]) rfl ⟨rfl,(zR.alloc _).alloc _⟩
theorem or_instead (r c ph:Int) (t:ByteArray) (k f c2:Int) (t2:ByteArray) (fk:Bool) (w:World) :
 Calls Tryz.prog 119 #[.agg #[.int .i64 r,.int .u64 c,.string t,.int .i64 ph,.int .i64 k,.int .i64 f,.int .u64 c2,.string t2,.bool fk]] w fun e w'=>e = .returned (.agg #[.int .i64 6,.int .i64 0,.int .u64 c,.string t,.bool false])∧Ext w w':=by
 go_enter Tryz.func119,Tryz.ntmps119
 go_wp2
 exact bodyPost_ret (v:=.agg #[.int .i64 6,.int .i64 0,.int .u64 c,.string t,.bool false]) (by simp [results,Tryz.results119,go_sem]) rfl ⟨rfl,(zR.alloc _).alloc _⟩
theorem or_token (r c ph:Int) (t:ByteArray) (k f c2:Int) (t2:ByteArray) (fk:Bool) (w:World) :
 Calls Tryz.prog 153 #[.agg #[.int .i64 r,.int .u64 c,.string t,.int .i64 ph,.int .i64 k,.int .i64 f,.int .u64 c2,.string t2,.bool fk]] w fun e w'=>e = .returned (.agg #[.int .i64 5,.int .i64 0,.int .u64 c,.string { data:=#[] },.bool false])∧Ext w w':=by
 go_enter Tryz.func153,Tryz.ntmps153
 go_wp2
 exact bodyPost_ret (v:=.agg #[.int .i64 5,.int .i64 0,.int .u64 c,.string { data:=#[] },.bool false]) (by simp [results,Tryz.results153,go_sem]) rfl ⟨rfl,(zR.alloc _).alloc _⟩
def chk6 (c:Int) (t:ByteArray) (k f c2:Int) (t2:ByteArray) (fk:Bool):Bool:=
 lEq k f c2 t2 fk 2 1 c t false || lEq k f c2 t2 fk 6 0 c t false
theorem or_check6 (c:Int) (t:ByteArray) (k f c2:Int) (t2:ByteArray) (fk:Bool) (w:World) (ht:(t.size:Int)≤64) :
 Calls Tryz.prog 87 #[.agg #[.int .i64 0,.int .u64 c,.string t,.int .i64 6,.int .i64 k,.int .i64 f,.int .u64 c2,.string t2,.bool fk]] w fun e w'=>e = .returned (.bool (chk6 c t k f c2 t2 fk))∧Ext w w':=by
 unfold chk6
 rcases h:lEq k f c2 t2 fk 2 1 c t false
 all_goals
  go_enter Tryz.func87,Tryz.ntmps87
  go_wp2_with fail
  refine wp_region_ext (by kernel_rfl) (by kernel_rfl) ?_
  repeat (go_big_quiet_step ((first|(go_at_call 118;exact calls_ext (or_signature _ _ _ _ _ _ _ _ _ _ _))|(go_at_call 119;exact calls_ext (or_instead _ _ _ _ _ _ _ _ _ _)))))
  refine wpQuiet_nil ?_
  intro _ hx
  obtain ⟨x,rfl⟩:=hx
  go_wp2
  go_ret
  exact ⟨by simp,(zR.alloc _).val x⟩
def chk (r c:Int) (t:ByteArray) (ph k f c2:Int) (t2:ByteArray) (fk:Bool):Bool:=
 if r=0∧t.size≤64 then
  if ph=6 then chk6 c t k f c2 t2 fk
  else if ph=0 then t.toList.isEmpty && lEq k f c2 t2 fk 0 0 0 { data:=#[] } false
  else if ph=2∨ph=3∨ph=4∨ph=5∨ph=7 then lEq k f c2 t2 fk 0 0 0 { data:=#[] } false
  else false
 else false
theorem or_check (r c:Int) (t:ByteArray) (ph k f c2:Int) (t2:ByteArray) (fk:Bool) (w:World) :
 Calls Tryz.prog 87 #[.agg #[.int .i64 r,.int .u64 c,.string t,.int .i64 ph,.int .i64 k,.int .i64 f,.int .u64 c2,.string t2,.bool fk]] w fun e w'=>e = .returned (.bool (chk r c t ph k f c2 t2 fk))∧Ext w w':=by
 by_cases h0:r=0∧t.size≤64
 ·obtain ⟨rfl,h1⟩:=h0
  by_cases h6:ph=6
  ·subst h6
   have:=or_check6 c t k f c2 t2 fk w (by omega)
   simpa [chk,h1] using this
  ·go_enter Tryz.func87,Tryz.ntmps87
   go_wp2
   all_goals (go_ret;exact ⟨ret_bool (by go_light;simp_all [chk]),zR.alloc _⟩)
 ·have e:chk r c t ph k f c2 t2 fk=false:=by unfold chk;rw [if_neg h0]
  rw [e]
  clear e
  have h1 : ¬(r=0∧(t.size:Int)≤64):=by omega
  go_enter Tryz.func87,Tryz.ntmps87
  go_wp2
  all_goals first|(go_light;omega)|(go_ret;exact ⟨rfl,zR.alloc _⟩)
end Go.Proofs.YtlnmhocehgmbbaaGreatDoor

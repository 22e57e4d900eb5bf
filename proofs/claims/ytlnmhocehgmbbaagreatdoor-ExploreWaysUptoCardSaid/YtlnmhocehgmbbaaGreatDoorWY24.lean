/- No condition. -/
import Derived.Test.YtlnmhocehgmbbaaGreatDoorWY3
import Derived.Test.YtlnmhocehgmbbaaGreatDoorWY4
import Derived.Test.YtlnmhocehgmbbaaGreatDoorWY17
import Derived.Test.YtlnmhocehgmbbaaGreatDoorWY22
import Derived.Test.YtlnmhocehgmbbaaGreatDoorWY23
import Derived.Deep.Light
set_option linter.all false
set_option maxRecDepth 100000
set_option maxHeartbeats 3200000
namespace Go.Proofs.YtlnmhocehgmbbaaGreatDoor
def Grow (b h:List Lt):Prop:=∃ N,h=b++N∧N.Nodup∧∀ l∈N,l∉b
theorem Grow.refl (b:List Lt):Grow b b:=⟨[],by simp,List.nodup_nil,fun _ h=>by cases h⟩
theorem Grow.hear {b h:List Lt} (g:Grow b h) (lost:Bool) (l:Lt):Grow b (hearS h lost l):=by
 obtain ⟨N,rfl,hn,hd⟩:=g
 unfold hearS
 split
 ·exact ⟨N,rfl,hn,hd⟩
 ·rename_i hc
  have h1:l∉b++N:=fun h=>hc (.inr h)
  rw [List.mem_append,not_or] at h1
  refine ⟨N++[l],by rw [List.append_assoc],?_,fun z hz=>?_⟩
  ·rw [List.nodup_append]
   refine ⟨hn,by simp,fun a ha c hc e=>?_⟩
   rw [List.mem_singleton] at hc
   subst hc;subst e
   exact h1.2 ha
  ·rcases List.mem_append.1 hz with hz|hz
   ·exact hd z hz
   ·rw [List.mem_singleton] at hz
    rw [hz];exact h1.1
theorem Grow.hears {b:List Lt} (lost:Bool) : ∀ (ls:List Lt) {h:List Lt},Grow b h→Grow b (hearsS h lost ls)
 | [],_,g=>g
 | l::ls,_,g=>by
  show Grow b (hearsS (hearS _ lost l) lost ls)
  exact Grow.hears lost ls (g.hear lost l)
theorem Grow.step {b:List Lt} {x:Ex} (g:Grow b x.h) (m:Mv):Grow b (stepX x m).1.h:=by
 unfold stepX
 split
 ·split
  ·show Grow b (askX x m).h
   unfold askX
   split
   ·exact g.hear _ _
   ·exact g
  ·exact g
 split
 ·exact g
 split
 ·split
  ·show Grow b (if m.who=0 then { x with b0:=true } else { x with b1:=true }).h
   split<;>exact g
  split
  ·split
   ·exact g
   ·show Grow b (partyX x m).h
    unfold partyX
    split<;>exact g.hears _ _
  ·exact g
 ·exact g
theorem Grow.perm {b h h':List Lt} (g:Grow b h) (g':Grow b h') (h1 : ∀ l∈h,l∈h') (h2 : ∀ l∈h',l∈h):h.Perm h':=by
 obtain ⟨N,rfl,hn,hd⟩:=g
 obtain ⟨M,rfl,hm,he⟩:=g'
 refine List.Perm.append_left b (List.perm_iff_count.2 fun a=>?_)
 rw [hn.count,hm.count]
 have:a∈N↔a∈M:=⟨fun h=>(List.mem_append.1 (h1 a (List.mem_append_right _ h))).elim (fun k=>absurd k (hd a h)) id,fun h=>(List.mem_append.1 (h2 a (List.mem_append_right _ h))).elim (fun k=>absurd k (he a h)) id⟩
 simp only [this]
theorem DocP.same {b:List Lt} {x y:Ex} (h:DocP x y) (g:Grow b x.h) (g':Grow b y.h):SameP x y:=⟨h.c,h.s0,h.s1,h.v,h.b0,h.b1,h.full,g.perm g' h.l h.r⟩
theorem sameD_grow {b:List Lt} {x y:Ex} (g:Grow b x.h) (g':Grow b y.h):sameD x y=sameX x y:=by
 unfold sameD sameX
 rw [decide_eq_decide]
 exact ⟨fun h=>h.same g g',fun h=>h.doc⟩
theorem sameD_step (x:Ex) (m:Mv):sameD x (stepX x m).1=sameX x (stepX x m).1:=sameD_grow (Grow.refl _) ((Grow.refl _).step m)
def tryS (x:Ex) (l:List Mv) (m:Mv):List Mv:=
 if m∈l then l
 else if (stepX x m).2=false∨sameX x (stepX x m).1=true then l
 else if x.h.length<(stepX x m).1.h.length∧sameX x (stepX x (lostM m)).1=false then l++[m]++[lostM m] else l++[m]
theorem step_ok (x:Ex) (m:Mv):(stepX x m).2=if m.k=4 then canS x m.l else if m.k=6 then true else if m.who=0∨m.who=1 then if m.k=5 then true else if m.k=1∨m.k=3∨(m.k=2∧canS x m.l=true) then !x.bad m.who else false else false:=by
 unfold stepX
 split
 ·cases h:canS x m.l<;>rfl
 split
 ·rfl
 split
 ·split
  ·rfl
  split
  ·cases h:x.bad m.who<;>rfl
  ·rfl
 ·rfl
theorem lost_ok (x:Ex) (m:Mv):(stepX x (lostM m)).2=(stepX x m).2:=by
 rw [step_ok,step_ok]
 rfl
def Both (x:Ex) (l:List Mv):Prop:=∀ m:Mv,m.lost=false→(lostM m∈l→m∈l)∧(m∈l→growsS x m=true→elseM x (lostM m)→lostM m∈l)
theorem Both.nil (x:Ex):Both x []:=fun _ _=>⟨fun h=>(by cases h),fun h=>(by cases h)⟩
theorem lostM_ne {m:Mv} (h:m.lost=false):lostM m≠m:=fun e=>by
 have:(lostM m).lost=m.lost:=by rw [e]
 rw [h] at this
 cases this
theorem lostM_inj {m n:Mv} (hm:m.lost=false) (hn:n.lost=false) (h:lostM m=lostM n):m=n:=by
 obtain ⟨a,b,c,d,e⟩:=m
 obtain ⟨a',b',c',d',e'⟩:=n
 simp only [lostM,Mv.mk.injEq] at h hm hn ⊢
 exact ⟨h.1,h.2.1,h.2.2.1,h.2.2.2.1,by rw [hm,hn]⟩
theorem same_len {x y:Ex} (h:sameX x y=true):x.h.length=y.h.length:=(of_decide_eq_true h:SameP x y).h.length_eq
theorem try_lay {x:Ex} {l:List Mv} {m:Mv} (hb:Both x l) (hm:m.lost=false):tryS x l m=lay2 x l m∧Both x (tryS x l m):=by
 have hl:(lostM m).lost≠false:=fun h=>(by cases h)
 by_cases h1:m∈l
 ·have e:tryS x l m=l:=by unfold tryS;rw [if_pos h1]
  refine ⟨?_,e.symm ▸ hb⟩
  have e1:layS x l m=l:=by unfold layS;rw [if_neg fun h=>h.2.2 h1]
  rw [e]
  unfold lay2
  rw [e1]
  split
  ·rename_i hg
   unfold layS
   rw [if_neg]
   intro h
   exact h.2.2 ((hb m hm).2 h1 hg ⟨h.1,h.2.1⟩)
  ·rfl
 by_cases h2:(stepX x m).2=false∨sameX x (stepX x m).1=true
 ·have e:tryS x l m=l:=by unfold tryS;rw [if_neg h1,if_pos h2]
  refine ⟨?_,e.symm ▸ hb⟩
  have e1:layS x l m=l:=by
   unfold layS
   rw [if_neg]
   intro h
   rcases h2 with h2|h2
   ·rw [h2] at h;cases h.1
   ·rw [h2] at h;cases h.2.1
  have e2:growsS x m=false:=by
   unfold growsS
   rcases h2 with h2|h2
   ·rw [h2];rfl
   ·rw [decide_eq_false (by have:=same_len h2;omega),Bool.and_false]
  rw [e]
  unfold lay2
  rw [if_neg (by rw [e2];simp),e1]
 have h2':(stepX x m).2=true∧sameX x (stepX x m).1=false:=by
  rw [not_or] at h2
  exact ⟨by simpa using h2.1,by simpa using h2.2⟩
 have e1:layS x l m=l++[m]:=by unfold layS;rw [if_pos ⟨h2'.1,h2'.2,h1⟩]
 have hnl:lostM m∉l++[m]:=fun h=>by
  rcases List.mem_append.1 h with h|h
  ·exact h1 ((hb m hm).1 h)
  ·exact lostM_ne hm (List.mem_singleton.1 h)
 by_cases h3:x.h.length<(stepX x m).1.h.length∧sameX x (stepX x (lostM m)).1=false
 ·have e:tryS x l m=l++[m]++[lostM m]:=by unfold tryS;rw [if_neg h1,if_neg h2,if_pos h3]
  have hg:growsS x m=true:=by unfold growsS;rw [h2'.1,decide_eq_true h3.1];rfl
  refine ⟨?_,?_⟩
  ·rw [e]
   unfold lay2
   rw [if_pos hg,e1]
   unfold layS
   rw [if_pos ⟨by rw [lost_ok];exact h2'.1,h3.2,hnl⟩]
  ·rw [e]
   intro n hn
   have hne:n≠lostM m:=fun h=>hl (h ▸ hn)
   simp only [List.mem_append,List.mem_singleton]
   refine ⟨fun h=>?_,fun h hgn hen=>?_⟩
   ·rcases h with (h|h)|h
    ·exact .inl (.inl ((hb n hn).1 h))
    ·exact absurd (h ▸ hm) (by simp [lostM])
    ·exact .inl (.inr (lostM_inj hn hm h))
   ·rcases h with (h|h)|h
    ·exact .inl (.inl ((hb n hn).2 h hgn hen))
    ·exact .inr (by rw [h])
    ·exact absurd h hne
 ·have e:tryS x l m=l++[m]:=by unfold tryS;rw [if_neg h1,if_neg h2,if_neg h3]
  refine ⟨?_,?_⟩
  ·rw [e]
   unfold lay2
   rw [e1]
   split
   ·rename_i hg
    unfold layS
    rw [if_neg]
    intro h
    refine h3 ⟨?_,h.2.1⟩
    unfold growsS at hg
    simp only [Bool.and_eq_true,decide_eq_true_eq] at hg
    exact hg.2
   ·rfl
  ·rw [e]
   intro n hn
   simp only [List.mem_append,List.mem_singleton]
   refine ⟨fun h=>?_,fun h hgn hen=>?_⟩
   ·rcases h with h|h
    ·exact .inl ((hb n hn).1 h)
    ·exact absurd (h ▸ hm) (by simp [lostM])
   ·rcases h with h|h
    ·exact .inl ((hb n hn).2 h hgn hen)
    ·subst h
     exfalso
     refine h3 ⟨?_,hen.2⟩
     unfold growsS at hgn
     simp only [Bool.and_eq_true,decide_eq_true_eq] at hgn
     exact hgn.2
theorem try_fold (x:Ex) : ∀ (c l:List Mv),Both x l→(∀ m∈c,m.lost=false)→c.foldl (tryS x) l=c.foldl (lay2 x) l∧Both x (c.foldl (tryS x) l)
 | [],l,hb,_=>⟨rfl,hb⟩
 | m::c,l,hb,hc=>by
  obtain ⟨h1,h2⟩:=try_lay hb (hc m (.head _))
  rw [List.foldl_cons,List.foldl_cons,←h1]
  exact try_fold x c _ h2 fun z hz=>hc z (.tail _ hz)
def tryP (evs:St→List Ev) (x:Ex) (T:List ByteArray) (who:Int):List Mv:=T.map (startM who)++(linesS evs x who).map (takeM who)++[tickM who]
def tryL (evs:St→List Ev) (x:Ex) (T:List ByteArray):List Mv:=tryP evs x T 0++tryP evs x T 1++[askA x.c]++(T.map (askR x.c 0)++T.map (askR x.c 1))++[⟨5,0,{ data:=#[] },l0,false⟩,⟨5,1,{ data:=#[] },l0,false⟩]
theorem try_no {x:Ex} {l:List Mv} {m:Mv} (h:(stepX x m).2=false):tryS x l m=l:=by
 unfold tryS
 split
 ·rfl
 ·rw [if_pos (.inl h)]
theorem try_noS {x:Ex} : ∀ (c l:List Mv),(∀ m∈c,(stepX x m).2=false)→c.foldl (tryS x) l=l
 | [],_,_=>rfl
 | m::c,l,h=>by
  rw [List.foldl_cons,try_no (h m (.head _))]
  exact try_noS c l fun z hz=>h z (.tail _ hz)
theorem bad_no {x:Ex} {m:Mv} (hk:m.k=1∨m.k=2∨m.k=3) (hb:x.bad m.who=true):(stepX x m).2=false:=by
 unfold stepX
 rw [if_neg (by omega),if_neg (by omega)]
 split
 ·rw [if_neg (by omega)]
  split<;>rfl
 ·rfl
theorem tryP_mem {evs:St→List Ev} {x:Ex} {T:List ByteArray} {who:Int} {m:Mv} (h:m∈tryP evs x T who):(m.k=1∨m.k=2∨m.k=3)∧m.who=who∧m.lost=false:=by
 unfold tryP at h
 simp only [List.mem_append,List.mem_map,List.mem_singleton] at h
 rcases h with (⟨t,_,rfl⟩|⟨t,_,rfl⟩)|rfl<;>simp [startM,takeM,tickM]
theorem tryP_fold (evs:St→List Ev) (x:Ex) (T:List ByteArray) (who:Int) (l:List Mv):(tryP evs x T who).foldl (tryS x) l=(candP evs x T who).foldl (tryS x) l:=by
 cases h:x.bad who
 ·rw [candP_yes h];rfl
 ·rw [candP_no h]
  refine try_noS _ _ fun m hm=>?_
  obtain ⟨h1,h2,_⟩:=tryP_mem hm
  exact bad_no h1 (h2 ▸ h)
theorem cand_lost {evs:St→List Ev} {x:Ex} {T:List ByteArray} {m:Mv} (h:m∈candS evs x T):m.lost=false:=by
 have hp : ∀ who,m∈candP evs x T who→m.lost=false:=fun who hw=>by
  cases hb:x.bad who
  ·rw [candP_yes hb] at hw
   exact (tryP_mem (evs:=evs) (x:=x) hw).2.2
  ·rw [candP_no hb] at hw
   cases hw
 unfold candS at h
 simp only [List.mem_append,List.mem_map,List.mem_singleton,List.mem_cons,List.not_mem_nil,or_false] at h
 rcases h with ((((h|h)|rfl)|(⟨t,_,rfl⟩|⟨t,_,rfl⟩))|(rfl|rfl))
 ·exact hp _ h
 ·exact hp _ h
 all_goals rfl
theorem moves_doc (evs:St→List Ev) (x:Ex) (T:List ByteArray):(tryL evs x T).foldl (tryS x) []=movesS evs x T:=by
 have e:(tryL evs x T).foldl (tryS x) []=(candS evs x T).foldl (tryS x) []:=by
  unfold tryL candS
  simp only [List.foldl_append,tryP_fold]
  rfl
 rw [e,(try_fold x _ [] (Both.nil x) fun m hm=>cand_lost hm).1]
 rfl
theorem tryS_len (x:Ex) (l:List Mv) (m:Mv):(tryS x l m).length≤l.length+2:=by
 unfold tryS
 split
 ·omega
 split
 ·omega
 split
 ·simp
 ·simp
end Go.Proofs.YtlnmhocehgmbbaaGreatDoor
namespace Go.Proofs.YtlnmhocehgmbbaaGreatDoor
open Go.RowKit
attribute [local go_sem ↓] eql_lEq eql_sEq eql_eEq eql_oEq neq_lEq neq_sEq neq_eEq neq_oEq
attribute [local go_sem] ExtOf.cell ExtOf.frozen ExtOf.lt ExtOf.le
attribute [local go_sem high] ExtOf.cell2 ExtOf.frozen2 ExtOf.lt2 ExtOf.cell3 ExtOf.frozen3 ExtOf.lt3
theorem nil_iff (t:ByteArray):t.toList=[]↔t = { data:=#[] }:=by
 rw [←toList_eq_iff]
 simp [ByteArray.toList_eq]
def sgnB (k:Int):Bool:=k == 1 || k == 2 || k == 4
def txtB (k:Int):Bool:=sgnB k || k == 6
theorem rl_signed (k:Int) (w:World):Calls Tryz.prog 99 #[.int .i64 k] w fun e w'=>e = .returned (.bool (sgnB k))∧Ext w w':=by
 go_enter Tryz.func99,Tryz.ntmps99
 go_wp2_with fail
 all_goals
  go_ret
  refine ⟨?_,zR⟩
  simp_all [sgnB]
theorem rl_texted (k:Int) (w:World):Calls Tryz.prog 100 #[.int .i64 k] w fun e w'=>e = .returned (.bool (txtB k))∧Ext w w':=by
 go_enter Tryz.func100,Tryz.ntmps100
 go_wp2_with (go_at_call 99;refine (rl_signed _ _).mono ?_;rintro e w1 ⟨rfl,hx⟩)
 all_goals
  go_ret
  refine ⟨?_,hx⟩
  simp_all [txtB]
theorem rl_check (k f c:Int) (t:ByteArray) (b:Bool) (w:World):Calls Tryz.prog 73 #[.agg #[.int .i64 k,.int .i64 f,.int .u64 c,.string t,.bool b]] w fun e w'=>e = .returned (.int .i64 (lchk ⟨k,f,c,t,b⟩))∧Ext w w':=by
 go_enter Tryz.func73,Tryz.ntmps73
 go_upto_region 1 with fail
 refine wp_forget (fun w'=>∃ g,Hid (g=w.heap.size)∧Hid (w'.heap[g]?=some (.cells #[.int .i64 k,.int .i64 f,.int .u64 c,.string t,.bool b] 24 (0,0)))∧Hid (Ext w w')) ⟨_,zd rfl,zd (one_new zR).1,zd (one_new zR).2⟩ ?_
 rintro W1 ⟨g,hg,H1,HE1⟩
 rw [←hg.out]
 clear hg
 have q1:=zQ H1.out
 have l1:g<W1.heap.size:=zL H1.out
 go_wp2_with (first|(go_at_call 99;refine (rl_signed _ _).mono ?_;rintro e w2 ⟨rfl,hx2⟩;have H2:=zd (heap_ext H1.out hx2);have HE2:=zd (HE1.out.trans hx2);clear q1 l1 hx2;have q2:=zQ H2.out;have l2:g<w2.heap.size:=(zL H2.out))|(go_at_call 100;refine (rl_texted _ _).mono ?_;rintro e w3 ⟨rfl,hx3⟩;have H3:=zd (heap_ext H2.out hx3);have HE3:=zd (HE2.out.trans hx3);clear q2 l2 hx3;have q3:=zQ H3.out;have l3:g<w3.heap.size:=(zL H3.out)))
 all_goals
  go_ret
  refine ⟨?_,by first|exact HE3.out|exact HE2.out|exact HE1.out⟩
  refine congrArg (fun n=>Ending.returned (Value.int .i64 n)) ?_
  try simp only [sgnB,txtB,Bool.or_eq_true,beq_iff_eq,Bool.or_eq_false_iff,bne_iff_ne,ne_eq,beq_eq_false_iff_ne,bne_eq_false_iff_eq] at *
  unfold lchk
  simp only
  repeat' split
  all_goals (first|rfl|omega|(simp_all [nil_iff];done)|(simp_all [nil_iff];omega))
theorem rb_proves (r c:Int) (t:ByteArray) (ph k f c2:Int) (t2:ByteArray) (fk:Bool) (n:Int) (w:World):Calls Tryz.prog 125 #[.agg #[.int .i64 r,.int .u64 c,.string t,.int .i64 ph,.int .i64 k,.int .i64 f,.int .u64 c2,.string t2,.bool fk],.int .i64 n] w fun e w'=>e = .returned (.bool (lEq k f c2 t2 fk 2 n c t false || lEq k f c2 t2 fk 6 0 c t false))∧Ext w w':=by
 rcases h1:lEq k f c2 t2 fk 2 n c t false<;>rcases h2:lEq k f c2 t2 fk 6 0 c t false
 all_goals
  go_enter Tryz.func125,Tryz.ntmps125
  go_wp2_with fail
  go_ret
  exact ⟨rfl,(zR.alloc _).alloc _⟩
theorem emptyB (t:ByteArray):t.toList.isEmpty=decide (t = { data:=#[] }):=by
 rw [Bool.eq_iff_iff]
 simp [nil_iff]
theorem rb_check (r c:Int) (t:ByteArray) (ph k f c2:Int) (t2:ByteArray) (fk:Bool) (w:World):Calls Tryz.prog 95 #[.agg #[.int .i64 r,.int .u64 c,.string t,.int .i64 ph,.int .i64 k,.int .i64 f,.int .u64 c2,.string t2,.bool fk]] w fun e w'=>e = .returned (.bool (chkA ⟨r,c,t,ph,⟨k,f,c2,t2,fk⟩⟩))∧Ext w w':=by
 obtain ⟨n,hn⟩ : ∃ n,chkA ⟨r,c,t,ph,⟨k,f,c2,t2,fk⟩⟩=n:=⟨_,rfl⟩
 rw [hn]
 have HN:=zd hn
 clear hn
 rcases hp0:lEq k f c2 t2 fk 0 0 0 { data:=#[] } false
 all_goals
  have HP0:=zd hp0
  go_enter Tryz.func95,Tryz.ntmps95
  go_wp2_with (go_at_call 125;refine (rb_proves _ _ _ _ _ _ _ _ _ _ _).mono ?_;rintro e w2 ⟨rfl,hx2⟩)
  all_goals
   go_ret
   refine ⟨?_,by first|exact (zR.alloc _).trans hx2|exact zR.alloc _⟩
   refine congrArg (fun n=>Ending.returned (Value.bool n)) ?_
   rw [←HN.out]
   unfold chkA
   have e0:decide ((⟨k,f,c2,t2,fk⟩:Lt)=l0)=lEq k f c2 t2 fk 0 0 0 { data:=#[] } false:=(lEq_lt ⟨k,f,c2,t2,fk⟩ l0).symm
   have e1:decide ((⟨k,f,c2,t2,fk⟩:Lt)=sgS c t 0)=lEq k f c2 t2 fk 2 0 c t false:=(lEq_lt ⟨k,f,c2,t2,fk⟩ (sgS c t 0)).symm
   have e2:decide ((⟨k,f,c2,t2,fk⟩:Lt)=inS c t)=lEq k f c2 t2 fk 6 0 c t false:=(lEq_lt ⟨k,f,c2,t2,fk⟩ (inS c t)).symm
   simp only [e0,e1,e2,HP0.out]
   clear e0 e1 e2
   repeat' split
   all_goals (first|(simp_all [nil_iff,List.isEmpty_iff];done)|(simp_all [nil_iff,List.isEmpty_iff];omega)|(simp only [emptyB,Bool.not_eq_true',Bool.not_eq_false',decide_eq_true_eq,decide_eq_false_iff_not] at *;by_cases ht:t = { data:=#[] }<;>by_cases hz:t.size≤64<;>simp_all<;>omega)|trace_state)
theorem rb_fits (r c:Int) (t:ByteArray) (ph k f c2:Int) (t2:ByteArray) (fk:Bool) (lk lf lc:Int) (lt:ByteArray) (lb:Bool) (n:Int) (w:World):Calls Tryz.prog 105 #[.agg #[.int .i64 r,.int .u64 c,.string t,.int .i64 ph,.int .i64 k,.int .i64 f,.int .u64 c2,.string t2,.bool fk],.agg #[.int .i64 lk,.int .i64 lf,.int .u64 lc,.string lt,.bool lb],.int .i64 n] w fun e w'=>e = .returned (.bool (lEq lk lf lc lt lb n 0 c (if n=5 then { data:=#[] } else t) false))∧Ext w w':=by
 by_cases h5:n=5
 ·subst h5
  rw [if_pos rfl]
  rcases h1:lEq lk lf lc lt lb 5 0 c { data:=#[] } false
  all_goals
   go_enter Tryz.func105,Tryz.ntmps105
   go_wp2_with fail
   go_ret
   exact ⟨rfl,((zR.alloc _).alloc _).alloc _⟩
 ·rw [if_neg h5]
  rcases h1:lEq lk lf lc lt lb n 0 c t false
  all_goals
   go_enter Tryz.func105,Tryz.ntmps105
   go_wp2_with fail
   go_ret
   exact ⟨rfl,by repeat (first|exact zR|apply Ext.alloc|(refine Ext.setCell ?_ (by simp) _))⟩
structure RwB where
 i:Int
 tick:Bool
 k:Int
 nx:Int
 s:Int
def RwB.cs (x:RwB):List Value:=[.int .i64 x.i,.bool x.tick,.int .i64 x.k,.int .i64 x.nx,.int .i64 x.s]
def tblB:List RwB:=[⟨1,false,1,2,1⟩,⟨1,true,0,7,0⟩,⟨2,false,1,2,1⟩,⟨2,false,2,6,2⟩,⟨5,false,2,6,2⟩,⟨2,true,0,5,4⟩,⟨5,true,0,5,4⟩,⟨5,false,6,6,0⟩,⟨5,false,5,7,0⟩,⟨6,false,2,6,2⟩]
theorem rb_table (w:World):Calls Tryz.prog 104 #[] w (Made w 157 5 tblB.length (tblB.flatMap RwB.cs)):=by
 go_enter Tryz.func104,Tryz.ntmps104
 go_wp2_with fail
 go_ret
 exact ⟨_,rfl,own_new zR rfl (by decide) rfl rfl,zR.alloc _⟩
theorem lchk_to {k c:Int} {t:ByteArray} (hk:k=1∨k=2∨k=4) (ht:t.size≤64):lchk ⟨k,1,c,t,false⟩=0:=lchk_ok (by omega) (.inr rfl) ht
theorem rl_to (k c:Int) (t:ByteArray) (hk:k=1∨k=2∨k=4) (ht:t.size≤64) (w:World):Calls Tryz.prog 106 #[.agg #[.int .i64 k,.int .i64 1,.int .u64 c,.string t,.bool false]] w fun e w'=>e = .returned (.int .i64 (if k=4 then 2 else 0))∧Ext w w':=by
 have h0:=lchk_to (c:=c) hk ht
 rcases hk with rfl|rfl|rfl
 all_goals
  go_enter Tryz.func106,Tryz.ntmps106
  go_upto_region 1 with fail
  refine wp_forget (fun w'=>∃ g,Hid (g=w.heap.size)∧Hid (w'.heap[g]?=some (.cells #[.int .i64 _,.int .i64 1,.int .u64 c,.string t,.bool false] 24 (0,0)))∧Hid (Ext w w')) ⟨_,zd rfl,zd (one_new zR).1,zd (one_new zR).2⟩ ?_
  rintro W1 ⟨g,hg,H1,HE1⟩
  rw [←hg.out]
  clear hg
  have q1:=zQ H1.out
  have l1:g<W1.heap.size:=zL H1.out
  go_wp2_with (go_at_call 73;refine (rl_check _ _ _ _ _ _).mono ?_;rw [h0];rintro e w2 ⟨rfl,hx2⟩;have H2:=heap_ext H1.out hx2;have q2:=zQ H2;have l2:g<w2.heap.size:=(zL H2);clear q1 l1 H2)
  go_ret
  exact ⟨rfl,HE1.out.trans hx2⟩
end Go.Proofs.YtlnmhocehgmbbaaGreatDoor
namespace Go.Proofs.YtlnmhocehgmbbaaGreatDoor
open Go.RowKit
attribute [local go_sem ↓] eql_lEq eql_sEq eql_eEq eql_oEq neq_lEq neq_sEq neq_eEq neq_oEq
attribute [local go_sem] ExtOf.cell ExtOf.frozen ExtOf.lt ExtOf.le
attribute [local go_sem high] ExtOf.cell2 ExtOf.frozen2 ExtOf.lt2 ExtOf.cell3 ExtOf.frozen3 ExtOf.lt3 ExtOf.cellB ExtOf.frozenB ExtOf.cellX ExtOf.frozenX ExtOf.cellX' ExtOf.frozenX'
attribute [local go_sem] BelOf.cell BelOf.frozen BelOf.lt
theorem rf_promise (r c:Int) (t:ByteArray) (ph k f c2:Int) (t2:ByteArray) (fk:Bool) (n:Int) (w:World) :
 Calls Tryz.prog 101 #[.agg #[.int .i64 r,.int .u64 c,.string t,.int .i64 ph,.int .i64 k,.int .i64 f,.int .u64 c2,.string t2,.bool fk],.int .i64 n] w fun e w'=>e = .returned (.agg #[.int .i64 1,.int .i64 n,.int .u64 c,.string t,.bool false])∧Ext w w':=by
 go_enter Tryz.func101,Tryz.ntmps101
 go_wp2
 exact bodyPost_ret (v:=.agg #[.int .i64 1,.int .i64 n,.int .u64 c,.string t,.bool false]) (by simp [results,Tryz.results101,go_sem]) rfl ⟨rfl,(zR.alloc _).alloc _⟩
theorem rf_signature (r c:Int) (t:ByteArray) (ph k f c2:Int) (t2:ByteArray) (fk:Bool) (n:Int) (w:World) :
 Calls Tryz.prog 123 #[.agg #[.int .i64 r,.int .u64 c,.string t,.int .i64 ph,.int .i64 k,.int .i64 f,.int .u64 c2,.string t2,.bool fk],.int .i64 n] w fun e w'=>e = .returned (.agg #[.int .i64 2,.int .i64 n,.int .u64 c,.string t,.bool false])∧Ext w w':=by
 go_enter Tryz.func123,Tryz.ntmps123
 go_wp2
 exact bodyPost_ret (v:=.agg #[.int .i64 2,.int .i64 n,.int .u64 c,.string t,.bool false]) (by simp [results,Tryz.results123,go_sem]) rfl ⟨rfl,(zR.alloc _).alloc _⟩
theorem rf_instead (r c:Int) (t:ByteArray) (ph k f c2:Int) (t2:ByteArray) (fk:Bool) (w:World) :
 Calls Tryz.prog 124 #[.agg #[.int .i64 r,.int .u64 c,.string t,.int .i64 ph,.int .i64 k,.int .i64 f,.int .u64 c2,.string t2,.bool fk]] w fun e w'=>e = .returned (.agg #[.int .i64 6,.int .i64 0,.int .u64 c,.string t,.bool false])∧Ext w w':=by
 go_enter Tryz.func124,Tryz.ntmps124
 go_wp2
 exact bodyPost_ret (v:=.agg #[.int .i64 6,.int .i64 0,.int .u64 c,.string t,.bool false]) (by simp [results,Tryz.results124,go_sem]) rfl ⟨rfl,(zR.alloc _).alloc _⟩
theorem rf_token (r c:Int) (t:ByteArray) (ph k f c2:Int) (t2:ByteArray) (fk:Bool) (w:World) :
 Calls Tryz.prog 136 #[.agg #[.int .i64 r,.int .u64 c,.string t,.int .i64 ph,.int .i64 k,.int .i64 f,.int .u64 c2,.string t2,.bool fk]] w fun e w'=>e = .returned (.agg #[.int .i64 5,.int .i64 0,.int .u64 c,.string { data:=#[] },.bool false])∧Ext w w':=by
 go_enter Tryz.func136,Tryz.ntmps136
 go_wp2
 exact bodyPost_ret (v:=.agg #[.int .i64 5,.int .i64 0,.int .u64 c,.string { data:=#[] },.bool false]) (by simp [results,Tryz.results136,go_sem]) rfl ⟨rfl,(zR.alloc _).alloc _⟩
theorem rf_abort (r c:Int) (t:ByteArray) (ph k f c2:Int) (t2:ByteArray) (fk:Bool) (w:World) :
 Calls Tryz.prog 134 #[.agg #[.int .i64 r,.int .u64 c,.string t,.int .i64 ph,.int .i64 k,.int .i64 f,.int .u64 c2,.string t2,.bool fk]] w (Made w 126 6 1 (Ou.cs ⟨2,abS c⟩)):=by
 go_enter Tryz.func134,Tryz.ntmps134
 go_wp2
 go_ret
 exact ⟨_,rfl,own_new (zR.alloc _) (by simp) (by decide) rfl rfl,(zR.alloc _).alloc _⟩
theorem rf_resolve (r c:Int) (t:ByteArray) (ph k f c2:Int) (t2:ByteArray) (fk:Bool) (w:World) :
 Calls Tryz.prog 135 #[.agg #[.int .i64 r,.int .u64 c,.string t,.int .i64 ph,.int .i64 k,.int .i64 f,.int .u64 c2,.string t2,.bool fk]] w (Made w 126 6 1 (Ou.cs ⟨2,rsS c t⟩)):=by
 go_enter Tryz.func135,Tryz.ntmps135
 go_wp2
 go_ret
 exact ⟨_,rfl,own_new (zR.alloc _) (by simp) (by decide) rfl rfl,(zR.alloc _).alloc _⟩
theorem rf_letter (k f c:Int) (t:ByteArray) (b:Bool) (w:World) :
 Calls Tryz.prog 133 #[.agg #[.int .i64 k,.int .i64 f,.int .u64 c,.string t,.bool b]] w fun e w'=>e = .returned (.agg #[.int .i64 2,.int .u64 0,.string { data:=#[] },.int .i64 k,.int .i64 f,.int .u64 c,.string t,.bool b])∧Ext w w':=by
 go_enter Tryz.func133,Tryz.ntmps133
 go_wp2
 exact bodyPost_ret (v:=.agg #[.int .i64 2,.int .u64 0,.string { data:=#[] },.int .i64 k,.int .i64 f,.int .u64 c,.string t,.bool b]) (by simp [results,Tryz.results133,go_sem]) rfl ⟨rfl,(zR.alloc _).alloc _⟩
def plainS (e:Ev):Ev:=if e.k=2 then ⟨2,0,{ data:=#[] },e.l⟩ else if e.k=3 then ⟨3,e.c,{ data:=#[] },l0⟩ else e
theorem rf_plain (ek ec:Int) (et:ByteArray) (lk lf lc:Int) (lt:ByteArray) (lb:Bool) (w:World) :
 Calls Tryz.prog 103 #[.agg #[.int .i64 ek,.int .u64 ec,.string et,.int .i64 lk,.int .i64 lf,.int .u64 lc,.string lt,.bool lb]] w fun e w'=>e = .returned (.agg #[.int .i64 (plainS ⟨ek,ec,et,⟨lk,lf,lc,lt,lb⟩⟩).k,.int .u64 (plainS ⟨ek,ec,et,⟨lk,lf,lc,lt,lb⟩⟩).c,.string (plainS ⟨ek,ec,et,⟨lk,lf,lc,lt,lb⟩⟩).t,.int .i64 (plainS ⟨ek,ec,et,⟨lk,lf,lc,lt,lb⟩⟩).l.k,.int .i64 (plainS ⟨ek,ec,et,⟨lk,lf,lc,lt,lb⟩⟩).l.f,.int .u64 (plainS ⟨ek,ec,et,⟨lk,lf,lc,lt,lb⟩⟩).l.c,.string (plainS ⟨ek,ec,et,⟨lk,lf,lc,lt,lb⟩⟩).l.t,.bool (plainS ⟨ek,ec,et,⟨lk,lf,lc,lt,lb⟩⟩).l.b])∧Ext w w':=by
 by_cases h2:ek=2
 ·subst h2
  have e:plainS ⟨2,ec,et,⟨lk,lf,lc,lt,lb⟩⟩=⟨2,0,{ data:=#[] },⟨lk,lf,lc,lt,lb⟩⟩:=rfl
  rw [e]
  clear e
  go_enter Tryz.func103,Tryz.ntmps103
  go_wp2
  exact bodyPost_ret (v:=.agg #[.int .i64 2,.int .u64 0,.string { data:=#[] },.int .i64 lk,.int .i64 lf,.int .u64 lc,.string lt,.bool lb]) (by simp [results,Tryz.results103,go_sem]) rfl ⟨rfl,(zR.alloc _).alloc _⟩
 ·by_cases h3:ek=3
  ·subst h3
   have e:plainS ⟨3,ec,et,⟨lk,lf,lc,lt,lb⟩⟩=⟨3,ec,{ data:=#[] },l0⟩:=rfl
   rw [e]
   clear e
   go_enter Tryz.func103,Tryz.ntmps103
   go_wp2
   exact bodyPost_ret (v:=.agg #[.int .i64 3,.int .u64 ec,.string { data:=#[] },.int .i64 0,.int .i64 0,.int .u64 0,.string { data:=#[] },.bool false]) (by simp [results,Tryz.results103,go_sem]) rfl ⟨rfl,(zR.alloc _).alloc _⟩
  ·have e:plainS ⟨ek,ec,et,⟨lk,lf,lc,lt,lb⟩⟩=⟨ek,ec,et,⟨lk,lf,lc,lt,lb⟩⟩:=by unfold plainS;rw [if_neg h2,if_neg h3]
   rw [e]
   have g2:(ek == 2)=false:=by simpa using h2
   have g3:(ek == 3)=false:=by simpa using h3
   clear e h2 h3
   go_enter Tryz.func103,Tryz.ntmps103
   go_wp2
   exact bodyPost_ret (v:=.agg #[.int .i64 ek,.int .u64 ec,.string et,.int .i64 lk,.int .i64 lf,.int .u64 lc,.string lt,.bool lb]) (by simp [results,Tryz.results103,go_sem]) rfl ⟨rfl,(zR.alloc _).alloc _⟩
theorem rf_check6 (c:Int) (t:ByteArray) (k f c2:Int) (t2:ByteArray) (fk:Bool) (w:World) (ht:(t.size:Int)≤64) :
 Calls Tryz.prog 94 #[.agg #[.int .i64 0,.int .u64 c,.string t,.int .i64 6,.int .i64 k,.int .i64 f,.int .u64 c2,.string t2,.bool fk]] w fun e w'=>e = .returned (.bool (chk6 c t k f c2 t2 fk))∧Ext w w':=by
 unfold chk6
 rcases h:lEq k f c2 t2 fk 2 1 c t false
 all_goals
  go_enter Tryz.func94,Tryz.ntmps94
  go_wp2_with fail
  refine wp_region_ext (by kernel_rfl) (by kernel_rfl) ?_
  repeat (go_big_quiet_step ((first|(go_at_call 123;exact calls_ext (rf_signature _ _ _ _ _ _ _ _ _ _ _))|(go_at_call 124;exact calls_ext (rf_instead _ _ _ _ _ _ _ _ _ _)))))
  refine wpQuiet_nil ?_
  intro _ hx
  obtain ⟨x,rfl⟩:=hx
  go_wp2
  go_ret
  exact ⟨by simp,(zR.alloc _).val x⟩
theorem rf_check (r c:Int) (t:ByteArray) (ph k f c2:Int) (t2:ByteArray) (fk:Bool) (w:World) :
 Calls Tryz.prog 94 #[.agg #[.int .i64 r,.int .u64 c,.string t,.int .i64 ph,.int .i64 k,.int .i64 f,.int .u64 c2,.string t2,.bool fk]] w fun e w'=>e = .returned (.bool (chk r c t ph k f c2 t2 fk))∧Ext w w':=by
 by_cases h0:r=0∧t.size≤64
 ·obtain ⟨rfl,h1⟩:=h0
  by_cases h6:ph=6
  ·subst h6
   have:=rf_check6 c t k f c2 t2 fk w (by omega)
   simpa [chk,h1] using this
  ·rcases hL:lEq k f c2 t2 fk 0 0 0 { data:=#[] } false
   all_goals
    go_enter Tryz.func94,Tryz.ntmps94
    go_wp2
    all_goals (go_ret;exact ⟨ret_bool (by go_light;simp_all [chk]),zR.alloc _⟩)
 ·have e:chk r c t ph k f c2 t2 fk=false:=by unfold chk;rw [if_neg h0]
  rw [e]
  clear e
  have h1 : ¬(r=0∧(t.size:Int)≤64):=by omega
  go_enter Tryz.func94,Tryz.ntmps94
  go_wp2
  all_goals first|(go_light;omega)|(go_ret;exact ⟨rfl,zR.alloc _⟩)
end Go.Proofs.YtlnmhocehgmbbaaGreatDoor
namespace Go.Proofs.YtlnmhocehgmbbaaGreatDoor
open Go.RowKit
section
variable {P:Program} {ops:Array Oper} {C:World→Prop}
theorem yields_build {o:Oper} {a:Act} {t:TypeId} {parts:Array (Nat×Operand)} (cells:Array Value) (hg:o.guard=none) (ho:o.op = .build t parts)
 (hf:P.built t (parts.map fun p=>(p.1,a.eval p.2)).toList=some cells):YieldsE P ops C o (.agg cells) a:=by
 refine .inl ⟨by simp [Region.wanted,hg],fun w _=>?_⟩
 unfold Oper.quietAt execOp
 simp only [ho]
 rw [Sem.run_bind]
 have:=run_build w t _ cells hf
 rw [this]
 exact ⟨rfl,rfl⟩
theorem run_callFunc_own {f:FuncId} {fn:Func} (hf:P.funcs[f]?=some fn) (hname:(fn.name == "runtime.NumGoroutine")=false) (hb:fn.body.isNone=false) (args:Array Value) (w:World):(callFunc f args).run P w = .ok (.enter f args) w:=by
 unfold callFunc
 have h1 : ¬fn.name = "runtime.NumGoroutine":=by simpa using hname
 have h2 : ¬fn.body=none:=fun e=>by rw [e] at hb;cases hb
 simp [Sem.run_bind,hf,h1,h2,go_sem]
theorem yields_call {o:Oper} {a:Act} {v:Value} {f:FuncId} {fn:Func} {xs:Array Operand} {ts:Array TypeId} (args:Array Value) (hf:P.funcs[f]?=some fn) (hname:(fn.name == "runtime.NumGoroutine")=false) (hb:fn.body.isNone=false) (hg:o.guard=none)
 (ho:o.op = .call { callee:=.value (.func f),args:=xs,argTypes:=ts }) (he:xs.map a.eval=args) (h : ∀ w,C w→Calls P f args w fun e w'=>e = .returned v∧Ext w w'):YieldsE P ops C o v a:=by
 refine .inl ⟨by simp [Region.wanted,hg],fun w hC=>?_⟩
 unfold Oper.quietAt execOp
 simp only [ho]
 have h0:a.eval (.func f) = .func (.func f) #[] #[]:=rfl
 simp [h0,go_sem]
 rw [he,run_callFunc_own hf hname hb]
 exact ⟨rfl,h w hC⟩
end
end Go.Proofs.YtlnmhocehgmbbaaGreatDoor
namespace Go.Proofs.YtlnmhocehgmbbaaGreatDoor
open Go.RowKit
attribute [local go_sem ↓] eql_lEq eql_sEq eql_eEq eql_oEq neq_lEq neq_sEq neq_eEq neq_oEq
attribute [local go_sem] ExtOf.cell ExtOf.frozen ExtOf.lt ExtOf.le
attribute [local go_sem high] ExtOf.cell2 ExtOf.frozen2 ExtOf.lt2 ExtOf.cell3 ExtOf.frozen3 ExtOf.lt3 ExtOf.cellB ExtOf.frozenB ExtOf.cellX ExtOf.frozenX ExtOf.cellX' ExtOf.frozenX'
attribute [local go_sem] BelOf.cell BelOf.frozen BelOf.lt
structure Ln where
 E:Ev
 ph:Int
 out:List Ou
 proof:Bool
def Ln.cs (x:Ln) (v:Value):List Value:=[.int .i64 x.E.k,.int .u64 x.E.c,.string x.E.t,.int .i64 x.E.l.k,.int .i64 x.E.l.f,.int .u64 x.E.l.c,.string x.E.l.t,.bool x.E.l.b,.int .i64 x.ph,v,.bool x.proof]
def tkE (c:Int):Ev:=⟨3,c,{ data:=#[] },l0⟩
def ltE (l:Lt):Ev:=⟨2,0,{ data:=#[] },l⟩
def docL (c:Int) (t:ByteArray) (ph:Int):List Ln:=
 if ph=2 then [⟨ltE (prS c t 1),3,[⟨1,sgS c t 0⟩],false⟩,⟨tkE c,4,[⟨2,abS c⟩],false⟩]
 else if ph=3 then [⟨ltE (prS c t 1),3,[⟨1,sgS c t 0⟩],false⟩,⟨ltE (sgS c t 1),6,[],true⟩,⟨tkE c,5,[⟨2,rsS c t⟩],false⟩]
 else if ph=4 then [⟨tkE c,4,[⟨2,abS c⟩],false⟩,⟨ltE (tkS c),7,[],false⟩,⟨ltE (inS c t),6,[],true⟩]
 else if ph=5 then [⟨tkE c,5,[⟨2,rsS c t⟩],false⟩,⟨ltE (sgS c t 1),6,[],true⟩,⟨ltE (inS c t),6,[],true⟩]
 else []
def Lined (w:World) (L:List Ln) (en:Ending) (w':World):Prop:=
 ∃ (v:Value) (vs:List Value),en = .returned v∧vs.length=L.length∧w'.ownsRow w.heap.size 152 11 v L.length ((L.zip vs).flatMap fun p=>p.1.cs p.2)∧
  (∀ (i:Nat) x u,L[i]?=some x→vs[i]?=some u→w'.ownsRow w.heap.size 126 6 u x.out.length (x.out.flatMap Ou.cs))∧Ext w w'
theorem rf_lines2 (r c:Int) (t:ByteArray) (k f c2:Int) (t2:ByteArray) (fk:Bool) (w:World) :
 Calls Tryz.prog 102 #[.agg #[.int .i64 r,.int .u64 c,.string t,.int .i64 2,.int .i64 k,.int .i64 f,.int .u64 c2,.string t2,.bool fk]] w (Lined w (docL c t 2)):=by
 go_enter Tryz.func102,Tryz.ntmps102
 go_wp2_with fail
 refine (rf_signature _ _ _ _ _ _ _ _ _ _ _).mono ?_
 rintro e w1 ⟨rfl,hx1⟩
 have S1:=heap_ext (heap_ext (heap_new (w:=w) rfl) (zR.alloc _)) hx1
 have T1:=heap_ext (heap_new (w:=w.alloc _) rfl) hx1
 have X1:Ext w w1:=((zR.alloc _).alloc _).trans hx1
 have cs1:=zQ S1
 have ls1:w.heap.size<w1.heap.size:=zL S1
 clear hx1
 go_wp2_with fail
 refine wp_forget (fun w'=>w'.heap[w.heap.size]?=some (.cells #[.int .i64 r,.int .u64 c,.string t,.int .i64 2,.int .i64 k,.int .i64 f,.int .u64 c2,.string t2,.bool fk] 26 (0,0))∧w'.heap[w.heap.size+1]?=some (.cells #[.int .i64 3,.int .u64 c,.string { data:=#[] },.int .i64 0,.int .i64 0,.int .u64 0,.string { data:=#[] },.bool false] 102 (0,0))∧Ext w w'∧w'.ownsRow w.heap.size 126 6 (.slice (some ⟨w1.heap.size,0,none⟩) 1 1) 1 (Ou.cs ⟨1,sgS c t 0⟩)) ⟨?f1,?f2,?f3,?f4⟩ ?fr
 case f1=>exact heap_ext S1 (zR.alloc _)
 case f2=>exact heap_ext (by simpa using T1) (zR.alloc _)
 case f3=>exact X1.alloc _
 case f4=>exact own_new X1 rfl (by decide) rfl rfl
 clear S1 T1 X1 cs1 ls1
 rintro W5 ⟨S5,T5,X5,O5⟩
 have cs5:=zQ S5
 have ct5:=zQ T5
 have ls5:w.heap.size<W5.heap.size:=zL S5
 have lt5:w.heap.size+1<W5.heap.size:=zL T5
 have HO5:=zd O5
 clear S5 T5 O5
 refine wp_region_mixE (af:=?af) [true,true,true,true,true,true,true,false,false,false,false] 72 (by kernel_rfl) rfl (by kernel_rfl) ?q ?r
 case q=>
  intro x0
  simp only [pickT,if_true,if_false,Bool.false_eq_true]
  repeat (go_big_quiet_step ((first|(go_at_call 101;exact calls_ext (rf_promise _ _ _ _ _ _ _ _ _ _ _))|(go_at_call 123;exact calls_ext (rf_signature _ _ _ _ _ _ _ _ _ _ _))|(go_at_call 136;exact calls_ext (rf_token _ _ _ _ _ _ _ _ _ _))|(go_at_call 124;exact calls_ext (rf_instead _ _ _ _ _ _ _ _ _ _))|(go_at_call 133;exact calls_ext (rf_letter _ _ _ _ _ _)))))
  exact rfl
 case r=>
  simp only [pickF,if_true,if_false,Bool.false_eq_true]
  intro x1
  go_wp2_with fail
  refine (rf_abort _ _ _ _ _ _ _ _ _ _).mono ?_
  rintro e w6 ⟨v6,rfl,hv6,hx6⟩
  obtain ⟨a6,cap6,rfl,hm6,-⟩:=own_view hv6
  have e6:Ext W5 w6:=(zR.drew.val x1).trans hx6
  go_wp2_with fail
  refine ⟨e6,?_⟩
  intro x2
  go_wp2_with fail
  refine ⟨e6.val x2,?_⟩
  intro x3
  go_wp2_with fail
  refine ⟨((e6.val x2).val x3).alloc _,?_⟩
  intro x4
  go_wp2_with fail
  refine ⟨(((e6.val x2).val x3).alloc _).val x4,?_⟩
  intro x5
  go_wp2_with fail
  go_ret
  have e7:Ext w6 x5.val:=((((zR.val x2).val x3).alloc _).val x4).val x5
  have g3:=X5.trans ((e6.val x2).val x3)
  refine ⟨_,[.slice (some ⟨w1.heap.size,0,none⟩) 1 1,.slice a6 1 cap6],rfl,rfl,own_ext (own_ext (own_new g3 rfl (by decide) rfl rfl) x4.ext) x5.ext,?_,((g3.alloc _).val x4).val x5⟩
  have hs:x5.val.ownsRow w.heap.size 126 6 (.slice (some ⟨w1.heap.size,0,none⟩) 1 1) 1 (Ou.cs ⟨1,sgS c t 0⟩):=own_ext HO5.out (e6.trans e7)
  have ho:=own_ext (own_base (b':=w.heap.size) hv6 (X5.trans (zR.drew.val x1)).size) e7
  have hn:x5.val.ownsRow w.heap.size 126 6 (.slice none 0 0) 0 []:=World.ownsRow_nil _ _ _ _
  intro i x u hx hu
  rcases i with _|_|i
  ·obtain rfl:=Option.some.inj hx;obtain rfl:=Option.some.inj hu;exact hs
  ·obtain rfl:=Option.some.inj hx;obtain rfl:=Option.some.inj hu;exact ho
  ·cases hx
theorem rf_lines3 (r c:Int) (t:ByteArray) (k f c2:Int) (t2:ByteArray) (fk:Bool) (w:World) :
 Calls Tryz.prog 102 #[.agg #[.int .i64 r,.int .u64 c,.string t,.int .i64 3,.int .i64 k,.int .i64 f,.int .u64 c2,.string t2,.bool fk]] w (Lined w (docL c t 3)):=by
 go_enter Tryz.func102,Tryz.ntmps102
 go_wp2_with fail
 refine (rf_signature _ _ _ _ _ _ _ _ _ _ _).mono ?_
 rintro e w1 ⟨rfl,hx1⟩
 have S1:=heap_ext (heap_ext (heap_new (w:=w) rfl) (zR.alloc _)) hx1
 have T1:=heap_ext (heap_new (w:=w.alloc _) rfl) hx1
 have X1:Ext w w1:=((zR.alloc _).alloc _).trans hx1
 have cs1:=zQ S1
 have ls1:w.heap.size<w1.heap.size:=zL S1
 clear hx1
 go_wp2_with fail
 refine wp_forget (fun w'=>w'.heap[w.heap.size]?=some (.cells #[.int .i64 r,.int .u64 c,.string t,.int .i64 3,.int .i64 k,.int .i64 f,.int .u64 c2,.string t2,.bool fk] 26 (0,0))∧w'.heap[w.heap.size+1]?=some (.cells #[.int .i64 3,.int .u64 c,.string { data:=#[] },.int .i64 0,.int .i64 0,.int .u64 0,.string { data:=#[] },.bool false] 102 (0,0))∧Ext w w'∧w'.ownsRow w.heap.size 126 6 (.slice (some ⟨w1.heap.size,0,none⟩) 1 1) 1 (Ou.cs ⟨1,sgS c t 0⟩)) ⟨?f1,?f2,?f3,?f4⟩ ?fr
 case f1=>exact heap_ext S1 (zR.alloc _)
 case f2=>exact heap_ext (by simpa using T1) (zR.alloc _)
 case f3=>exact X1.alloc _
 case f4=>exact own_new X1 rfl (by decide) rfl rfl
 clear S1 T1 X1 cs1 ls1
 rintro W5 ⟨S5,T5,X5,O5⟩
 have cs5:=zQ S5
 have ct5:=zQ T5
 have ls5:w.heap.size<W5.heap.size:=zL S5
 have lt5:w.heap.size+1<W5.heap.size:=zL T5
 have HO5:=zd O5
 clear S5 T5 O5
 refine wp_region_mixE (af:=?af) [true,true,true,true,true,true,true,true,true,true,true,false,false,false,false] 72 (by kernel_rfl) rfl (by kernel_rfl) ?q ?r
 case q=>
  intro x0
  simp only [pickT,if_true,if_false,Bool.false_eq_true]
  repeat (go_big_quiet_step ((first|(go_at_call 101;exact calls_ext (rf_promise _ _ _ _ _ _ _ _ _ _ _))|(go_at_call 123;exact calls_ext (rf_signature _ _ _ _ _ _ _ _ _ _ _))|(go_at_call 136;exact calls_ext (rf_token _ _ _ _ _ _ _ _ _ _))|(go_at_call 124;exact calls_ext (rf_instead _ _ _ _ _ _ _ _ _ _))|(go_at_call 133;exact calls_ext (rf_letter _ _ _ _ _ _)))))
  exact rfl
 case r=>
  simp only [pickF,if_true,if_false,Bool.false_eq_true]
  intro x1
  go_wp2_with fail
  refine (rf_resolve _ _ _ _ _ _ _ _ _ _).mono ?_
  rintro e w6 ⟨v6,rfl,hv6,hx6⟩
  obtain ⟨a6,cap6,rfl,hm6,-⟩:=own_view hv6
  have e6:Ext W5 w6:=(zR.drew.val x1).trans hx6
  go_wp2_with fail
  refine ⟨e6,?_⟩
  intro x2
  go_wp2_with fail
  refine ⟨e6.val x2,?_⟩
  intro x3
  go_wp2_with fail
  refine ⟨((e6.val x2).val x3).alloc _,?_⟩
  intro x4
  go_wp2_with fail
  refine ⟨(((e6.val x2).val x3).alloc _).val x4,?_⟩
  intro x5
  go_wp2_with fail
  go_ret
  have e7:Ext w6 x5.val:=((((zR.val x2).val x3).alloc _).val x4).val x5
  have g3:=X5.trans ((e6.val x2).val x3)
  refine ⟨_,[.slice (some ⟨w1.heap.size,0,none⟩) 1 1,.slice none 0 0,.slice a6 1 cap6],rfl,rfl,own_ext (own_ext (own_new g3 rfl (by decide) rfl rfl) x4.ext) x5.ext,?_,((g3.alloc _).val x4).val x5⟩
  have hs:x5.val.ownsRow w.heap.size 126 6 (.slice (some ⟨w1.heap.size,0,none⟩) 1 1) 1 (Ou.cs ⟨1,sgS c t 0⟩):=own_ext HO5.out (e6.trans e7)
  have ho:=own_ext (own_base (b':=w.heap.size) hv6 (X5.trans (zR.drew.val x1)).size) e7
  have hn:x5.val.ownsRow w.heap.size 126 6 (.slice none 0 0) 0 []:=World.ownsRow_nil _ _ _ _
  intro i x u hx hu
  rcases i with _|_|_|i
  ·obtain rfl:=Option.some.inj hx;obtain rfl:=Option.some.inj hu;exact hs
  ·obtain rfl:=Option.some.inj hx;obtain rfl:=Option.some.inj hu;exact hn
  ·obtain rfl:=Option.some.inj hx;obtain rfl:=Option.some.inj hu;exact ho
  ·cases hx
theorem rf_lines4 (r c:Int) (t:ByteArray) (k f c2:Int) (t2:ByteArray) (fk:Bool) (w:World) :
 Calls Tryz.prog 102 #[.agg #[.int .i64 r,.int .u64 c,.string t,.int .i64 4,.int .i64 k,.int .i64 f,.int .u64 c2,.string t2,.bool fk]] w (Lined w (docL c t 4)):=by
 go_enter Tryz.func102,Tryz.ntmps102
 go_wp2_with fail
 refine (rf_signature _ _ _ _ _ _ _ _ _ _ _).mono ?_
 rintro e w1 ⟨rfl,hx1⟩
 have S1:=heap_ext (heap_ext (heap_new (w:=w) rfl) (zR.alloc _)) hx1
 have T1:=heap_ext (heap_new (w:=w.alloc _) rfl) hx1
 have X1:Ext w w1:=((zR.alloc _).alloc _).trans hx1
 have cs1:=zQ S1
 have ls1:w.heap.size<w1.heap.size:=zL S1
 clear hx1
 go_wp2_with fail
 refine wp_forget (fun w'=>w'.heap[w.heap.size]?=some (.cells #[.int .i64 r,.int .u64 c,.string t,.int .i64 4,.int .i64 k,.int .i64 f,.int .u64 c2,.string t2,.bool fk] 26 (0,0))∧w'.heap[w.heap.size+1]?=some (.cells #[.int .i64 3,.int .u64 c,.string { data:=#[] },.int .i64 0,.int .i64 0,.int .u64 0,.string { data:=#[] },.bool false] 102 (0,0))∧Ext w w'∧w'.ownsRow w.heap.size 126 6 (.slice (some ⟨w1.heap.size,0,none⟩) 1 1) 1 (Ou.cs ⟨1,sgS c t 0⟩)) ⟨?f1,?f2,?f3,?f4⟩ ?fr
 case f1=>exact heap_ext S1 (zR.alloc _)
 case f2=>exact heap_ext (by simpa using T1) (zR.alloc _)
 case f3=>exact X1.alloc _
 case f4=>exact own_new X1 rfl (by decide) rfl rfl
 clear S1 T1 X1 cs1 ls1
 rintro W5 ⟨S5,T5,X5,O5⟩
 have cs5:=zQ S5
 have ct5:=zQ T5
 have ls5:w.heap.size<W5.heap.size:=zL S5
 have lt5:w.heap.size+1<W5.heap.size:=zL T5
 have HO5:=zd O5
 clear S5 T5 O5
 refine wp_region_mixQ (C:=Ext W5) (af:=?af) [true,true,false,false,true,false,false,false,true,false,false,false,false,false] [false,false,false,true,false,true,true,true,false,true,true,true,false,true] 72 (by kernel_rfl) rfl (by kernel_rfl) (fun _ _ h e=>Ext.trans h e) zR.drew ?q ?r
 case q=>
  intro w' hw'
  obtain ⟨x0,rfl⟩:=ext_of hw'
  simp only [pickT,if_true,if_false,Bool.false_eq_true]
  repeat (go_big_quiet_step (fail))
  exact rfl
 case r=>
  simp only [restL,if_true,if_false,Bool.false_eq_true]
  intro x1
  go_wp2_with fail
  refine (rf_abort _ _ _ _ _ _ _ _ _ _).mono ?_
  rintro e w6 ⟨v6,rfl,hv6,hx6⟩
  obtain ⟨a6,cap6,rfl,hm6,-⟩:=own_view hv6
  have e6:Ext W5 w6:=(zR.drew.val x1).trans hx6
  go_wp2_with fail
  refine ⟨e6,?_⟩
  refine ⟨_,yields_build #[.int .i64 3,.int .u64 c,.string { data:=#[] },.int .i64 0,.int .i64 0,.int .u64 0,.string { data:=#[] },.bool false,.int .i64 4,.slice a6 1 cap6,.bool false] rfl rfl (by kernel_rfl),?_⟩
  refine ⟨_,yields_call #[.agg #[.int .i64 r,.int .u64 c,.string t,.int .i64 4,.int .i64 k,.int .i64 f,.int .u64 c2,.string t2,.bool fk]] Tryz.func136 (by kernel_rfl) (by kernel_rfl) rfl rfl (by kernel_rfl) (fun w' _=>rf_token _ _ _ _ _ _ _ _ _ _),?_⟩
  refine ⟨_,yields_call #[.agg #[.int .i64 5,.int .i64 0,.int .u64 c,.string { data:=#[] },.bool false]] Tryz.func133 (by kernel_rfl) (by kernel_rfl) rfl rfl (by kernel_rfl) (fun w' _=>rf_letter _ _ _ _ _ _),?_⟩
  refine ⟨_,yields_build #[.int .i64 2,.int .u64 0,.string { data:=#[] },.int .i64 5,.int .i64 0,.int .u64 c,.string { data:=#[] },.bool false,.int .i64 7,.slice none 0 0,.bool false] rfl rfl (by kernel_rfl),?_⟩
  refine ⟨_,yields_call #[.agg #[.int .i64 r,.int .u64 c,.string t,.int .i64 4,.int .i64 k,.int .i64 f,.int .u64 c2,.string t2,.bool fk]] Tryz.func124 (by kernel_rfl) (by kernel_rfl) rfl rfl (by kernel_rfl) (fun w' _=>rf_instead _ _ _ _ _ _ _ _ _ _),?_⟩
  refine ⟨_,yields_call #[.agg #[.int .i64 6,.int .i64 0,.int .u64 c,.string t,.bool false]] Tryz.func133 (by kernel_rfl) (by kernel_rfl) rfl rfl (by kernel_rfl) (fun w' _=>rf_letter _ _ _ _ _ _),?_⟩
  refine ⟨_,yields_build #[.int .i64 2,.int .u64 0,.string { data:=#[] },.int .i64 6,.int .i64 0,.int .u64 c,.string t,.bool false,.int .i64 6,.slice none 0 0,.bool true] rfl rfl (by kernel_rfl),?_⟩
  intro x3
  go_wp2_with fail
  refine ⟨(e6.val x3).alloc _,?_⟩
  refine ⟨_,.inl ⟨rfl,fun w' _=>⟨rfl,rfl⟩⟩,?_⟩
  intro x5
  go_wp2_with fail
  go_ret
  have g3:=X5.trans (e6.val x3)
  have e7:Ext w6 x5.val:=((zR.val x3).alloc _).val x5
  refine ⟨_,[.slice a6 1 cap6,.slice none 0 0,.slice none 0 0],rfl,rfl,own_ext (own_new g3 rfl (by decide) rfl rfl) x5.ext,?_,(g3.alloc _).val x5⟩
  have hs:x5.val.ownsRow w.heap.size 126 6 (.slice (some ⟨w1.heap.size,0,none⟩) 1 1) 1 (Ou.cs ⟨1,sgS c t 0⟩):=own_ext HO5.out (e6.trans e7)
  have ho:=own_ext (own_base (b':=w.heap.size) hv6 (X5.trans (zR.drew.val x1)).size) e7
  have hn:x5.val.ownsRow w.heap.size 126 6 (.slice none 0 0) 0 []:=World.ownsRow_nil _ _ _ _
  intro i x u hx hu
  rcases i with _|_|_|i
  ·obtain rfl:=Option.some.inj hx;obtain rfl:=Option.some.inj hu;exact ho
  ·obtain rfl:=Option.some.inj hx;obtain rfl:=Option.some.inj hu;exact hn
  ·obtain rfl:=Option.some.inj hx;obtain rfl:=Option.some.inj hu;exact hn
  ·cases hx
theorem rf_lines5 (r c:Int) (t:ByteArray) (k f c2:Int) (t2:ByteArray) (fk:Bool) (w:World) :
 Calls Tryz.prog 102 #[.agg #[.int .i64 r,.int .u64 c,.string t,.int .i64 5,.int .i64 k,.int .i64 f,.int .u64 c2,.string t2,.bool fk]] w (Lined w (docL c t 5)):=by
 go_enter Tryz.func102,Tryz.ntmps102
 go_wp2_with fail
 refine (rf_signature _ _ _ _ _ _ _ _ _ _ _).mono ?_
 rintro e w1 ⟨rfl,hx1⟩
 have S1:=heap_ext (heap_ext (heap_new (w:=w) rfl) (zR.alloc _)) hx1
 have T1:=heap_ext (heap_new (w:=w.alloc _) rfl) hx1
 have X1:Ext w w1:=((zR.alloc _).alloc _).trans hx1
 have cs1:=zQ S1
 have ls1:w.heap.size<w1.heap.size:=zL S1
 clear hx1
 go_wp2_with fail
 refine wp_forget (fun w'=>w'.heap[w.heap.size]?=some (.cells #[.int .i64 r,.int .u64 c,.string t,.int .i64 5,.int .i64 k,.int .i64 f,.int .u64 c2,.string t2,.bool fk] 26 (0,0))∧w'.heap[w.heap.size+1]?=some (.cells #[.int .i64 3,.int .u64 c,.string { data:=#[] },.int .i64 0,.int .i64 0,.int .u64 0,.string { data:=#[] },.bool false] 102 (0,0))∧Ext w w'∧w'.ownsRow w.heap.size 126 6 (.slice (some ⟨w1.heap.size,0,none⟩) 1 1) 1 (Ou.cs ⟨1,sgS c t 0⟩)) ⟨?f1,?f2,?f3,?f4⟩ ?fr
 case f1=>exact heap_ext S1 (zR.alloc _)
 case f2=>exact heap_ext (by simpa using T1) (zR.alloc _)
 case f3=>exact X1.alloc _
 case f4=>exact own_new X1 rfl (by decide) rfl rfl
 clear S1 T1 X1 cs1 ls1
 rintro W5 ⟨S5,T5,X5,O5⟩
 have cs5:=zQ S5
 have ct5:=zQ T5
 have ls5:w.heap.size<W5.heap.size:=zL S5
 have lt5:w.heap.size+1<W5.heap.size:=zL T5
 have HO5:=zd O5
 clear S5 T5 O5
 refine wp_region_mixQ (C:=Ext W5) (af:=?af) [true,true,false,false,true,false,false,false,true,false,false,false,false,false] [false,false,false,true,false,true,true,true,false,true,true,true,false,true] 72 (by kernel_rfl) rfl (by kernel_rfl) (fun _ _ h e=>Ext.trans h e) zR.drew ?q ?r
 case q=>
  intro w' hw'
  obtain ⟨x0,rfl⟩:=ext_of hw'
  simp only [pickT,if_true,if_false,Bool.false_eq_true]
  repeat (go_big_quiet_step (fail))
  exact rfl
 case r=>
  simp only [restL,if_true,if_false,Bool.false_eq_true]
  intro x1
  go_wp2_with fail
  refine (rf_resolve _ _ _ _ _ _ _ _ _ _).mono ?_
  rintro e w6 ⟨v6,rfl,hv6,hx6⟩
  obtain ⟨a6,cap6,rfl,hm6,-⟩:=own_view hv6
  have e6:Ext W5 w6:=(zR.drew.val x1).trans hx6
  go_wp2_with fail
  refine ⟨e6,?_⟩
  refine ⟨_,yields_build #[.int .i64 3,.int .u64 c,.string { data:=#[] },.int .i64 0,.int .i64 0,.int .u64 0,.string { data:=#[] },.bool false,.int .i64 5,.slice a6 1 cap6,.bool false] rfl rfl (by kernel_rfl),?_⟩
  refine ⟨_,yields_call #[.agg #[.int .i64 r,.int .u64 c,.string t,.int .i64 5,.int .i64 k,.int .i64 f,.int .u64 c2,.string t2,.bool fk],.int .i64 1] Tryz.func123 (by kernel_rfl) (by kernel_rfl) rfl rfl (by kernel_rfl) (fun w' _=>rf_signature _ _ _ _ _ _ _ _ _ _ _),?_⟩
  refine ⟨_,yields_call #[.agg #[.int .i64 2,.int .i64 1,.int .u64 c,.string t,.bool false]] Tryz.func133 (by kernel_rfl) (by kernel_rfl) rfl rfl (by kernel_rfl) (fun w' _=>rf_letter _ _ _ _ _ _),?_⟩
  refine ⟨_,yields_build #[.int .i64 2,.int .u64 0,.string { data:=#[] },.int .i64 2,.int .i64 1,.int .u64 c,.string t,.bool false,.int .i64 6,.slice none 0 0,.bool true] rfl rfl (by kernel_rfl),?_⟩
  refine ⟨_,yields_call #[.agg #[.int .i64 r,.int .u64 c,.string t,.int .i64 5,.int .i64 k,.int .i64 f,.int .u64 c2,.string t2,.bool fk]] Tryz.func124 (by kernel_rfl) (by kernel_rfl) rfl rfl (by kernel_rfl) (fun w' _=>rf_instead _ _ _ _ _ _ _ _ _ _),?_⟩
  refine ⟨_,yields_call #[.agg #[.int .i64 6,.int .i64 0,.int .u64 c,.string t,.bool false]] Tryz.func133 (by kernel_rfl) (by kernel_rfl) rfl rfl (by kernel_rfl) (fun w' _=>rf_letter _ _ _ _ _ _),?_⟩
  refine ⟨_,yields_build #[.int .i64 2,.int .u64 0,.string { data:=#[] },.int .i64 6,.int .i64 0,.int .u64 c,.string t,.bool false,.int .i64 6,.slice none 0 0,.bool true] rfl rfl (by kernel_rfl),?_⟩
  intro x3
  go_wp2_with fail
  refine ⟨(e6.val x3).alloc _,?_⟩
  refine ⟨_,.inl ⟨rfl,fun w' _=>⟨rfl,rfl⟩⟩,?_⟩
  intro x5
  go_wp2_with fail
  go_ret
  have g3:=X5.trans (e6.val x3)
  have e7:Ext w6 x5.val:=((zR.val x3).alloc _).val x5
  refine ⟨_,[.slice a6 1 cap6,.slice none 0 0,.slice none 0 0],rfl,rfl,own_ext (own_new g3 rfl (by decide) rfl rfl) x5.ext,?_,(g3.alloc _).val x5⟩
  have hs:x5.val.ownsRow w.heap.size 126 6 (.slice (some ⟨w1.heap.size,0,none⟩) 1 1) 1 (Ou.cs ⟨1,sgS c t 0⟩):=own_ext HO5.out (e6.trans e7)
  have ho:=own_ext (own_base (b':=w.heap.size) hv6 (X5.trans (zR.drew.val x1)).size) e7
  have hn:x5.val.ownsRow w.heap.size 126 6 (.slice none 0 0) 0 []:=World.ownsRow_nil _ _ _ _
  intro i x u hx hu
  rcases i with _|_|_|i
  ·obtain rfl:=Option.some.inj hx;obtain rfl:=Option.some.inj hu;exact ho
  ·obtain rfl:=Option.some.inj hx;obtain rfl:=Option.some.inj hu;exact hn
  ·obtain rfl:=Option.some.inj hx;obtain rfl:=Option.some.inj hu;exact hn
  ·cases hx
end Go.Proofs.YtlnmhocehgmbbaaGreatDoor

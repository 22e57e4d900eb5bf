/- No condition. -/
import Derived.Test.YtlnmhocehgmbbaaGreatDoorWY24
import Derived.Test.YtlnmhocehgmbbaaGreatDoorWY25
set_option linter.all false
set_option maxRecDepth 100000
set_option maxHeartbeats 3200000
namespace Go.Proofs.YtlnmhocehgmbbaaGreatDoor
open Go.RowKit
attribute [local go_sem ↓] eql_lEq eql_sEq eql_eEq eql_oEq neq_lEq neq_sEq neq_eEq neq_oEq
attribute [local go_sem] ExtOf.cell ExtOf.frozen ExtOf.lt ExtOf.le
attribute [local go_sem high] ExtOf.cell2 ExtOf.frozen2 ExtOf.lt2 ExtOf.cell3 ExtOf.frozen3 ExtOf.lt3
def evB2 (a b:Ev):Bool:=eEq a.k a.c a.t a.l.k a.l.f a.l.c a.l.t a.l.b b.k b.c b.t b.l.k b.l.f b.l.c b.l.t b.l.b
def stepD (s:St) (e:Ev):St×List Ou:=
 if chkS s=true then
  if s.ph=0 then (if e.k=1∧e.c=s.c∧e.t.size≤64 then (⟨0,e.c,e.t,2,l0⟩,[⟨1,prS e.c e.t 0⟩]) else (s,[]))
  else match (docL s.c s.t s.ph).find? (fun x=>evB2 x.E (plainS e)) with
   | some x=>(⟨s.r,s.c,s.t,x.ph,if x.proof=true then e.l else s.p⟩,x.out)
   | none=>(s,[])
 else (s,[])
def cvL (c:Int) (x:Rw):Ln:=⟨evR c x,x.to,outS x.sends,x.to == 6⟩
theorem docL_rows (c:Int) (t:ByteArray) (ph:Int):docL c t ph=(rowsS c t ph).map (cvL c):=by
 unfold docL rowsS
 repeat' split
 all_goals rfl
theorem rows_six (c:Int) (t:ByteArray) (ph:Int) : ∀ x∈rowsS c t ph,x.to=6→x.tick=false:=by
 unfold rowsS
 repeat' split
 all_goals simp
theorem takes_doc (x:Rw) (s:St) (e:Ev):takesR x s e=evB2 (evR s.c x) (plainS e):=by
 unfold takesR takesS evB2 evR plainS eEq
 rcases ht:x.tick
 ·by_cases h2:e.k=2
  ·simp [h2,lEq,eq_comm]
  ·by_cases h3:e.k=3
   ·simp [h2,h3]
   ·simp [h2,h3,Ne.symm h2]
 ·by_cases h2:e.k=2
  ·simp [h2]
  ·by_cases h3:e.k=3
   ·simp [h2,h3,eq_comm]
   ·simp [h2,h3]
    intro h;exact absurd h.symm h3
theorem takes_l {x:Rw} {s:St} {e:Ev} (h:takesR x s e=true) (ht:x.tick=false):e.l=x.comes:=by
 unfold takesR takesS at h
 rw [ht] at h
 simp [lEq] at h
 obtain ⟨_,h1,h2,h3,h4,h5⟩:=h
 cases he:e.l
 cases hc:x.comes
 rw [he,hc] at h1 h2 h3 h4 h5
 simp at h1 h2 h3 h4 h5
 rw [h1,h2,h3,h4,h5]
theorem find_doc (s:St) (e:Ev) : ∀ R:List Rw,(∀ x∈R,x.to=6→x.tick=false)→
 (match R.find? (fun x=>takesR x s e) with|some x=>(toS x s,outS x.sends)|none=>(s,[])) =
 (match (R.map (cvL s.c)).find? (fun x=>evB2 x.E (plainS e)) with|some x=>((⟨s.r,s.c,s.t,x.ph,if x.proof=true then e.l else s.p⟩:St),x.out)|none=>(s,[]))
 | [],_=>rfl
 | x::R,h=>by
  rw [List.map_cons,List.find?_cons,List.find?_cons]
  have ht:evB2 (cvL s.c x).E (plainS e)=takesR x s e:=(takes_doc x s e).symm
  rw [ht]
  rcases hx:takesR x s e
  ·exact find_doc s e R fun y hy=>h y (.tail _ hy)
  ·show (toS x s,outS x.sends)=((⟨s.r,s.c,s.t,x.to,if (x.to == 6)=true then e.l else s.p⟩:St),outS x.sends)
   unfold toS toP
   by_cases h6:x.to=6
   ·rw [if_pos h6,if_pos (by simpa using h6),takes_l hx (h x (.head _) h6)]
   ·rw [if_neg h6,if_neg (by simpa using h6)]
theorem step_doc (s:St) (e:Ev):stepS s e=stepD s e:=by
 unfold stepS stepD
 rcases hc:chkS s
 ·simp
 rw [if_pos rfl,if_pos rfl]
 have hr:s.r=0:=by
  unfold chkS chk at hc
  split at hc
  ·rename_i h;exact h.1
  ·cases hc
 by_cases h0:s.ph=0
 ·rw [if_pos h0,if_pos h0]
  have hp:s.p=l0:=by
   unfold chkS chk at hc
   split at hc
   ·rw [if_neg (by omega)] at hc
    try rw [if_pos h0] at hc
    simp only [Bool.and_eq_true] at hc
    obtain ⟨r,c,t,ph,⟨k,f,c2,t2,fk⟩⟩:=s
    have:=hc.2
    simp [lEq] at this
    obtain ⟨h1,h2,h3,h4,h5⟩:=this
    simp only at h1 h2 h3 h4 h5 ⊢
    subst h1 h2 h3 h5
    rw [h4]
    rfl
   ·cases hc
  split
  ·rename_i h
   rw [hr,hp,h.2.1]
   rfl
  ·rfl
 ·rw [if_neg h0,if_neg h0,docL_rows]
  exact find_doc s e _ (rows_six _ _ _)
theorem rf_stepA (r c:Int) (t:ByteArray) (ph k f c2:Int) (t2:ByteArray) (fk:Bool) (ek ec:Int) (et:ByteArray) (lk lf lc:Int) (lt:ByteArray) (lb:Bool) (w:World) (hc:chk r c t ph k f c2 t2 fk=false):Calls Tryz.prog 75 #[.agg #[.int .i64 r,.int .u64 c,.string t,.int .i64 ph,.int .i64 k,.int .i64 f,.int .u64 c2,.string t2,.bool fk],.agg #[.int .i64 ek,.int .u64 ec,.string et,.int .i64 lk,.int .i64 lf,.int .u64 lc,.string lt,.bool lb]] w (Stepped w (⟨r,c,t,ph,⟨k,f,c2,t2,fk⟩⟩,[])):=by
 go_enter Tryz.func75,Tryz.ntmps75
 go_upto_region 1 with fail
 refine wp_forget (fun w'=>∃ g2 g3 g4,Hid (g2=w.heap.size∧g3=w.heap.size+1∧g4=w.heap.size+1+1)∧Hid (w'.heap[g2]?=some (.cells #[.int .i64 r,.int .u64 c,.string t,.int .i64 ph,.int .i64 k,.int .i64 f,.int .u64 c2,.string t2,.bool fk] 26 (0,0)))∧Hid (w'.heap[g3]?=some (.cells #[.int .i64 ek,.int .u64 ec,.string et,.int .i64 lk,.int .i64 lf,.int .u64 lc,.string lt,.bool lb] 102 (0,0)))∧Hid (w'.heap[g4]?=some (.cells #[.int .i64 0,.int .u64 0,.string { data:=#[] },.int .i64 0,.int .i64 0,.int .i64 0,.int .u64 0,.string { data:=#[] },.bool false] 26 (0,0)))∧Hid (Ext w w')∧Hid (w.heap.size≤g4)) ⟨_,_,_,zd ⟨rfl,rfl,rfl⟩,zd (three_new zR).1,zd (three_new zR).2.1,zd (three_new zR).2.2.1,zd (three_new zR).2.2.2,zd (by omega)⟩ ?_
 rintro W1 ⟨g2,g3,g4,hg,H2,H3,H4,HE1,HG4⟩
 rw [←hg.out.2.2,←hg.out.2.1,←hg.out.1]
 clear hg
 go_upto_region 2 with (first|((with_reducible refine wpList_load_rowG ?_ 26 (.tmp 2) ?_ g2 ?_ 26 #[.int .i64 r,.int .u64 c,.string t,.int .i64 ph,.int .i64 k,.int .i64 f,.int .u64 c2,.string t2,.bool fk] (0,0) _ ?_ zu26 ?_ ?_ ?_);(·rfl);(·rfl);(·rfl);(·exact H2.out);(·rfl);(·exact info_state))|(go_at_call 94;refine (rf_check _ _ _ _ _ _ _ _ _ _).mono ?_;rw [hc];rintro e w2 ⟨rfl,hx2⟩;have K2:=zd (heap_ext H2.out hx2);have K3:=zd (heap_ext H3.out hx2);have K4:=zd (heap_ext H4.out hx2);have HE2:=zd (HE1.out.trans hx2);clear hx2))
 go_wp2_with (first|((with_reducible refine wpList_load_rowG ?_ 26 (.tmp 2) ?_ g2 ?_ 26 #[.int .i64 r,.int .u64 c,.string t,.int .i64 ph,.int .i64 k,.int .i64 f,.int .u64 c2,.string t2,.bool fk] (0,0) _ ?_ zu26 ?_ ?_ ?_);(·rfl);(·rfl);(·rfl);(·exact K2.out);(·rfl);(·exact info_state))|(refine wpList_store_row rfl 26 _ _ rfl g4 _ rfl rfl 26 _ K4.out info_state rfl (by simp [Value.oneCell']) ?_))
 refine bodyPost_ret (results_row_tmp rfl _ _ _ 26 #[.int .i64 r,.int .u64 c,.string t,.int .i64 ph,.int .i64 k,.int .i64 f,.int .u64 c2,.string t2,.bool fk] (0,0) _ rfl (setRow_heap _ _ _ _ _ _ K4.out) zu26 rfl info_state) rfl ?_
 exact ⟨_,rfl,World.ownsRow_nil _ _ _ _,HE2.out.setRow HG4.out _⟩
theorem rf_stepB (r c:Int) (t:ByteArray) (k f c2:Int) (t2:ByteArray) (fk:Bool) (ek ec:Int) (et:ByteArray) (lk lf lc:Int) (lt:ByteArray) (lb:Bool) (w:World) (hc:chk r c t 0 k f c2 t2 fk=true) (hn : ¬(ek=1∧ec=c∧et.size≤64)):Calls Tryz.prog 75 #[.agg #[.int .i64 r,.int .u64 c,.string t,.int .i64 0,.int .i64 k,.int .i64 f,.int .u64 c2,.string t2,.bool fk],.agg #[.int .i64 ek,.int .u64 ec,.string et,.int .i64 lk,.int .i64 lf,.int .u64 lc,.string lt,.bool lb]] w (Stepped w (⟨r,c,t,0,⟨k,f,c2,t2,fk⟩⟩,[])):=by
 go_enter Tryz.func75,Tryz.ntmps75
 go_upto_region 1 with fail
 refine wp_forget (fun w'=>∃ g2 g3 g4,Hid (g2=w.heap.size∧g3=w.heap.size+1∧g4=w.heap.size+1+1)∧Hid (w'.heap[g2]?=some (.cells #[.int .i64 r,.int .u64 c,.string t,.int .i64 0,.int .i64 k,.int .i64 f,.int .u64 c2,.string t2,.bool fk] 26 (0,0)))∧Hid (w'.heap[g3]?=some (.cells #[.int .i64 ek,.int .u64 ec,.string et,.int .i64 lk,.int .i64 lf,.int .u64 lc,.string lt,.bool lb] 102 (0,0)))∧Hid (w'.heap[g4]?=some (.cells #[.int .i64 0,.int .u64 0,.string { data:=#[] },.int .i64 0,.int .i64 0,.int .i64 0,.int .u64 0,.string { data:=#[] },.bool false] 26 (0,0)))∧Hid (Ext w w')∧Hid (w.heap.size≤g4)) ⟨_,_,_,zd ⟨rfl,rfl,rfl⟩,zd (three_new zR).1,zd (three_new zR).2.1,zd (three_new zR).2.2.1,zd (three_new zR).2.2.2,zd (by omega)⟩ ?_
 rintro W1 ⟨g2,g3,g4,hg,H2,H3,H4,HE1,HG4⟩
 rw [←hg.out.2.2,←hg.out.2.1,←hg.out.1]
 clear hg
 go_upto_region 3 with (first|((with_reducible refine wpList_load_rowG ?_ 26 (.tmp 2) ?_ g2 ?_ 26 #[.int .i64 r,.int .u64 c,.string t,.int .i64 0,.int .i64 k,.int .i64 f,.int .u64 c2,.string t2,.bool fk] (0,0) _ ?_ zu26 ?_ ?_ ?_);(·rfl);(·rfl);(·rfl);(·exact H2.out);(·rfl);(·exact info_state))|(go_at_call 94;refine (rf_check _ _ _ _ _ _ _ _ _ _).mono ?_;rw [hc];rintro e w2 ⟨rfl,hx2⟩;have K2:=zd (heap_ext H2.out hx2);have K3:=zd (heap_ext H3.out hx2);have K4:=zd (heap_ext H4.out hx2);have HE2:=zd (HE1.out.trans hx2);clear hx2))
 have hl2:=zQ K2.out
 have hl3:=zQ K3.out
 have l2:g2<w2.heap.size:=zL K2.out
 have l3:g3<w2.heap.size:=zL K3.out
 by_cases hk:ek=1
 case neg=>
  go_wp2_with (first|((with_reducible refine wpList_load_rowG ?_ 26 (.tmp 2) ?_ g2 ?_ 26 #[.int .i64 r,.int .u64 c,.string t,.int .i64 0,.int .i64 k,.int .i64 f,.int .u64 c2,.string t2,.bool fk] (0,0) _ ?_ zu26 ?_ ?_ ?_);(·rfl);(·rfl);(·rfl);(·exact K2.out);(·rfl);(·exact info_state))|(refine wpList_store_row rfl 26 _ _ rfl g4 _ rfl rfl 26 _ K4.out info_state rfl (by simp [Value.oneCell']) ?_))
  refine bodyPost_ret (results_row_tmp rfl _ _ _ 26 #[.int .i64 r,.int .u64 c,.string t,.int .i64 0,.int .i64 k,.int .i64 f,.int .u64 c2,.string t2,.bool fk] (0,0) _ rfl (setRow_heap _ _ _ _ _ _ K4.out) zu26 rfl info_state) rfl ?_
  exact ⟨_,rfl,World.ownsRow_nil _ _ _ _,HE2.out.setRow HG4.out _⟩
 by_cases hcc:ec=c
 case neg=>
  go_wp2_with (first|((with_reducible refine wpList_load_rowG ?_ 26 (.tmp 2) ?_ g2 ?_ 26 #[.int .i64 r,.int .u64 c,.string t,.int .i64 0,.int .i64 k,.int .i64 f,.int .u64 c2,.string t2,.bool fk] (0,0) _ ?_ zu26 ?_ ?_ ?_);(·rfl);(·rfl);(·rfl);(·exact K2.out);(·rfl);(·exact info_state))|(refine wpList_store_row rfl 26 _ _ rfl g4 _ rfl rfl 26 _ K4.out info_state rfl (by simp [Value.oneCell']) ?_))
  refine bodyPost_ret (results_row_tmp rfl _ _ _ 26 #[.int .i64 r,.int .u64 c,.string t,.int .i64 0,.int .i64 k,.int .i64 f,.int .u64 c2,.string t2,.bool fk] (0,0) _ rfl (setRow_heap _ _ _ _ _ _ K4.out) zu26 rfl info_state) rfl ?_
  exact ⟨_,rfl,World.ownsRow_nil _ _ _ _,HE2.out.setRow HG4.out _⟩
 have ht:(64:Int)<(et.size:Int):=by
  have : ¬et.size≤64:=fun h=>hn ⟨hk,hcc,h⟩
  omega
 clear hn
 go_wp2_with (first|((with_reducible refine wpList_load_rowG ?_ 26 (.tmp 2) ?_ g2 ?_ 26 #[.int .i64 r,.int .u64 c,.string t,.int .i64 0,.int .i64 k,.int .i64 f,.int .u64 c2,.string t2,.bool fk] (0,0) _ ?_ zu26 ?_ ?_ ?_);(·rfl);(·rfl);(·rfl);(·exact K2.out);(·rfl);(·exact info_state))|(refine wpList_store_row rfl 26 _ _ rfl g4 _ rfl rfl 26 _ K4.out info_state rfl (by simp [Value.oneCell']) ?_))
 refine bodyPost_ret (results_row_tmp rfl _ _ _ 26 #[.int .i64 r,.int .u64 c,.string t,.int .i64 0,.int .i64 k,.int .i64 f,.int .u64 c2,.string t2,.bool fk] (0,0) _ rfl (setRow_heap _ _ _ _ _ _ K4.out) zu26 rfl info_state) rfl ?_
 exact ⟨_,rfl,World.ownsRow_nil _ _ _ _,HE2.out.setRow HG4.out _⟩
theorem rf_stepC (r:Int) (t:ByteArray) (k f c2:Int) (t2:ByteArray) (fk:Bool) (ec:Int) (et:ByteArray) (lk lf lc:Int) (lt:ByteArray) (lb:Bool) (w:World) (hc:chk r ec t 0 k f c2 t2 fk=true) (ht:(et.size:Int)≤64):Calls Tryz.prog 75 #[.agg #[.int .i64 r,.int .u64 ec,.string t,.int .i64 0,.int .i64 k,.int .i64 f,.int .u64 c2,.string t2,.bool fk],.agg #[.int .i64 1,.int .u64 ec,.string et,.int .i64 lk,.int .i64 lf,.int .u64 lc,.string lt,.bool lb]] w (Stepped w (⟨0,ec,et,2,l0⟩,[⟨1,prS ec et 0⟩])):=by
 go_enter Tryz.func75,Tryz.ntmps75
 go_upto_region 1 with fail
 refine wp_forget (fun w'=>∃ g2 g3 g4,Hid (g2=w.heap.size∧g3=w.heap.size+1∧g4=w.heap.size+1+1)∧Hid (w'.heap[g2]?=some (.cells #[.int .i64 r,.int .u64 ec,.string t,.int .i64 0,.int .i64 k,.int .i64 f,.int .u64 c2,.string t2,.bool fk] 26 (0,0)))∧Hid (w'.heap[g3]?=some (.cells #[.int .i64 1,.int .u64 ec,.string et,.int .i64 lk,.int .i64 lf,.int .u64 lc,.string lt,.bool lb] 102 (0,0)))∧Hid (w'.heap[g4]?=some (.cells #[.int .i64 0,.int .u64 0,.string { data:=#[] },.int .i64 0,.int .i64 0,.int .i64 0,.int .u64 0,.string { data:=#[] },.bool false] 26 (0,0)))∧Hid (Ext w w')∧Hid (w.heap.size≤g4)) ⟨_,_,_,zd ⟨rfl,rfl,rfl⟩,zd (three_new zR).1,zd (three_new zR).2.1,zd (three_new zR).2.2.1,zd (three_new zR).2.2.2,zd (by omega)⟩ ?_
 rintro W1 ⟨g2,g3,g4,hg,H2,H3,H4,HE1,HG4⟩
 rw [←hg.out.2.2,←hg.out.2.1,←hg.out.1]
 clear hg
 go_upto_region 3 with (first|((with_reducible refine wpList_load_rowG ?_ 26 (.tmp 2) ?_ g2 ?_ 26 #[.int .i64 r,.int .u64 ec,.string t,.int .i64 0,.int .i64 k,.int .i64 f,.int .u64 c2,.string t2,.bool fk] (0,0) _ ?_ zu26 ?_ ?_ ?_);(·rfl);(·rfl);(·rfl);(·exact H2.out);(·rfl);(·exact info_state))|(go_at_call 94;refine (rf_check _ _ _ _ _ _ _ _ _ _).mono ?_;rw [hc];rintro e w2 ⟨rfl,hx2⟩;have K2:=zd (heap_ext H2.out hx2);have K3:=zd (heap_ext H3.out hx2);have K4:=zd (heap_ext H4.out hx2);have HE2:=zd (HE1.out.trans hx2);clear hx2))
 have hl2:=zQ K2.out
 have hl3:=zQ K3.out
 have l2:g2<w2.heap.size:=zL K2.out
 have l3:g3<w2.heap.size:=zL K3.out
 go_upto_region 7 with fail
 refine wp_forget (fun w'=>∃ g6,Hid (g6=w2.heap.size)∧Hid (w'.heap[g6]?=some (.cells #[.int .i64 0,.int .u64 ec,.string et,.int .i64 2,.int .i64 0,.int .i64 0,.int .u64 0,.string { data:=#[] },.bool false] 26 (0,0)))∧Hid (Ext w2 w')) ⟨w2.heap.size,zd rfl,zd (heap_new rfl),zd (zR.alloc _)⟩ ?_
 rintro W6 ⟨g6,hg6,H6,HE6⟩
 rw [←hg6.out]
 have HX4:=zd (heap_ext K4.out HE6.out)
 have q6:=zQ H6.out
 have l6:g6<W6.heap.size:=zL H6.out
 clear hl2 hl3 l2 l3
 have HG46:Hid (g4<g6):=zd (by have h1:=(zL K4.out);have h2:=hg6.out;omega)
 have HEW6:Hid (Ext w W6):=zd (HE2.out.trans HE6.out)
 refine wp_region_mixR (af:=?af) [true,true,true,true,false,false,false] 82 #[true,true,true,true,false,false,false] (fun w'=>w'.heap[g6]?=some (.cells #[.int .i64 0,.int .u64 ec,.string et,.int .i64 2,.int .i64 0,.int .i64 0,.int .u64 0,.string { data:=#[] },.bool false] 26 (0,0))∧Ext w w') (by kernel_rfl) rfl (by kernel_rfl) (fun _ _ h e=>⟨heap_ext h.1 e,h.2.trans e⟩) ⟨heap_ext H6.out zR.drew,HEW6.out.trans zR.drew⟩ ?q ?r
 case q=>
  rintro w' ⟨h6,_⟩
  have q6:=zQ h6
  have l6:g6<w'.heap.size:=zL h6
  clear h6
  simp only [pickT,if_true,if_false,Bool.false_eq_true]
  repeat (go_big_quiet_step ((go_at_call 101;exact calls_ext (rf_promise _ _ _ _ _ _ _ _ _ _ _))))
  exact rfl
 case r=>
  have E0:Ext W6 W6.drew:=zR.drew
  have h4:=HX4.out
  refine wpAnyT_two (i:=4) (i2:=5) (by kernel_rfl) rfl rfl ?_ ?_
  ·intro x1
   have e1:Ext W6 x1.val:=E0.val x1
   have hown:=own_new (size:=6) (n:=1) (e:=126) (xs:=Ou.cs ⟨1,prS ec et 0⟩) (cs:=#[.int .i64 1,.int .i64 1,.int .i64 0,.int .u64 ec,.string et,.bool false]) (HEW6.out.trans e1) rfl (by decide) rfl rfl
   go_wp2_with fail
   refine ⟨fun _=>⟨heap_ext H6.out (e1.alloc _),(HEW6.out.trans e1).alloc _⟩,?_⟩
   refine wpAnyT_one (i:=5) (by kernel_rfl) rfl ?_
   intro x2
   have e2:=(e1.alloc (.cells #[.int .i64 1,.int .i64 1,.int .i64 0,.int .u64 ec,.string et,.bool false] 126)).val x2
   go_wp2_with (refine wpList_store_row rfl 26 _ _ rfl g4 _ rfl rfl 26 _ (heap_ext h4 e2) info_state rfl (by simp [Value.oneCell']) ?_)
   refine ⟨fun _=>⟨(setRow_other _ _ _ _ (by have:=HG46.out;omega)).trans (heap_ext H6.out e2),(HEW6.out.trans e2).setRow HG4.out _⟩,?_⟩
   refine wpAnyT_one (i:=6) (by kernel_rfl) rfl ?_
   intro x3
   go_wp2_with fail
   refine ⟨fun h=>absurd h (by decide),?_⟩
   refine wpAnyT_end (by kernel_rfl) fun x4=>?_
   have hf:=heap_ext (heap_ext (setRow_heap _ _ _ _ _ _ (heap_ext h4 e2)) x3.ext) x4.ext
   have ho:=own_ext (own_ext (own_setRow (own_ext hown x2.ext) (heap_ext h4 e2) (by decide) _) x3.ext) x4.ext
   have hx:=(((HEW6.out.trans e2).setRow HG4.out _).val x3).val x4
   go_wp2_with fail
   refine bodyPost_ret (results_row_tmp rfl _ _ _ 26 #[.int .i64 0,.int .u64 ec,.string et,.int .i64 2,.int .i64 0,.int .i64 0,.int .u64 0,.string { data:=#[] },.bool false] (0,0) _ rfl hf zu26 rfl info_state) rfl ?_
   exact ⟨_,rfl,ho,hx⟩
  ·intro x1
   have e1:Ext W6 x1.val:=E0.val x1
   go_wp2_with (refine wpList_store_row rfl 26 _ _ rfl g4 _ rfl rfl 26 _ (heap_ext h4 e1) info_state rfl (by simp [Value.oneCell']) ?_)
   refine ⟨fun _=>⟨(setRow_other _ _ _ _ (by have:=HG46.out;omega)).trans (heap_ext H6.out e1),(HEW6.out.trans e1).setRow HG4.out _⟩,?_⟩
   refine wpAnyT_one (i:=4) (by kernel_rfl) rfl ?_
   intro x2
   have e2:=((HEW6.out.trans e1).setRow HG4.out #[.int .i64 0,.int .u64 ec,.string et,.int .i64 2,.int .i64 0,.int .i64 0,.int .u64 0,.string { data:=#[] },.bool false]).val x2
   have hf2:=heap_ext (setRow_heap _ _ _ #[.int .i64 0,.int .u64 ec,.string et,.int .i64 2,.int .i64 0,.int .i64 0,.int .u64 0,.string { data:=#[] },.bool false] _ _ (heap_ext h4 e1)) x2.ext
   have h62:=heap_ext ((setRow_other x1.val g4 g6 #[.int .i64 0,.int .u64 ec,.string et,.int .i64 2,.int .i64 0,.int .i64 0,.int .u64 0,.string { data:=#[] },.bool false] (by have:=HG46.out;omega)).trans (heap_ext H6.out e1)) x2.ext
   have hown:=own_new (size:=6) (n:=1) (e:=126) (xs:=Ou.cs ⟨1,prS ec et 0⟩) (cs:=#[.int .i64 1,.int .i64 1,.int .i64 0,.int .u64 ec,.string et,.bool false]) e2 rfl (by decide) rfl rfl
   go_wp2_with fail
   refine ⟨fun _=>⟨heap_ext h62 (zR.alloc _),e2.alloc _⟩,?_⟩
   refine wpAnyT_one (i:=6) (by kernel_rfl) rfl ?_
   intro x3
   go_wp2_with fail
   refine ⟨fun h=>absurd h (by decide),?_⟩
   refine wpAnyT_end (by kernel_rfl) fun x4=>?_
   have hf:=heap_ext (heap_ext (heap_ext hf2 (zR.alloc _)) x3.ext) x4.ext
   have ho:=own_ext (own_ext hown x3.ext) x4.ext
   have hx:=((e2.alloc _).val x3).val x4
   go_wp2_with fail
   refine bodyPost_ret (results_row_tmp rfl _ _ _ 26 #[.int .i64 0,.int .u64 ec,.string et,.int .i64 2,.int .i64 0,.int .i64 0,.int .u64 0,.string { data:=#[] },.bool false] (0,0) _ rfl hf zu26 rfl info_state) rfl ?_
   exact ⟨_,rfl,ho,hx⟩
theorem Ext.setCells {a:World} {g:Nat} (hg:a.heap.size≤g) : ∀ (vs:List Value) {w:World} (o:Nat),Ext a w→Ext a (w.setCells g o vs)
 | [],_,_,h=>h
 | v::r,w,o,h=>by
  rw [World.setCells]
  exact Ext.setCells hg r (o+1) (h.setCell (by exact hg) v)
theorem info_ltL (l:Lt):(Tryz.prog.info? 24).map (·.size)=some ([.int .i64 l.k,.int .i64 l.f,.int .u64 l.c,.string l.t,.bool l.b]:List Value).length:=by kernel_rfl
theorem info_ltA (l:Lt):(Tryz.prog.info? 24).map (·.size)=some (#[.int .i64 l.k,.int .i64 l.f,.int .u64 l.c,.string l.t,.bool l.b]:Array Value).size:=by kernel_rfl
def stepF (s:St) (l:Lt) (R:Option Ln):St×List Ou:=match R with|some x=>(⟨s.r,s.c,s.t,x.ph,if x.proof=true then l else s.p⟩,x.out)|none=>(s,[])
theorem rf_stepD (r c:Int) (t:ByteArray) (ph k f c2:Int) (t2:ByteArray) (fk:Bool) (ek ec:Int) (et:ByteArray) (lk lf lc:Int) (lt:ByteArray) (lb:Bool) (w:World) (hc:chk r c t ph k f c2 t2 fk=true) (h0 : ¬ph=0):Calls Tryz.prog 75 #[.agg #[.int .i64 r,.int .u64 c,.string t,.int .i64 ph,.int .i64 k,.int .i64 f,.int .u64 c2,.string t2,.bool fk],.agg #[.int .i64 ek,.int .u64 ec,.string et,.int .i64 lk,.int .i64 lf,.int .u64 lc,.string lt,.bool lb]] w
 (Stepped w (stepF ⟨r,c,t,ph,⟨k,f,c2,t2,fk⟩⟩ ⟨lk,lf,lc,lt,lb⟩ ((docL c t ph).find? (fun x=>evB2 x.E (plainS ⟨ek,ec,et,⟨lk,lf,lc,lt,lb⟩⟩))))):=by
 have HLN:=zd (rf_lines r c t ph k f c2 t2 fk)
 have hl3:=docL_len c t ph
 have HPL:=zd (rf_plain ek ec et lk lf lc lt lb)
 generalize docL c t ph=L at HLN hl3 ⊢
 generalize plainS ⟨ek,ec,et,⟨lk,lf,lc,lt,lb⟩⟩=P at HPL ⊢
 obtain ⟨R,hR⟩ : ∃ R,L.find? (fun x=>evB2 x.E P)=R:=⟨_,rfl⟩
 have HR0:Hid (L.find? (fun x=>evB2 x.E P)=R):=zd hR
 rw [hR]
 clear hR
 go_enter Tryz.func75,Tryz.ntmps75
 go_upto_region 1 with fail
 refine wp_forget (fun w'=>∃ g2 g3 g4,Hid (g2=w.heap.size∧g3=w.heap.size+1∧g4=w.heap.size+1+1)∧Hid (w'.heap[g2]?=some (.cells #[.int .i64 r,.int .u64 c,.string t,.int .i64 ph,.int .i64 k,.int .i64 f,.int .u64 c2,.string t2,.bool fk] 26 (0,0)))∧Hid (w'.heap[g3]?=some (.cells #[.int .i64 ek,.int .u64 ec,.string et,.int .i64 lk,.int .i64 lf,.int .u64 lc,.string lt,.bool lb] 102 (0,0)))∧Hid (w'.heap[g4]?=some (.cells #[.int .i64 0,.int .u64 0,.string { data:=#[] },.int .i64 0,.int .i64 0,.int .i64 0,.int .u64 0,.string { data:=#[] },.bool false] 26 (0,0)))∧Hid (Ext w w')∧Hid (w.heap.size≤g4)) ⟨_,_,_,zd ⟨rfl,rfl,rfl⟩,zd (three_new zR).1,zd (three_new zR).2.1,zd (three_new zR).2.2.1,zd (three_new zR).2.2.2,zd (by omega)⟩ ?_
 rintro W1 ⟨g2,g3,g4,hg,H2,H3,H4,HE1,HG4⟩
 rw [←hg.out.2.2,←hg.out.2.1,←hg.out.1]
 clear hg
 go_upto_region 3 with (first|((with_reducible refine wpList_load_rowG ?_ 26 (.tmp 2) ?_ g2 ?_ 26 #[.int .i64 r,.int .u64 c,.string t,.int .i64 ph,.int .i64 k,.int .i64 f,.int .u64 c2,.string t2,.bool fk] (0,0) _ ?_ zu26 ?_ ?_ ?_);(·rfl);(·rfl);(·rfl);(·exact H2.out);(·rfl);(·exact info_state))|(go_at_call 94;refine (rf_check _ _ _ _ _ _ _ _ _ _).mono ?_;rw [hc];rintro e w2 ⟨rfl,hx2⟩;have K2:=zd (heap_ext H2.out hx2);have K3:=zd (heap_ext H3.out hx2);have K4:=zd (heap_ext H4.out hx2);have HE2:=zd (HE1.out.trans hx2);clear hx2))
 have q23:w2.cell? ⟨g2,3,none⟩=some (.int .i64 ph):=zQ K2.out 3
 have l2:g2<w2.heap.size:=zL K2.out
 have HBW:Hid (w.heap.size≤w2.heap.size):=zd HE2.out.size
 go_upto_region 9 with (first|((with_reducible refine wpList_load_rowG ?_ 26 (.tmp 2) ?_ g2 ?_ 26 #[.int .i64 r,.int .u64 c,.string t,.int .i64 ph,.int .i64 k,.int .i64 f,.int .u64 c2,.string t2,.bool fk] (0,0) _ ?_ zu26 ?_ ?_ ?_);(·rfl);(·rfl);(·rfl);(·exact K2.out);(·rfl);(·exact info_state))|(go_at_call 102;refine (HLN.out _).mono ?_;rintro e w3 ⟨lv,vs,rfl,hvs,hrow,hou,hx3⟩;obtain ⟨la,lcp,rfl⟩:=own_sl hrow;have HROW:=zd hrow;have HVS:=zd hvs;have HOU:=zd hou;have HX3:=zd hx3;clear hrow hx3 hou hvs))
 have HX32:Hid (w2.heap.size≤w3.heap.size):=zd HX3.out.size
 have HG42:Hid (g4<w2.heap.size):=zd (zL K4.out)
 have HE3:Hid (Ext w w3):=zd (HE2.out.trans HX3.out)
 have K23:=zd (heap_ext K2.out HX3.out)
 have K33:=zd (heap_ext K3.out HX3.out)
 have K43:=zd (heap_ext K4.out HX3.out)
 clear q23 l2 K2 K3 K4 HX3 HLN
 go_wp2_with fail
 go_loopg [8] L.length (fun g t8 wr=>∃ i:Nat,t8 = .int .i64 (i:Int)∧i+g=L.length∧Hid (Ext w3 wr)∧Hid ((L.drop i).find? (fun x=>evB2 x.E P)=R))
 case atStart=>exact ⟨0,rfl,by omega,zd zR,HR0⟩
 case round=>
  clear HR0
  obtain ⟨i,rfl,hg,HER,HR⟩:=hrel
  rename World=>Wr
  by_cases hlt:i<L.length
  case neg=>
   have i1 : ¬(i:Int)<(L.length:Int):=by omega
   have hg4:=heap_ext K43.out HER.out
   have HX4:=zd hg4
   have HX2:=zd (heap_ext K23.out HER.out)
   clear hg4
   go_wp2_with (first|((with_reducible refine wpList_load_rowG ?_ 26 (.tmp 2) ?_ g2 ?_ 26 #[.int .i64 r,.int .u64 c,.string t,.int .i64 ph,.int .i64 k,.int .i64 f,.int .u64 c2,.string t2,.bool fk] (0,0) _ ?_ zu26 ?_ ?_ ?_);(·rfl);(·rfl);(·rfl);(·exact HX2.out);(·rfl);(·exact info_state))|(refine wpList_store_row rfl 26 _ _ rfl g4 _ rfl rfl 26 _ HX4.out info_state rfl (by simp [Value.oneCell']) ?_))
   refine bodyPost_ret (results_row_tmp rfl _ _ _ 26 #[.int .i64 r,.int .u64 c,.string t,.int .i64 ph,.int .i64 k,.int .i64 f,.int .u64 c2,.string t2,.bool fk] (0,0) _ rfl (setRow_heap _ _ _ _ _ _ HX4.out) zu26 rfl info_state) rfl ?_
   have h1:=HR.out
   rw [List.drop_eq_nil_of_le (by omega),List.find?_nil] at h1
   rw [←h1]
   exact ⟨_,rfl,World.ownsRow_nil _ _ _ _,(HE3.out.trans HER.out).setRow HG4.out _⟩
  have i1:(i:Int)<(L.length:Int):=by omega
  obtain ⟨x,hx⟩ : ∃ x,L[i]?=some x:=⟨_,zG hlt⟩
  obtain ⟨g0,cap,u,hv,hu,hgl,hmx,hrg⟩:=ln_at HROW.out HVS.out hx
  cases hv
  unfold maxLen at hmx
  have hou:=HOU.out i x u hx hu
  obtain ⟨ua,uc,rfl⟩:=own_sl hou
  have HOX:=zd hou
  have HRG:=zd hrg
  have HGL:=zd hgl
  have HRE:Hid (Wr.rangeAt g0 (i*11) x.E.cs):=zd fun j v hj=>cell_keep (ln_E hrg j v hj) HER.out
  have hgr:g0<Wr.heap.size:=zU hgl HER.out.size
  have HRD:Hid (L.drop i=x::L.drop (i+1)):=zd (by
   obtain ⟨h1,h2⟩:=List.getElem?_eq_some_iff.1 hx
   rw [List.drop_eq_getElem_cons h1,h2])
  have HK3:=zd (heap_ext K33.out HER.out)
  clear hou hrg hgl hx hu
  rcases hb:evB2 x.E P
  case false=>
   have hb2:eEq x.E.k x.E.c x.E.t x.E.l.k x.E.l.f x.E.l.c x.E.l.t x.E.l.b P.k P.c P.t P.l.k P.l.f P.l.c P.l.t P.l.b=false:=hb
   have HB:=zd hb
   clear hb
   go_upto_region 12 with fail
   refine wp_region_ext (by kernel_rfl) (by kernel_rfl) ?_
   go_big_quiet_step (fail)
   go_big_quiet_step (fail)
   go_big_quiet_step (fail)
   go_big_quiet_step (fail)
   (go_big_quiet_want;refine quiet_load_midA 102 _ rfl g0 (i*11) rfl #[.int .i64 x.E.k,.int .u64 x.E.c,.string x.E.t,.int .i64 x.E.l.k,.int .i64 x.E.l.f,.int .u64 x.E.l.c,.string x.E.l.t,.bool x.E.l.b] (.struct _) (fun j v hj=>HRE.out j v hj) zu102 rfl (info_evE x.E) ?_;go_big_quiet_on;simp only [Act.put,List.setIfInBounds_toArray,List.set_cons_succ,List.set_cons_zero])
   (go_big_quiet_want;refine quiet_load_rowX 102 _ rfl _ rfl _ #[.int .i64 ek,.int .u64 ec,.string et,.int .i64 lk,.int .i64 lf,.int .u64 lc,.string lt,.bool lb] (0,0) _ HK3.out zu102 rfl (info_evE ⟨ek,ec,et,⟨lk,lf,lc,lt,lb⟩⟩) ?_;go_big_quiet_on;simp only [Act.put,List.setIfInBounds_toArray,List.set_cons_succ,List.set_cons_zero])
   repeat (go_big_quiet_step ((go_at_call 103;exact calls_ext (HPL.out _))))
   refine wpQuiet_nil ?_
   rintro _ ⟨x12,rfl⟩
   go_wp2_with fail
   go_roundg (gk - 1)
   case rel=>
    refine ⟨i+1,by simp,by omega,zd (HER.out.val x12),zd ?_⟩
    have h1:=HR.out
    rw [HRD.out,List.find?_cons,HB.out] at h1
    exact h1
   case measure=>omega
  case true=>
   have hb2:eEq x.E.k x.E.c x.E.t x.E.l.k x.E.l.f x.E.l.c x.E.l.t x.E.l.b P.k P.c P.t P.l.k P.l.f P.l.c P.l.t P.l.b=true:=hb
   have HB:=zd hb
   clear hb
   go_upto_region 12 with fail
   refine wp_region_ext (by kernel_rfl) (by kernel_rfl) ?_
   go_big_quiet_step (fail)
   go_big_quiet_step (fail)
   go_big_quiet_step (fail)
   go_big_quiet_step (fail)
   (go_big_quiet_want;refine quiet_load_midA 102 _ rfl g0 (i*11) rfl #[.int .i64 x.E.k,.int .u64 x.E.c,.string x.E.t,.int .i64 x.E.l.k,.int .i64 x.E.l.f,.int .u64 x.E.l.c,.string x.E.l.t,.bool x.E.l.b] (.struct _) (fun j v hj=>HRE.out j v hj) zu102 rfl (info_evE x.E) ?_;go_big_quiet_on;simp only [Act.put,List.setIfInBounds_toArray,List.set_cons_succ,List.set_cons_zero])
   (go_big_quiet_want;refine quiet_load_rowX 102 _ rfl _ rfl _ #[.int .i64 ek,.int .u64 ec,.string et,.int .i64 lk,.int .i64 lf,.int .u64 lc,.string lt,.bool lb] (0,0) _ HK3.out zu102 rfl (info_evE ⟨ek,ec,et,⟨lk,lf,lc,lt,lb⟩⟩) ?_;go_big_quiet_on;simp only [Act.put,List.setIfInBounds_toArray,List.set_cons_succ,List.set_cons_zero])
   repeat (go_big_quiet_step ((go_at_call 103;exact calls_ext (HPL.out _))))
   refine wpQuiet_nil ?_
   rintro _ ⟨x12,rfl⟩
   have HE12:Hid (Ext w3 x12.val):=zd (HER.out.val x12)
   have HX2:=zd (heap_ext K23.out HE12.out)
   have HG04:Hid (g4<w2.heap.size∧w2.heap.size≤g0∧w2.heap.size≤w3.heap.size):=zd ⟨HG42.out,(own_rowB9 HROW.out g0 (by simp [rowB,Value.ownBlock])).1,HX32.out⟩
   clear HRE hgr hb2
   generalize x12.val=W12 at HE12 HX2 ⊢
   clear x12
   go_upto_region 14 with (first|((with_reducible refine wpList_load_rowG ?_ 26 (.tmp 2) ?_ g2 ?_ 26 #[.int .i64 r,.int .u64 c,.string t,.int .i64 ph,.int .i64 k,.int .i64 f,.int .u64 c2,.string t2,.bool fk] (0,0) _ ?_ zu26 ?_ ?_ ?_);(·rfl);(·rfl);(·rfl);(·exact HX2.out);(·rfl);(·exact info_state))|(refine wpList_store_row rfl 26 _ _ rfl W12.heap.size _ rfl rfl 26 _ (heap_new rfl) info_state rfl (by simp [Value.oneCell']) ?_))
   refine wp_forget (fun w'=>∃ g9,Hid (g9=W12.heap.size)∧Hid (w'.heap[g9]?=some (.cells #[.int .i64 r,.int .u64 c,.string t,.int .i64 ph,.int .i64 k,.int .i64 f,.int .u64 c2,.string t2,.bool fk] 26 (0,0)))∧Hid (Ext W12 w')) ⟨W12.heap.size,zd rfl,zd (by first|exact heap_new rfl|exact setRow_heap _ _ _ _ _ _ (heap_new rfl)),zd (by first|exact zR.alloc _|exact (zR.alloc _).setRow zN _)⟩ ?_
   rintro W13 ⟨g9,hg9,H13,HE13⟩
   rw [←hg9.out]
   have HG9:Hid (w3.heap.size≤g9):=zd (by have h1:=hg9.out;have h2:=HE12.out.size;omega)
   have HG49:Hid (g4<g9):=zd (by have h1:=HG9.out;have h2:=HG04.out;omega)
   have HG40:Hid (g0≠g4):=zd (by have h2:=HG04.out;omega)
   have E13:Hid (Ext w3 W13):=zd (HE12.out.trans HE13.out)
   clear hg9 HX2 HG04 HE13 HE12
   have qph:W13.cell? ⟨g0,i*11+8,none⟩=some (.int .i64 x.ph):=cell_keep (HRG.out 8 _ rfl) E13.out
   have lg0:g0<W13.heap.size:=zU HGL.out E13.out.size
   have q93:W13.cell? ⟨g9,3,none⟩=some (.int .i64 ph):=zQ H13.out 3
   have f93:=zF H13.out 3
   have lg9:g9<W13.heap.size:=zL H13.out
   go_upto_region 15 with fail
   refine wp_forget (fun w'=>Hid (w'.heap[g9]?=some (.cells #[.int .i64 r,.int .u64 c,.string t,.int .i64 x.ph,.int .i64 k,.int .i64 f,.int .u64 c2,.string t2,.bool fk] 26 (0,0)))∧Hid (Ext w3 w')) ⟨zd (by have:=heap_setCell_same _ _ 3 _ _ (Value.int .i64 x.ph) H13.out;exact this),zd (E13.out.setCell HG9.out _)⟩ ?_
   rintro W14 ⟨H14,E14⟩
   clear qph lg0 q93 f93 lg9 H13 E13
   have qpf:W14.cell? ⟨g0,i*11+10,none⟩=some (.bool x.proof):=cell_keep (HRG.out 10 _ rfl) E14.out
   have lg0:g0<W14.heap.size:=zU HGL.out E14.out.size
   rcases hpf:x.proof
   case false=>
    have HPF:=zd hpf
    rw [hpf] at qpf
    clear hpf
    have E3:=E14.out
    have HC9:=zd (H14.out)
    have HE9:Hid (Ext w W14):=zd (HE3.out.trans E14.out)
    have hrow9:W14.cell? ⟨g0,i*11+9,none⟩=some (.slice ua x.out.length uc):=cell_keep (HRG.out 9 _ rfl) E3
    have hg09:g0<W14.heap.size:=zU HGL.out E3.size
    go_upto_region 17 with fail
    refine wp_region_mixR (af:=?af1) [true,true,true,true,true,true,false,false] 82 #[true,true,true,true,true,true,false,false] (fun w'=>w'.heap[g9]?=some (.cells #[.int .i64 r,.int .u64 c,.string t,.int .i64 x.ph,.int .i64 k,.int .i64 f,.int .u64 c2,.string t2,.bool fk] 26 (0,0))∧w'.cell? ⟨g0,i*11+9,none⟩=some (.slice ua x.out.length uc)∧g0<w'.heap.size) (by kernel_rfl) rfl (by kernel_rfl) (fun _ _ h e=>⟨heap_ext h.1 e,cell_keep h.2.1 e,zU h.2.2 e.size⟩) ⟨heap_ext HC9.out zR.drew,cell_keep hrow9 zR.drew,zU hg09 zR.drew.size⟩ ?q1 ?r1
    case q1=>
     rintro w' ⟨h9,hu9,hg9'⟩
     have q9:=zQ h9
     have l9:g9<w'.heap.size:=zL h9
     clear h9
     simp only [pickT,if_true,if_false,Bool.false_eq_true]
     repeat (go_big_quiet_step (fail))
     exact rfl
    case r1=>
     have E0:Ext W14 W14.drew:=zR.drew
     have hg4:=heap_ext K43.out E3
     refine wpAnyT_one (i:=6) (by kernel_rfl) rfl ?_
     intro x1
     have e1:Ext W14 x1.val:=E0.val x1
     go_wp2_with (refine wpList_store_row rfl 26 _ _ rfl g4 _ rfl rfl 26 _ (heap_ext hg4 e1) info_state rfl (by simp [Value.oneCell']) ?_)
     refine ⟨fun _=>⟨(setRow_other _ _ _ _ (by have:=HG49.out;omega)).trans (heap_ext HC9.out e1),?_,?_⟩,?_⟩
     ·exact (World.cell?_of_block (setRow_other x1.val g4 g0 _ (by have:=HG40.out;omega))).trans (cell_keep hrow9 e1)
     ·have h1:=e1.size
      simp
      omega
     refine wpAnyT_one (i:=7) (by kernel_rfl) rfl ?_
     intro x2
     go_wp2_with fail
     refine ⟨fun h=>absurd h (by decide),?_⟩
     refine wpAnyT_end (by kernel_rfl) fun x3=>?_
     have hf:=heap_ext (heap_ext (setRow_heap _ _ _ #[.int .i64 r,.int .u64 c,.string t,.int .i64 x.ph,.int .i64 k,.int .i64 f,.int .u64 c2,.string t2,.bool fk] _ _ (heap_ext hg4 e1)) x2.ext) x3.ext
     have ho:=own_ext (own_ext (own_setRow (own_ext (own_ext HOX.out E3) e1) (heap_ext hg4 e1) (by decide) #[.int .i64 r,.int .u64 c,.string t,.int .i64 x.ph,.int .i64 k,.int .i64 f,.int .u64 c2,.string t2,.bool fk]) x2.ext) x3.ext
     have hx:=(((HE9.out.trans e1).setRow HG4.out #[.int .i64 r,.int .u64 c,.string t,.int .i64 x.ph,.int .i64 k,.int .i64 f,.int .u64 c2,.string t2,.bool fk]).val x2).val x3
     go_wp2_with fail
     refine bodyPost_ret (results_row_tmp rfl _ _ _ 26 #[.int .i64 r,.int .u64 c,.string t,.int .i64 x.ph,.int .i64 k,.int .i64 f,.int .u64 c2,.string t2,.bool fk] (0,0) _ rfl hf zu26 rfl info_state) rfl ?_
     have h1:=HR.out
     rw [HRD.out,List.find?_cons,HB.out] at h1
     rw [←h1]
     exact ⟨.slice ua x.out.length uc,by simp [stepF,St.cs,Lt.cs,HPF.out],by simpa [stepF] using own_base ho HBW.out,hx⟩
   case true=>
    have HPF:=zd hpf
    rw [hpf] at qpf
    clear hpf
    go_upto_region 17 with (first|((with_reducible refine wpList_load_midG 24 (.tmp 72) ?_ g3 (3) ?_ ?_ [.int .i64 lk,.int .i64 lf,.int .u64 lc,.string lt,.bool lb] _ ?_ zu24 ?_ ?_ ?_);(·rfl);(·rfl);(·kernel_rfl);(·exact (range_of_row (heap_ext K33.out E14.out) 3 5 _ rfl));(·rfl);(·exact info_ltL ⟨lk,lf,lc,lt,lb⟩))|((with_reducible refine wpList_store_mid ?_ 24 (.tmp 74) (.tmp 73) ?_ g9 4 #[.int .i64 lk,.int .i64 lf,.int .u64 lc,.string lt,.bool lb] ?_ ?_ ?_ ?_ ?_ ?_);(·rfl);(·rfl);(·rfl);(·rfl);(·exact there_row H14.out (by exact Nat.le_refl 9));(·exact info_ltA ⟨lk,lf,lc,lt,lb⟩);(·simp [Value.oneCell'])))
    refine wp_forget (fun w'=>Hid (w'.heap[g9]?=some (.cells #[.int .i64 r,.int .u64 c,.string t,.int .i64 x.ph,.int .i64 lk,.int .i64 lf,.int .u64 lc,.string lt,.bool lb] 26 (0,0)))∧Hid (Ext w3 w')) ⟨zd (by have:=puts_row [.int .i64 lk,.int .i64 lf,.int .u64 lc,.string lt,.bool lb] _ g9 4 _ H14.out;exact this),zd (Ext.setCells HG9.out _ _ E14.out)⟩ ?_
    rintro W15 ⟨H15,E15⟩
    simp only [Act.put]
    have E3:=E15.out
    have HC9:=zd (H15.out)
    have HE9:Hid (Ext w W15):=zd (HE3.out.trans E15.out)
    have hrow9:W15.cell? ⟨g0,i*11+9,none⟩=some (.slice ua x.out.length uc):=cell_keep (HRG.out 9 _ rfl) E3
    have hg09:g0<W15.heap.size:=zU HGL.out E3.size
    go_upto_region 17 with fail
    refine wp_region_mixR (af:=?af2) [true,true,true,true,true,true,false,false] 82 #[true,true,true,true,true,true,false,false] (fun w'=>w'.heap[g9]?=some (.cells #[.int .i64 r,.int .u64 c,.string t,.int .i64 x.ph,.int .i64 lk,.int .i64 lf,.int .u64 lc,.string lt,.bool lb] 26 (0,0))∧w'.cell? ⟨g0,i*11+9,none⟩=some (.slice ua x.out.length uc)∧g0<w'.heap.size) (by kernel_rfl) rfl (by kernel_rfl) (fun _ _ h e=>⟨heap_ext h.1 e,cell_keep h.2.1 e,zU h.2.2 e.size⟩) ⟨heap_ext HC9.out zR.drew,cell_keep hrow9 zR.drew,zU hg09 zR.drew.size⟩ ?q2 ?r2
    case q2=>
     rintro w' ⟨h9,hu9,hg9'⟩
     have q9:=zQ h9
     have l9:g9<w'.heap.size:=zL h9
     clear h9
     simp only [pickT,if_true,if_false,Bool.false_eq_true]
     repeat (go_big_quiet_step (fail))
     exact rfl
    case r2=>
     have E0:Ext W15 W15.drew:=zR.drew
     have hg4:=heap_ext K43.out E3
     refine wpAnyT_one (i:=6) (by kernel_rfl) rfl ?_
     intro x1
     have e1:Ext W15 x1.val:=E0.val x1
     go_wp2_with (refine wpList_store_row rfl 26 _ _ rfl g4 _ rfl rfl 26 _ (heap_ext hg4 e1) info_state rfl (by simp [Value.oneCell']) ?_)
     refine ⟨fun _=>⟨(setRow_other _ _ _ _ (by have:=HG49.out;omega)).trans (heap_ext HC9.out e1),?_,?_⟩,?_⟩
     ·exact (World.cell?_of_block (setRow_other x1.val g4 g0 _ (by have:=HG40.out;omega))).trans (cell_keep hrow9 e1)
     ·have h1:=e1.size
      simp
      omega
     refine wpAnyT_one (i:=7) (by kernel_rfl) rfl ?_
     intro x2
     go_wp2_with fail
     refine ⟨fun h=>absurd h (by decide),?_⟩
     refine wpAnyT_end (by kernel_rfl) fun x3=>?_
     have hf:=heap_ext (heap_ext (setRow_heap _ _ _ #[.int .i64 r,.int .u64 c,.string t,.int .i64 x.ph,.int .i64 lk,.int .i64 lf,.int .u64 lc,.string lt,.bool lb] _ _ (heap_ext hg4 e1)) x2.ext) x3.ext
     have ho:=own_ext (own_ext (own_setRow (own_ext (own_ext HOX.out E3) e1) (heap_ext hg4 e1) (by decide) #[.int .i64 r,.int .u64 c,.string t,.int .i64 x.ph,.int .i64 lk,.int .i64 lf,.int .u64 lc,.string lt,.bool lb]) x2.ext) x3.ext
     have hx:=(((HE9.out.trans e1).setRow HG4.out #[.int .i64 r,.int .u64 c,.string t,.int .i64 x.ph,.int .i64 lk,.int .i64 lf,.int .u64 lc,.string lt,.bool lb]).val x2).val x3
     go_wp2_with fail
     refine bodyPost_ret (results_row_tmp rfl _ _ _ 26 #[.int .i64 r,.int .u64 c,.string t,.int .i64 x.ph,.int .i64 lk,.int .i64 lf,.int .u64 lc,.string lt,.bool lb] (0,0) _ rfl hf zu26 rfl info_state) rfl ?_
     have h1:=HR.out
     rw [HRD.out,List.find?_cons,HB.out] at h1
     rw [←h1]
     exact ⟨.slice ua x.out.length uc,by simp [stepF,St.cs,Lt.cs,HPF.out],by simpa [stepF] using own_base ho HBW.out,hx⟩
theorem rf_step (r c:Int) (t:ByteArray) (ph k f c2:Int) (t2:ByteArray) (fk:Bool) (ek ec:Int) (et:ByteArray) (lk lf lc:Int) (lt:ByteArray) (lb:Bool) (w:World):Calls Tryz.prog 75 #[.agg #[.int .i64 r,.int .u64 c,.string t,.int .i64 ph,.int .i64 k,.int .i64 f,.int .u64 c2,.string t2,.bool fk],.agg #[.int .i64 ek,.int .u64 ec,.string et,.int .i64 lk,.int .i64 lf,.int .u64 lc,.string lt,.bool lb]] w (Stepped w (stepS ⟨r,c,t,ph,⟨k,f,c2,t2,fk⟩⟩ ⟨ek,ec,et,⟨lk,lf,lc,lt,lb⟩⟩)):=by
 rw [step_doc]
 unfold stepD
 rcases hc:chk r c t ph k f c2 t2 fk
 case false=>
  rw [if_neg (show ¬chkS ⟨r,c,t,ph,⟨k,f,c2,t2,fk⟩⟩=true from by unfold chkS;rw [hc];simp)]
  exact rf_stepA _ _ _ _ _ _ _ _ _ _ _ _ _ _ _ _ _ _ hc
 rw [if_pos (show chkS ⟨r,c,t,ph,⟨k,f,c2,t2,fk⟩⟩=true from hc)]
 by_cases h0:ph=0
 case neg=>
  rw [if_neg (show ¬(⟨r,c,t,ph,⟨k,f,c2,t2,fk⟩⟩:St).ph=0 from h0)]
  exact rf_stepD _ _ _ _ _ _ _ _ _ _ _ _ _ _ _ _ _ _ hc h0
 subst h0
 rw [if_pos (show (⟨r,c,t,0,⟨k,f,c2,t2,fk⟩⟩:St).ph=0 from rfl)]
 by_cases h1:ek=1∧ec=c∧et.size≤64
 case neg=>
  rw [if_neg (show ¬((⟨ek,ec,et,⟨lk,lf,lc,lt,lb⟩⟩:Ev).k=1∧(⟨ek,ec,et,⟨lk,lf,lc,lt,lb⟩⟩:Ev).c=(⟨r,c,t,0,⟨k,f,c2,t2,fk⟩⟩:St).c∧(⟨ek,ec,et,⟨lk,lf,lc,lt,lb⟩⟩:Ev).t.size≤64) from h1)]
  exact rf_stepB _ _ _ _ _ _ _ _ _ _ _ _ _ _ _ _ _ hc h1
 rw [if_pos (show ((⟨ek,ec,et,⟨lk,lf,lc,lt,lb⟩⟩:Ev).k=1∧(⟨ek,ec,et,⟨lk,lf,lc,lt,lb⟩⟩:Ev).c=(⟨r,c,t,0,⟨k,f,c2,t2,fk⟩⟩:St).c∧(⟨ek,ec,et,⟨lk,lf,lc,lt,lb⟩⟩:Ev).t.size≤64) from h1)]
 obtain ⟨rfl,rfl,h2⟩:=h1
 exact rf_stepC _ _ _ _ _ _ _ _ _ _ _ _ _ _ _ hc (by omega)
def ltB (s:St) (n:Int):Lt:=⟨n,0,s.c,if n=5 then { data:=#[] } else s.t,false⟩
def mtB (s:St) (e:Ev) (r:RwB):Bool:=decide (r.i=s.ph) && (if r.tick=true then decide (e.k=3∧e.c=s.c) else decide (e.k=2) && decide (e.l=ltB s r.k))
def stepBF (s:St) (l:Lt) (R:Option RwB):St×List Ou:=match R with
 | some r=>(⟨s.r,s.c,s.t,r.nx,if r.nx=6∧¬s.ph=6 then l else s.p⟩,if r.s=0 then [] else [⟨if r.s=4 then 2 else 0,⟨r.s,1,s.c,s.t,false⟩⟩])
 | none=>(s,[])
def stepBD (s:St) (e:Ev):St×List Ou:=
 if chkA s=true then
  if s.ph=0 then (if e.k=1∧e.c=s.c∧e.t.size≤64 then (⟨s.r,s.c,e.t,1,s.p⟩,[]) else (s,[]))
  else stepBF s e.l (tblB.find? (mtB s e))
 else (s,[])
theorem told_is (s:St) (l:Lt) (hz:s.t.size≤64):toldA s l=if l=prS s.c s.t 0 then 1 else if l=sgS s.c s.t 0 then 2 else if l=inS s.c s.t then 6 else if l=tkS s.c then 5 else 0:=by
 have h1:lchk (prS s.c s.t 0)=0:=lchk_ok (by simp [prS]) (.inl rfl) hz
 have h2:lchk (sgS s.c s.t 0)=0:=lchk_ok (by simp) (.inl rfl) hz
 have h3:lchk (inS s.c s.t)=0:=lchk_ok (by simp) (.inl rfl) hz
 have h4:lchk (tkS s.c)=0:=lchk_ok (by simp) (.inl rfl) (by decide)
 unfold toldA
 by_cases e1:l=prS s.c s.t 0
 ·rw [if_pos e1,e1,h1];simp [prS]
 by_cases e2:l=sgS s.c s.t 0
 ·rw [if_neg e1,if_pos e2,e2,h2];simp [sgS]
 by_cases e3:l=inS s.c s.t
 ·rw [if_neg e1,if_neg e2,if_pos e3,e3,h3];simp [inS]
 by_cases e4:l=tkS s.c
 ·rw [if_neg e1,if_neg e2,if_neg e3,if_pos e4,e4,h4];simp [tkS]
 rw [if_neg e1,if_neg e2,if_neg e3,if_neg e4]
 split
 ·rfl
 ·rw [if_neg (by rintro (h|h|h|h)<;>contradiction)]
theorem chkA_phase {s:St} (h:chkA s=true):s.t.size≤64∧(s.ph=0∨s.ph=1∨s.ph=2∨s.ph=5∨s.ph=6∨s.ph=7):=by
 unfold chkA at h
 simp only [Bool.and_eq_true,decide_eq_true_eq] at h
 refine ⟨h.1.2,?_⟩
 have h2:=h.2
 by_cases h0:s.ph=0
 ·exact .inl h0
 rw [if_neg h0] at h2
 by_cases h1:s.ph=1∨s.ph=2∨s.ph=5∨s.ph=7
 ·omega
 rw [if_neg h1] at h2
 by_cases h6:s.ph=6
 ·omega
 rw [if_neg h6] at h2
 cases h2
theorem ltB_1 (s:St):ltB s 1=prS s.c s.t 0:=by simp [ltB,prS]
theorem ltB_2 (s:St):ltB s 2=sgS s.c s.t 0:=by simp [ltB,sgS]
theorem ltB_6 (s:St):ltB s 6=inS s.c s.t:=by simp [ltB,inS]
theorem ltB_5 (s:St):ltB s 5=tkS s.c:=by simp [ltB,tkS]
theorem stepA_doc (s:St) (e:Ev):stepA s e=stepBD s e:=by
 unfold stepA stepBD
 rcases hc:chkA s
 ·simp
 rw [if_pos rfl,if_pos rfl]
 obtain ⟨hz,hph⟩:=chkA_phase hc
 have hd : ∀ a b:Lt,a.k≠b.k→a≠b:=fun a b h e=>h (congrArg Lt.k e)
 rcases hph with h|h|h|h|h|h
 ·rw [if_pos h]
  by_cases h2:e.k=2
  ·simp [h2,takesA,h]
  ·by_cases h3:e.c=s.c
   ·by_cases h4:e.k=3
    ·simp [h4,h3,ticksA,h]
    ·simp [h2,h3,h4,h]
   ·simp [h2,h3]
 all_goals
  rw [if_neg (show ¬s.ph=0 by omega)]
  by_cases h2:e.k=2
  ·rw [if_pos h2]
   have h3 : ¬e.k=3:=by omega
   unfold takesA
   rw [told_is s e.l hz]
   by_cases e1:e.l=prS s.c s.t 0
   ·simp [tblB,mtB,stepBF,h,h2,h3,e1,ltB_1,ltB_2,ltB_5,ltB_6,prS,sgS,inS,tkS,List.find?]<;>(cases s;simp_all)
   by_cases e2:e.l=sgS s.c s.t 0
   ·simp [tblB,mtB,stepBF,h,h2,h3,e2,ltB_1,ltB_2,ltB_5,ltB_6,prS,sgS,inS,tkS,List.find?]<;>(cases s;simp_all)
   by_cases e3:e.l=inS s.c s.t
   ·simp [tblB,mtB,stepBF,h,h2,h3,e3,ltB_1,ltB_2,ltB_5,ltB_6,prS,sgS,inS,tkS,List.find?]<;>(cases s;simp_all)
   by_cases e4:e.l=tkS s.c
   ·simp [tblB,mtB,stepBF,h,h2,h3,e4,ltB_1,ltB_2,ltB_5,ltB_6,prS,sgS,inS,tkS,List.find?]<;>(cases s;simp_all)
   simp [tblB,mtB,stepBF,h,h2,h3,e1,e2,e3,e4,ltB_1,ltB_2,ltB_5,ltB_6,List.find?]<;>(cases s;simp_all)
  ·rw [if_neg h2]
   by_cases h3:e.c=s.c
   ·rw [if_pos h3]
    by_cases h4:e.k=3
    ·simp [tblB,mtB,stepBF,ticksA,h,h3,h4,List.find?,rsA]<;>(cases s;simp_all)
    ·simp [tblB,mtB,stepBF,h,h2,h3,h4,List.find?]<;>(cases s;simp_all)
   ·rw [if_neg h3]
    simp [tblB,mtB,stepBF,h,h2,h3,List.find?]<;>(cases s;simp_all)
end Go.Proofs.YtlnmhocehgmbbaaGreatDoor

/- No condition. -/
import Derived.Test.YtlnmhocehgmbbaaGreatDoorWY24
import Derived.Test.YtlnmhocehgmbbaaGreatDoorWY26
set_option linter.all false
set_option maxRecDepth 100000
set_option maxHeartbeats 6400000
namespace Go.Proofs.YtlnmhocehgmbbaaGreatDoor
open Go.RowKit
attribute [local go_sem ↓] eql_lEq eql_sEq eql_eEq eql_oEq neq_lEq neq_sEq neq_eEq neq_oEq
attribute [local go_sem] ExtOf.cell ExtOf.frozen ExtOf.lt ExtOf.le
attribute [local go_sem high] ExtOf.cell2 ExtOf.frozen2 ExtOf.lt2 ExtOf.cell3 ExtOf.frozen3 ExtOf.lt3
theorem rb_stepA (r c:Int) (t:ByteArray) (ph k f c2:Int) (t2:ByteArray) (fk:Bool) (ek ec:Int) (et:ByteArray) (lk lf lc:Int) (lt:ByteArray) (lb:Bool) (w:World) (hc:chkA ⟨r,c,t,ph,⟨k,f,c2,t2,fk⟩⟩=false):Calls Tryz.prog 76 #[.agg #[.int .i64 r,.int .u64 c,.string t,.int .i64 ph,.int .i64 k,.int .i64 f,.int .u64 c2,.string t2,.bool fk],.agg #[.int .i64 ek,.int .u64 ec,.string et,.int .i64 lk,.int .i64 lf,.int .u64 lc,.string lt,.bool lb]] w (Stepped w (⟨r,c,t,ph,⟨k,f,c2,t2,fk⟩⟩,[])):=by
 go_enter Tryz.func76,Tryz.ntmps76
 go_upto_region 1 with fail
 refine wp_forget (fun w'=>∃ g2 g3 g4,Hid (g2=w.heap.size∧g3=w.heap.size+1∧g4=w.heap.size+1+1)∧Hid (w'.heap[g2]?=some (.cells #[.int .i64 r,.int .u64 c,.string t,.int .i64 ph,.int .i64 k,.int .i64 f,.int .u64 c2,.string t2,.bool fk] 26 (0,0)))∧Hid (w'.heap[g3]?=some (.cells #[.int .i64 ek,.int .u64 ec,.string et,.int .i64 lk,.int .i64 lf,.int .u64 lc,.string lt,.bool lb] 102 (0,0)))∧Hid (w'.heap[g4]?=some (.cells #[.int .i64 0,.int .u64 0,.string { data:=#[] },.int .i64 0,.int .i64 0,.int .i64 0,.int .u64 0,.string { data:=#[] },.bool false] 26 (0,0)))∧Hid (Ext w w')∧Hid (w.heap.size≤g4)) ⟨_,_,_,zd ⟨rfl,rfl,rfl⟩,zd (three_new zR).1,zd (three_new zR).2.1,zd (three_new zR).2.2.1,zd (three_new zR).2.2.2,zd (by omega)⟩ ?_
 rintro W1 ⟨g2,g3,g4,hg,H2,H3,H4,HE1,HG4⟩
 rw [←hg.out.2.2,←hg.out.2.1,←hg.out.1]
 clear hg
 go_upto_region 2 with (first|((with_reducible refine wpList_load_rowG ?_ 26 (.tmp 2) ?_ g2 ?_ 26 #[.int .i64 r,.int .u64 c,.string t,.int .i64 ph,.int .i64 k,.int .i64 f,.int .u64 c2,.string t2,.bool fk] (0,0) _ ?_ zu26 ?_ ?_ ?_);(·rfl);(·rfl);(·rfl);(·exact H2.out);(·rfl);(·exact info_state))|(go_at_call 95;refine (rb_check _ _ _ _ _ _ _ _ _ _).mono ?_;rw [hc];rintro e w2 ⟨rfl,hx2⟩;have K2:=zd (heap_ext H2.out hx2);have K3:=zd (heap_ext H3.out hx2);have K4:=zd (heap_ext H4.out hx2);have HE2:=zd (HE1.out.trans hx2);clear hx2))
 go_wp2_with (first|((with_reducible refine wpList_load_rowG ?_ 26 (.tmp 2) ?_ g2 ?_ 26 #[.int .i64 r,.int .u64 c,.string t,.int .i64 ph,.int .i64 k,.int .i64 f,.int .u64 c2,.string t2,.bool fk] (0,0) _ ?_ zu26 ?_ ?_ ?_);(·rfl);(·rfl);(·rfl);(·exact K2.out);(·rfl);(·exact info_state))|(refine wpList_store_row rfl 26 _ _ rfl g4 _ rfl rfl 26 _ K4.out info_state rfl (by simp [Value.oneCell']) ?_))
 refine bodyPost_ret (results_row_tmp rfl _ _ _ 26 #[.int .i64 r,.int .u64 c,.string t,.int .i64 ph,.int .i64 k,.int .i64 f,.int .u64 c2,.string t2,.bool fk] (0,0) _ rfl (setRow_heap _ _ _ _ _ _ K4.out) zu26 rfl info_state) rfl ?_
 exact ⟨_,rfl,World.ownsRow_nil _ _ _ _,HE2.out.setRow HG4.out _⟩
theorem rb_stepB (r c:Int) (t:ByteArray) (k f c2:Int) (t2:ByteArray) (fk:Bool) (ek ec:Int) (et:ByteArray) (lk lf lc:Int) (lt:ByteArray) (lb:Bool) (w:World) (hc:chkA ⟨r,c,t,0,⟨k,f,c2,t2,fk⟩⟩=true) (hn : ¬(ek=1∧ec=c∧et.size≤64)):Calls Tryz.prog 76 #[.agg #[.int .i64 r,.int .u64 c,.string t,.int .i64 0,.int .i64 k,.int .i64 f,.int .u64 c2,.string t2,.bool fk],.agg #[.int .i64 ek,.int .u64 ec,.string et,.int .i64 lk,.int .i64 lf,.int .u64 lc,.string lt,.bool lb]] w (Stepped w (⟨r,c,t,0,⟨k,f,c2,t2,fk⟩⟩,[])):=by
 go_enter Tryz.func76,Tryz.ntmps76
 go_upto_region 1 with fail
 refine wp_forget (fun w'=>∃ g2 g3 g4,Hid (g2=w.heap.size∧g3=w.heap.size+1∧g4=w.heap.size+1+1)∧Hid (w'.heap[g2]?=some (.cells #[.int .i64 r,.int .u64 c,.string t,.int .i64 0,.int .i64 k,.int .i64 f,.int .u64 c2,.string t2,.bool fk] 26 (0,0)))∧Hid (w'.heap[g3]?=some (.cells #[.int .i64 ek,.int .u64 ec,.string et,.int .i64 lk,.int .i64 lf,.int .u64 lc,.string lt,.bool lb] 102 (0,0)))∧Hid (w'.heap[g4]?=some (.cells #[.int .i64 0,.int .u64 0,.string { data:=#[] },.int .i64 0,.int .i64 0,.int .i64 0,.int .u64 0,.string { data:=#[] },.bool false] 26 (0,0)))∧Hid (Ext w w')∧Hid (w.heap.size≤g4)) ⟨_,_,_,zd ⟨rfl,rfl,rfl⟩,zd (three_new zR).1,zd (three_new zR).2.1,zd (three_new zR).2.2.1,zd (three_new zR).2.2.2,zd (by omega)⟩ ?_
 rintro W1 ⟨g2,g3,g4,hg,H2,H3,H4,HE1,HG4⟩
 rw [←hg.out.2.2,←hg.out.2.1,←hg.out.1]
 clear hg
 go_upto_region 3 with (first|((with_reducible refine wpList_load_rowG ?_ 26 (.tmp 2) ?_ g2 ?_ 26 #[.int .i64 r,.int .u64 c,.string t,.int .i64 0,.int .i64 k,.int .i64 f,.int .u64 c2,.string t2,.bool fk] (0,0) _ ?_ zu26 ?_ ?_ ?_);(·rfl);(·rfl);(·rfl);(·exact H2.out);(·rfl);(·exact info_state))|(go_at_call 95;refine (rb_check _ _ _ _ _ _ _ _ _ _).mono ?_;rw [hc];rintro e w2 ⟨rfl,hx2⟩;have K2:=zd (heap_ext H2.out hx2);have K3:=zd (heap_ext H3.out hx2);have K4:=zd (heap_ext H4.out hx2);have HE2:=zd (HE1.out.trans hx2);clear hx2))
 have hl2:=zQ K2.out
 have hl3:=zQ K3.out
 have l2:g2<w2.heap.size:=zL K2.out
 have l3:g3<w2.heap.size:=zL K3.out
 by_cases hk:ek=1
 case neg=>
  go_wp2_with (first|((with_reducible refine wpList_load_rowG ?_ 26 (.tmp 2) ?_ g2 ?_ 26 #[.int .i64 r,.int .u64 c,.string t,.int .i64 0,.int .i64 k,.int .i64 f,.int .u64 c2,.string t2,.bool fk] (0,0) _ ?_ zu26 ?_ ?_ ?_);(·rfl);(·rfl);(·rfl);(·exact K2.out);(·rfl);(·exact info_state))|(refine wpList_store_row rfl 26 _ _ rfl g4 _ rfl rfl 26 _ K4.out info_state rfl (by simp [Value.oneCell']) ?_))
  refine bodyPost_ret (results_row_tmp rfl _ _ _ 26 #[.int .i64 r,.int .u64 c,.string t,.int .i64 0,.int .i64 k,.int .i64 f,.int .u64 c2,.string t2,.bool fk] (0,0) _ rfl (setRow_heap _ _ _ _ _ _ K4.out) zu26 rfl info_state) rfl ?_
  exact ⟨_,rfl,World.ownsRow_nil _ _ _ _,HE2.out.setRow HG4.out _⟩
 by_cases hcc:ec=c
 case neg=>
  go_wp2_with (first|((with_reducible refine wpList_load_rowG ?_ 26 (.tmp 2) ?_ g2 ?_ 26 #[.int .i64 r,.int .u64 c,.string t,.int .i64 0,.int .i64 k,.int .i64 f,.int .u64 c2,.string t2,.bool fk] (0,0) _ ?_ zu26 ?_ ?_ ?_);(·rfl);(·rfl);(·rfl);(·exact K2.out);(·rfl);(·exact info_state))|(refine wpList_store_row rfl 26 _ _ rfl g4 _ rfl rfl 26 _ K4.out info_state rfl (by simp [Value.oneCell']) ?_))
  refine bodyPost_ret (results_row_tmp rfl _ _ _ 26 #[.int .i64 r,.int .u64 c,.string t,.int .i64 0,.int .i64 k,.int .i64 f,.int .u64 c2,.string t2,.bool fk] (0,0) _ rfl (setRow_heap _ _ _ _ _ _ K4.out) zu26 rfl info_state) rfl ?_
  exact ⟨_,rfl,World.ownsRow_nil _ _ _ _,HE2.out.setRow HG4.out _⟩
 have ht : ¬(et.size:Int)≤64:=by
  have : ¬et.size≤64:=fun h=>hn ⟨hk,hcc,h⟩
  omega
 clear hn
 go_wp2_with (first|((with_reducible refine wpList_load_rowG ?_ 26 (.tmp 2) ?_ g2 ?_ 26 #[.int .i64 r,.int .u64 c,.string t,.int .i64 0,.int .i64 k,.int .i64 f,.int .u64 c2,.string t2,.bool fk] (0,0) _ ?_ zu26 ?_ ?_ ?_);(·rfl);(·rfl);(·rfl);(·exact K2.out);(·rfl);(·exact info_state))|(refine wpList_store_row rfl 26 _ _ rfl g4 _ rfl rfl 26 _ K4.out info_state rfl (by simp [Value.oneCell']) ?_))
 refine bodyPost_ret (results_row_tmp rfl _ _ _ 26 #[.int .i64 r,.int .u64 c,.string t,.int .i64 0,.int .i64 k,.int .i64 f,.int .u64 c2,.string t2,.bool fk] (0,0) _ rfl (setRow_heap _ _ _ _ _ _ K4.out) zu26 rfl info_state) rfl ?_
 exact ⟨_,rfl,World.ownsRow_nil _ _ _ _,HE2.out.setRow HG4.out _⟩
theorem rb_stepC (r:Int) (t:ByteArray) (k f c2:Int) (t2:ByteArray) (fk:Bool) (ec:Int) (et:ByteArray) (lk lf lc:Int) (lt:ByteArray) (lb:Bool) (w:World) (hc:chkA ⟨r,ec,t,0,⟨k,f,c2,t2,fk⟩⟩=true) (ht:(et.size:Int)≤64):Calls Tryz.prog 76 #[.agg #[.int .i64 r,.int .u64 ec,.string t,.int .i64 0,.int .i64 k,.int .i64 f,.int .u64 c2,.string t2,.bool fk],.agg #[.int .i64 1,.int .u64 ec,.string et,.int .i64 lk,.int .i64 lf,.int .u64 lc,.string lt,.bool lb]] w (Stepped w (⟨r,ec,et,1,⟨k,f,c2,t2,fk⟩⟩,[])):=by
 go_enter Tryz.func76,Tryz.ntmps76
 go_upto_region 1 with fail
 refine wp_forget (fun w'=>∃ g2 g3 g4,Hid (g2=w.heap.size∧g3=w.heap.size+1∧g4=w.heap.size+1+1)∧Hid (w'.heap[g2]?=some (.cells #[.int .i64 r,.int .u64 ec,.string t,.int .i64 0,.int .i64 k,.int .i64 f,.int .u64 c2,.string t2,.bool fk] 26 (0,0)))∧Hid (w'.heap[g3]?=some (.cells #[.int .i64 1,.int .u64 ec,.string et,.int .i64 lk,.int .i64 lf,.int .u64 lc,.string lt,.bool lb] 102 (0,0)))∧Hid (w'.heap[g4]?=some (.cells #[.int .i64 0,.int .u64 0,.string { data:=#[] },.int .i64 0,.int .i64 0,.int .i64 0,.int .u64 0,.string { data:=#[] },.bool false] 26 (0,0)))∧Hid (Ext w w')∧Hid (w.heap.size≤g4)∧Hid (w.heap.size≤g2∧g2≠g4∧g2≠g3)) ⟨_,_,_,zd ⟨rfl,rfl,rfl⟩,zd (three_new zR).1,zd (three_new zR).2.1,zd (three_new zR).2.2.1,zd (three_new zR).2.2.2,zd (by omega),zd (by omega)⟩ ?_
 rintro W1 ⟨g2,g3,g4,hg,H2,H3,H4,HE1,HG4,HG2⟩
 rw [←hg.out.2.2,←hg.out.2.1,←hg.out.1]
 clear hg
 go_upto_region 3 with (first|((with_reducible refine wpList_load_rowG ?_ 26 (.tmp 2) ?_ g2 ?_ 26 #[.int .i64 r,.int .u64 ec,.string t,.int .i64 0,.int .i64 k,.int .i64 f,.int .u64 c2,.string t2,.bool fk] (0,0) _ ?_ zu26 ?_ ?_ ?_);(·rfl);(·rfl);(·rfl);(·exact H2.out);(·rfl);(·exact info_state))|(go_at_call 95;refine (rb_check _ _ _ _ _ _ _ _ _ _).mono ?_;rw [hc];rintro e w2 ⟨rfl,hx2⟩;have K2:=zd (heap_ext H2.out hx2);have K3:=zd (heap_ext H3.out hx2);have K4:=zd (heap_ext H4.out hx2);have HE2:=zd (HE1.out.trans hx2);clear hx2))
 have hl2:=zQ K2.out
 have hl3:=zQ K3.out
 have l2:g2<w2.heap.size:=zL K2.out
 have l3:g3<w2.heap.size:=zL K3.out
 have hf2:=zF K2.out
 go_upto_region 7 with fail
 refine wp_forget (fun w'=>Hid (w'.heap[g2]?=some (.cells #[.int .i64 r,.int .u64 ec,.string et,.int .i64 1,.int .i64 k,.int .i64 f,.int .u64 c2,.string t2,.bool fk] 26 (0,0)))∧Hid (w'.heap[g4]?=some (.cells #[.int .i64 0,.int .u64 0,.string { data:=#[] },.int .i64 0,.int .i64 0,.int .i64 0,.int .u64 0,.string { data:=#[] },.bool false] 26 (0,0)))∧Hid (Ext w w')) ⟨zd ?f1,zd ?f2,zd ?f3⟩ ?_
 case f1=>
  have h1:=heap_setCell_same _ _ 3 _ _ (Value.int .i64 1) K2.out
  have h2:=heap_setCell_same _ _ 2 _ _ (Value.string et) h1
  exact h2
 case f2=>exact (cell_other (by have:=HG2.out;exact fun e=>this.2.1 e.symm)).trans ((cell_other (by have:=HG2.out;exact fun e=>this.2.1 e.symm)).trans K4.out)
 case f3=>exact (HE2.out.setCell (by exact HG2.out.1) _).setCell (by exact HG2.out.1) _
 rintro W7 ⟨M2,M4,ME⟩
 clear hl2 hl3 l2 l3 hf2
 go_wp2_with (first|((with_reducible refine wpList_load_rowG ?_ 26 (.tmp 2) ?_ g2 ?_ 26 #[.int .i64 r,.int .u64 ec,.string et,.int .i64 1,.int .i64 k,.int .i64 f,.int .u64 c2,.string t2,.bool fk] (0,0) _ ?_ zu26 ?_ ?_ ?_);(·rfl);(·rfl);(·rfl);(·exact M2.out);(·rfl);(·exact info_state))|(refine wpList_store_row rfl 26 _ _ rfl g4 _ rfl rfl 26 _ M4.out info_state rfl (by simp [Value.oneCell']) ?_))
 refine bodyPost_ret (results_row_tmp rfl _ _ _ 26 #[.int .i64 r,.int .u64 ec,.string et,.int .i64 1,.int .i64 k,.int .i64 f,.int .u64 c2,.string t2,.bool fk] (0,0) _ rfl (setRow_heap _ _ _ _ _ _ M4.out) zu26 rfl info_state) rfl ?_
 exact ⟨_,rfl,World.ownsRow_nil _ _ _ _,ME.out.setRow HG4.out _⟩
theorem rb_at {w:World} {B:Nat} {L:List RwB} {v:Value} {i:Nat} {x:RwB} (h:w.ownsRow B 157 5 v L.length (L.flatMap RwB.cs)) (hx:L[i]?=some x) :
 ∃ g cap,v = .slice (some ⟨g,0,none⟩) L.length cap∧g<w.heap.size∧L.length≤maxLen∧w.rangeAt g (i*5) x.cs:=by
 have hi:=zM hx
 obtain ⟨_,⟨_,h0⟩|⟨g,cap,cur,hv,hb,hg,hn,hm,hs,hc⟩⟩:=h
 ·omega
 refine ⟨g,cap,hv,(zL hg),by omega,fun j q hj=>?_⟩
 have hjl:j<5:=zM hj
 have h2:=flat_get RwB.cs 5 (fun _=>rfl) L i x hx j (by omega)
 rw [hj,←hc,List.getElem?_take_of_lt (by omega)] at h2
 rw [cell_of_row w g _ cur _ (0,0) hg]
 simpa using h2
theorem tbl_s : ∀ x∈tblB,x.s=0∨x.s=1∨x.s=2∨x.s=4:=by simp [tblB]
theorem info_rwL (x:RwB):(Tryz.prog.info? 157).map (·.size)=some x.cs.length:=by
 rw [show x.cs.length=5 from rfl]
 kernel_rfl
theorem rb_stepD (r c:Int) (t:ByteArray) (ph k f c2:Int) (t2:ByteArray) (fk:Bool) (ek ec:Int) (et:ByteArray) (lk lf lc:Int) (lt:ByteArray) (lb:Bool) (w:World) (hc:chkA ⟨r,c,t,ph,⟨k,f,c2,t2,fk⟩⟩=true) (h0 : ¬ph=0):Calls Tryz.prog 76 #[.agg #[.int .i64 r,.int .u64 c,.string t,.int .i64 ph,.int .i64 k,.int .i64 f,.int .u64 c2,.string t2,.bool fk],.agg #[.int .i64 ek,.int .u64 ec,.string et,.int .i64 lk,.int .i64 lf,.int .u64 lc,.string lt,.bool lb]] w (Stepped w (stepBF ⟨r,c,t,ph,⟨k,f,c2,t2,fk⟩⟩ ⟨lk,lf,lc,lt,lb⟩ (tblB.find? (mtB ⟨r,c,t,ph,⟨k,f,c2,t2,fk⟩⟩ ⟨ek,ec,et,⟨lk,lf,lc,lt,lb⟩⟩)))):=by
 have htz:t.size≤64:=(chkA_phase hc).1
 have hmem:=tbl_s
 have hlen:tblB.length≤10:=by decide
 have HTB:=zd rb_table
 generalize tblB=L at hmem hlen HTB ⊢
 obtain ⟨R,hR⟩ : ∃ R,L.find? (mtB ⟨r,c,t,ph,⟨k,f,c2,t2,fk⟩⟩ ⟨ek,ec,et,⟨lk,lf,lc,lt,lb⟩⟩)=R:=⟨_,rfl⟩
 have HR0:=zd hR
 rw [hR]
 clear hR
 have HMEM:=zd hmem
 clear hmem
 go_enter Tryz.func76,Tryz.ntmps76
 go_upto_region 1 with fail
 refine wp_forget (fun w'=>∃ g2 g3 g4,Hid (g2=w.heap.size∧g3=w.heap.size+1∧g4=w.heap.size+1+1)∧Hid (w'.heap[g2]?=some (.cells #[.int .i64 r,.int .u64 c,.string t,.int .i64 ph,.int .i64 k,.int .i64 f,.int .u64 c2,.string t2,.bool fk] 26 (0,0)))∧Hid (w'.heap[g3]?=some (.cells #[.int .i64 ek,.int .u64 ec,.string et,.int .i64 lk,.int .i64 lf,.int .u64 lc,.string lt,.bool lb] 102 (0,0)))∧Hid (w'.heap[g4]?=some (.cells #[.int .i64 0,.int .u64 0,.string { data:=#[] },.int .i64 0,.int .i64 0,.int .i64 0,.int .u64 0,.string { data:=#[] },.bool false] 26 (0,0)))∧Hid (Ext w w')∧Hid (w.heap.size≤g4)∧Hid (w.heap.size≤g2∧g2≠g4∧g2≠g3)) ⟨_,_,_,zd ⟨rfl,rfl,rfl⟩,zd (three_new zR).1,zd (three_new zR).2.1,zd (three_new zR).2.2.1,zd (three_new zR).2.2.2,zd (by omega),zd (by omega)⟩ ?_
 rintro W1 ⟨g2,g3,g4,hg,H2,H3,H4,HE1,HG4,HG2⟩
 rw [←hg.out.2.2,←hg.out.2.1,←hg.out.1]
 clear hg
 go_upto_region 3 with (first|((with_reducible refine wpList_load_rowG ?_ 26 (.tmp 2) ?_ g2 ?_ 26 #[.int .i64 r,.int .u64 c,.string t,.int .i64 ph,.int .i64 k,.int .i64 f,.int .u64 c2,.string t2,.bool fk] (0,0) _ ?_ zu26 ?_ ?_ ?_);(·rfl);(·rfl);(·rfl);(·exact H2.out);(·rfl);(·exact info_state))|(go_at_call 95;refine (rb_check _ _ _ _ _ _ _ _ _ _).mono ?_;rw [hc];rintro e w2 ⟨rfl,hx2⟩;have K2:=zd (heap_ext H2.out hx2);have K3:=zd (heap_ext H3.out hx2);have K4:=zd (heap_ext H4.out hx2);have HE2:=zd (HE1.out.trans hx2);clear hx2))
 have q23:w2.cell? ⟨g2,3,none⟩=some (.int .i64 ph):=zQ K2.out 3
 have l2:g2<w2.heap.size:=zL K2.out
 go_upto_region 9 with (go_at_call 104;refine (HTB.out _).mono ?_;rintro e w3 ⟨tv,rfl,hrow,hx3⟩;obtain ⟨ta,tcp,rfl⟩:=own_sl hrow;have HROW:=zd hrow;have HX3:=zd hx3;clear hrow hx3)
 have HE3:Hid (Ext w w3):=zd (HE2.out.trans HX3.out)
 have K23:=zd (heap_ext K2.out HX3.out)
 have K33:=zd (heap_ext K3.out HX3.out)
 have K43:=zd (heap_ext K4.out HX3.out)
 have HC:=zd hc
 clear q23 l2 K2 K3 K4 HX3 HTB hc
 go_wp2_with fail
 go_loopg [7] L.length (fun g t7 wr=>∃ i:Nat,t7 = .int .i64 (i:Int)∧i+g=L.length∧Hid (Ext w3 wr)∧Hid ((L.drop i).find? (mtB ⟨r,c,t,ph,⟨k,f,c2,t2,fk⟩⟩ ⟨ek,ec,et,⟨lk,lf,lc,lt,lb⟩⟩)=R))
 case atStart=>exact ⟨0,rfl,by omega,zd zR,HR0⟩
 case round=>
  clear HR0
  obtain ⟨i,rfl,hg,HER,HR⟩:=hrel
  rename World=>Wr
  by_cases hlt:i<L.length
  case neg=>
   have i1 : ¬(i:Int)<(L.length:Int):=by omega
   have HX4:=zd (heap_ext K43.out HER.out)
   have HX2:=zd (heap_ext K23.out HER.out)
   go_wp2_with (first|((with_reducible refine wpList_load_rowG ?_ 26 (.tmp 2) ?_ g2 ?_ 26 #[.int .i64 r,.int .u64 c,.string t,.int .i64 ph,.int .i64 k,.int .i64 f,.int .u64 c2,.string t2,.bool fk] (0,0) _ ?_ zu26 ?_ ?_ ?_);(·rfl);(·rfl);(·rfl);(·exact HX2.out);(·rfl);(·exact info_state))|(refine wpList_store_row rfl 26 _ _ rfl g4 _ rfl rfl 26 _ HX4.out info_state rfl (by simp [Value.oneCell']) ?_))
   refine bodyPost_ret (results_row_tmp rfl _ _ _ 26 #[.int .i64 r,.int .u64 c,.string t,.int .i64 ph,.int .i64 k,.int .i64 f,.int .u64 c2,.string t2,.bool fk] (0,0) _ rfl (setRow_heap _ _ _ _ _ _ HX4.out) zu26 rfl info_state) rfl ?_
   have h1:=HR.out
   rw [List.drop_eq_nil_of_le (by omega),List.find?_nil] at h1
   rw [←h1]
   exact ⟨_,rfl,World.ownsRow_nil _ _ _ _,(HE3.out.trans HER.out).setRow HG4.out _⟩
  have i1:(i:Int)<(L.length:Int):=by omega
  obtain ⟨x,hx⟩ : ∃ x,L[i]?=some x:=⟨_,zG hlt⟩
  obtain ⟨g0,cap,hv,hgl,hmx,hrg⟩:=rb_at HROW.out hx
  cases hv
  unfold maxLen at hmx
  have HXS:=zd (HMEM.out x (zE hx))
  have HRD:Hid (L.drop i=x::L.drop (i+1)):=zd (by
   obtain ⟨h1,h2⟩:=List.getElem?_eq_some_iff.1 hx
   rw [List.drop_eq_getElem_cons h1,h2])
  obtain ⟨xi,xt,xk,xn,xs⟩:=x
  have HRG:Hid (Wr.rangeAt g0 (i*5) [.int .i64 xi,.bool xt,.int .i64 xk,.int .i64 xn,.int .i64 xs]):=zd fun j v hj=>cell_keep (hrg j v hj) HER.out
  clear hrg hx hgl
  go_upto_region 12 with fail
  rename_i K12 hK12
  go_cut [8] from 45 to 119 (fun s8 wc=>∃ gr,s8 = .pointer (some ⟨gr,0,none⟩)∧Hid (wc.heap[gr]?=some (.cells #[.int .i64 xi,.bool xt,.int .i64 xk,.int .i64 xn,.int .i64 xs] 157 (0,0))∧Ext Wr wc∧Wr.heap.size≤gr))
  case first=>
   go_wp2_with ((with_reducible refine wpList_load_midG 157 (.tmp 47) ?_ g0 (i*5) ?_ ?_ [.int .i64 xi,.bool xt,.int .i64 xk,.int .i64 xn,.int .i64 xs] _ ?_ zu157 ?_ ?_ ?_);(·rfl);(·rfl);(·kernel_rfl);(·exact HRG.out);(·rfl);(·exact info_rwL ⟨xi,xt,xk,xn,xs⟩))
   go_meet
   exact ⟨_,rfl,zd ⟨heap_new rfl,zR.alloc _,Nat.le_refl _⟩⟩
  case rest=>
  obtain ⟨gr,rfl,HC12⟩:=hcut
  refine hK12 _ _ ?_
  rename World=>W12
  have HE12:Hid (Ext w3 W12):=zd (HER.out.trans HC12.out.2.1)
  have HGR:Hid (w3.heap.size≤gr∧g2<w3.heap.size∧g4<w3.heap.size):=zd (by have h1:=HER.out.size;have h2:=HC12.out.2.2;have h3:=(zL K23.out);have h4:=(zL K43.out);omega)
  have D2:=zd (heap_ext K23.out HE12.out)
  have D3:=zd (heap_ext K33.out HE12.out)
  have qr:=zQ HC12.out.1
  have qs:=zQ D2.out
  have qe:=zQ D3.out
  have lr:gr<W12.heap.size:=zL HC12.out.1
  have l2:g2<W12.heap.size:=zL D2.out
  have l3:g3<W12.heap.size:=zL D3.out
  have HFIT:=zd (rb_fits r c t ph k f c2 t2 fk lk lf lc lt lb xk)
  have hleq:lEq lk lf lc lt lb xk 0 c (if xk=5 then { data:=#[] } else t) false=decide ((⟨lk,lf,lc,lt,lb⟩:Lt)=ltB ⟨r,c,t,ph,⟨k,f,c2,t2,fk⟩⟩ xk):=lEq_lt ⟨lk,lf,lc,lt,lb⟩ (ltB ⟨r,c,t,ph,⟨k,f,c2,t2,fk⟩⟩ xk)
  have HLEQ:=zd hleq
  clear hleq HRG K12 hK12
  rcases hb:mtB ⟨r,c,t,ph,⟨k,f,c2,t2,fk⟩⟩ ⟨ek,ec,et,⟨lk,lf,lc,lt,lb⟩⟩ ⟨xi,xt,xk,xn,xs⟩
  case false=>
   by_cases a1:xi=ph
   case neg=>
    clear hb
    have hb:mtB ⟨r,c,t,ph,⟨k,f,c2,t2,fk⟩⟩ ⟨ek,ec,et,⟨lk,lf,lc,lt,lb⟩⟩ ⟨xi,xt,xk,xn,xs⟩=false:=by simp [mtB,a1]
    have HB:=zd hb
    clear hb
    go_wp2_with fail
    go_roundg (gk - 1)
    case rel=>
     refine ⟨i+1,by simp,by omega,zd (HE12.out),zd ?_⟩
     have h1:=HR.out
     rw [HRD.out,List.find?_cons,HB.out] at h1
     exact h1
    case measure=>omega
   rcases xt
   case false=>
    by_cases a2:ek=2
    case neg=>
     have b1:(xi != ph)=false:=by simp [a1]
     clear hb a1
     have hb:mtB ⟨r,c,t,ph,⟨k,f,c2,t2,fk⟩⟩ ⟨ek,ec,et,⟨lk,lf,lc,lt,lb⟩⟩ ⟨xi,false,xk,xn,xs⟩=false:=by simp [mtB,a2]
     have HB:=zd hb
     clear hb
     go_wp2_with fail
     go_roundg (gk - 1)
     case rel=>
      refine ⟨i+1,by simp,by omega,zd (HE12.out),zd ?_⟩
      have h1:=HR.out
      rw [HRD.out,List.find?_cons,HB.out] at h1
      exact h1
     case measure=>omega
    have hl:lEq lk lf lc lt lb xk 0 c (if xk=5 then { data:=#[] } else t) false=false:=by
     rw [HLEQ.out]
     simpa [mtB,a1,a2] using hb
    have HL:=zd hl
    have b1:(xi != ph)=false:=by simp [a1]
    have b2:(ek != 2)=false:=by simp [a2]
    clear hb hl a1 a2
    have hb:mtB ⟨r,c,t,ph,⟨k,f,c2,t2,fk⟩⟩ ⟨ek,ec,et,⟨lk,lf,lc,lt,lb⟩⟩ ⟨xi,false,xk,xn,xs⟩=false:=by (have h:=HL.out;rw [HLEQ.out] at h;simp [mtB,h])
    have HB:=zd hb
    clear hb
    go_wp2_with (first|((with_reducible refine wpList_load_rowG ?_ 26 (.tmp 2) ?_ g2 ?_ 26 #[.int .i64 r,.int .u64 c,.string t,.int .i64 ph,.int .i64 k,.int .i64 f,.int .u64 c2,.string t2,.bool fk] (0,0) _ ?_ zu26 ?_ ?_ ?_);(·rfl);(·rfl);(·rfl);(·exact D2.out);(·rfl);(·exact info_state))|((with_reducible refine wpList_load_midG 24 (.tmp 80) ?_ g3 (3) ?_ ?_ [.int .i64 lk,.int .i64 lf,.int .u64 lc,.string lt,.bool lb] _ ?_ zu24 ?_ ?_ ?_);(·rfl);(·rfl);(·kernel_rfl);(·exact (range_of_row D3.out 3 5 _ rfl));(·rfl);(·exact info_ltL ⟨lk,lf,lc,lt,lb⟩))|(go_at_call 105;refine (HFIT.out _).mono ?_;rw [HL.out];rintro e w13 ⟨rfl,hx13⟩))
    go_roundg (gk - 1)
    case rel=>
     refine ⟨i+1,by simp,by omega,zd (HE12.out.trans hx13),zd ?_⟩
     have h1:=HR.out
     rw [HRD.out,List.find?_cons,HB.out] at h1
     exact h1
    case measure=>omega
   case true=>
    by_cases a2:ek=3
    case neg=>
     have b1:(xi != ph)=false:=by simp [a1]
     clear hb a1
     have hb:mtB ⟨r,c,t,ph,⟨k,f,c2,t2,fk⟩⟩ ⟨ek,ec,et,⟨lk,lf,lc,lt,lb⟩⟩ ⟨xi,true,xk,xn,xs⟩=false:=by simp [mtB,a2]
     have HB:=zd hb
     clear hb
     go_wp2_with fail
     go_roundg (gk - 1)
     case rel=>
      refine ⟨i+1,by simp,by omega,zd (HE12.out),zd ?_⟩
      have h1:=HR.out
      rw [HRD.out,List.find?_cons,HB.out] at h1
      exact h1
     case measure=>omega
    by_cases a3:ec=c
    case pos=>exact absurd hb (by simp [mtB,a1,a2,a3])
    have b1:(xi != ph)=false:=by simp [a1]
    have b2:(ek != 3)=false:=by simp [a2]
    clear hb a1 a2
    have hb:mtB ⟨r,c,t,ph,⟨k,f,c2,t2,fk⟩⟩ ⟨ek,ec,et,⟨lk,lf,lc,lt,lb⟩⟩ ⟨xi,true,xk,xn,xs⟩=false:=by simp [mtB,a3]
    have HB:=zd hb
    clear hb
    go_wp2_with fail
    go_roundg (gk - 1)
    case rel=>
     refine ⟨i+1,by simp,by omega,zd (HE12.out),zd ?_⟩
     have h1:=HR.out
     rw [HRD.out,List.find?_cons,HB.out] at h1
     exact h1
    case measure=>omega
  case true=>
   have HB:=zd hb
   clear hb
   have b1:(xi != ph)=false:=by have h:=HB.out;simp only [mtB,Bool.and_eq_true,decide_eq_true_eq] at h;simp [h.1]
   refine wp_seq_k ?_
   intro K14 hK14
   go_cut [] from 45 to 119 (fun wc=>Hid (Ext W12 wc))
   case first=>
    rcases xt
    case false=>
     have h:=HB.out
     simp only [mtB,Bool.and_eq_true,decide_eq_true_eq,Bool.false_eq_true,if_false] at h
     have b2:(ek != 2)=false:=by simp [h.2.1]
     have hl:lEq lk lf lc lt lb xk 0 c (if xk=5 then { data:=#[] } else t) false=true:=by
      rw [HLEQ.out]
      exact decide_eq_true h.2.2
     have HL:=zd hl
     clear h hl
     go_wp2_with (first|((with_reducible refine wpList_load_rowG ?_ 26 (.tmp 2) ?_ g2 ?_ 26 #[.int .i64 r,.int .u64 c,.string t,.int .i64 ph,.int .i64 k,.int .i64 f,.int .u64 c2,.string t2,.bool fk] (0,0) _ ?_ zu26 ?_ ?_ ?_);(·rfl);(·rfl);(·rfl);(·exact D2.out);(·rfl);(·exact info_state))|((with_reducible refine wpList_load_midG 24 (.tmp 80) ?_ g3 (3) ?_ ?_ [.int .i64 lk,.int .i64 lf,.int .u64 lc,.string lt,.bool lb] _ ?_ zu24 ?_ ?_ ?_);(·rfl);(·rfl);(·kernel_rfl);(·exact (range_of_row D3.out 3 5 _ rfl));(·rfl);(·exact info_ltL ⟨lk,lf,lc,lt,lb⟩))|(go_at_call 105;refine (HFIT.out _).mono ?_;rw [HL.out];rintro e w13 ⟨rfl,hx13⟩))
     go_meet
     exact zd hx13
    case true=>
     have h:=HB.out
     simp only [mtB,Bool.and_eq_true,decide_eq_true_eq,if_true] at h
     have b2:(ek != 3)=false:=by simp [h.2.1]
     have b3:(ec != c)=false:=by simp [h.2.2]
     clear h
     go_wp2_with fail
     go_meet
     exact zd zR
   case rest=>
   refine hK14 _ _ ?_
   rename World=>W14
   clear qr qs qe lr l2 l3 b1 K14 hK14
   have HE14:Hid (Ext w3 W14):=zd (HE12.out.trans hcut.out)
   have M2:=zd (heap_ext D2.out hcut.out)
   have M3:=zd (heap_ext D3.out hcut.out)
   have M4:=zd (heap_ext K43.out HE14.out)
   have MR:=zd (heap_ext HC12.out.1 hcut.out)
   have HEW14:Hid (Ext w W14):=zd (HE3.out.trans HE14.out)
   clear hcut D2 D3 HE12
   obtain ⟨P,hP⟩ : ∃ P:Lt,(if xn=6∧¬ph=6 then (⟨lk,lf,lc,lt,lb⟩:Lt) else ⟨k,f,c2,t2,fk⟩)=P:=⟨_,rfl⟩
   have HP:=zd hP
   clear hP
   refine wp_seq_k ?_
   intro K16 hK16
   go_cut [] from 45 to 119 (fun wc=>Hid (wc.heap[g2]?=some (.cells #[.int .i64 r,.int .u64 c,.string t,.int .i64 ph,.int .i64 P.k,.int .i64 P.f,.int .u64 P.c,.string P.t,.bool P.b] 26 (0,0))∧wc.heap[g4]?=some (.cells #[.int .i64 0,.int .u64 0,.string { data:=#[] },.int .i64 0,.int .i64 0,.int .i64 0,.int .u64 0,.string { data:=#[] },.bool false] 26 (0,0))∧wc.heap[gr]?=some (.cells #[.int .i64 xi,.bool xt,.int .i64 xk,.int .i64 xn,.int .i64 xs] 157 (0,0))∧Ext w wc))
   case first=>
    have qr:=zQ MR.out
    have qs:=zQ M2.out
    have lr:gr<W14.heap.size:=zL MR.out
    have l2:g2<W14.heap.size:=zL M2.out
    by_cases d1:xn=6
    case neg=>
     have hp:=HP.out
     rw [if_neg (fun h=>d1 h.1)] at hp
     have HP2:=zd hp
     clear hp
     go_wp2_with fail
     go_meet
     exact zd ⟨by rw [←HP2.out];exact M2.out,M4.out,MR.out,HEW14.out⟩
    have d1':(xn == 6)=true:=by simp [d1]
    by_cases d2:ph=6
    case pos=>
     have hp:=HP.out
     rw [if_neg (fun h=>h.2 d2)] at hp
     have HP2:=zd hp
     have d2':(ph != 6)=false:=by simp [d2]
     clear hp d1 d2
     go_wp2_with fail
     go_meet
     exact zd ⟨by rw [←HP2.out];exact M2.out,M4.out,MR.out,HEW14.out⟩
    have hp:=HP.out
    rw [if_pos ⟨d1,d2⟩] at hp
    have HP2:=zd hp
    clear hp d1
    go_wp2_with (first|((with_reducible refine wpList_load_midG 24 (.tmp 97) ?_ g3 (3) ?_ ?_ [.int .i64 lk,.int .i64 lf,.int .u64 lc,.string lt,.bool lb] _ ?_ zu24 ?_ ?_ ?_);(·rfl);(·rfl);(·kernel_rfl);(·exact (range_of_row M3.out 3 5 _ rfl));(·rfl);(·exact info_ltL ⟨lk,lf,lc,lt,lb⟩))|((with_reducible refine wpList_store_mid ?_ 24 (.tmp 99) (.tmp 98) ?_ g2 4 #[.int .i64 lk,.int .i64 lf,.int .u64 lc,.string lt,.bool lb] ?_ ?_ ?_ ?_ ?_ ?_);(·rfl);(·rfl);(·rfl);(·rfl);(·exact there_row M2.out (by exact Nat.le_refl 9));(·exact info_ltA ⟨lk,lf,lc,lt,lb⟩);(·simp [Value.oneCell'])))
    go_meet
    exact zd ⟨by rw [←HP2.out];have:=puts_row [.int .i64 lk,.int .i64 lf,.int .u64 lc,.string lt,.bool lb] _ g2 4 _ M2.out;exact this,(puts_other _ _ _ (by have:=HG2.out;omega)).trans M4.out,(puts_other _ _ _ (by have:=HGR.out;omega)).trans MR.out,Ext.setCells HG2.out.1 _ _ HEW14.out⟩
   case rest=>
   refine hK16 _ _ ?_
   rename World=>W16
   clear M2 M3 M4 MR HEW14 HE14 K16 hK16
   have qr:W16.cell? ⟨gr,3,none⟩=some (.int .i64 xn):=zQ hcut.out.2.2.1 3
   have lr:gr<W16.heap.size:=zL hcut.out.2.2.1
   have q23:W16.cell? ⟨g2,3,none⟩=some (.int .i64 ph):=zQ hcut.out.1 3
   have f23:=zF hcut.out.1 3
   have l2:g2<W16.heap.size:=zL hcut.out.1
   go_upto_region 17 with fail
   refine wp_forget (fun w'=>Hid (w'.heap[g2]?=some (.cells #[.int .i64 r,.int .u64 c,.string t,.int .i64 xn,.int .i64 P.k,.int .i64 P.f,.int .u64 P.c,.string P.t,.bool P.b] 26 (0,0))∧w'.heap[g4]?=some (.cells #[.int .i64 0,.int .u64 0,.string { data:=#[] },.int .i64 0,.int .i64 0,.int .i64 0,.int .u64 0,.string { data:=#[] },.bool false] 26 (0,0))∧w'.heap[gr]?=some (.cells #[.int .i64 xi,.bool xt,.int .i64 xk,.int .i64 xn,.int .i64 xs] 157 (0,0))∧Ext w w')) (zd ⟨by have:=heap_setCell_same _ _ 3 _ _ (Value.int .i64 xn) hcut.out.1;exact this,(cell_other (by have:=HG2.out;exact fun e=>this.2.1 e.symm)).trans hcut.out.2.1,(cell_other (by have:=HGR.out;omega)).trans hcut.out.2.2.1,hcut.out.2.2.2.setCell (by exact HG2.out.1) _⟩) ?_
   intro W17 M17
   clear qr lr q23 f23 l2 hcut
   have qr4:W17.cell? ⟨gr,4,none⟩=some (.int .i64 xs):=zQ M17.out.2.2.1 4
   have lr:gr<W17.heap.size:=zL M17.out.2.2.1
   have hfin:R=some ⟨xi,xt,xk,xn,xs⟩:=by
    have h1:=HR.out
    rw [HRD.out,List.find?_cons,HB.out] at h1
    exact h1.symm
   have HFIN:=zd hfin
   clear hfin
   by_cases hs:xs=0
   case pos=>
    have hs':(xs == 0)=true:=by simp [hs]
    have HS:=zd hs
    clear hs
    go_wp2_with (first|((with_reducible refine wpList_load_rowG ?_ 26 (.tmp 2) ?_ g2 ?_ 26 #[.int .i64 r,.int .u64 c,.string t,.int .i64 xn,.int .i64 P.k,.int .i64 P.f,.int .u64 P.c,.string P.t,.bool P.b] (0,0) _ ?_ zu26 ?_ ?_ ?_);(·rfl);(·rfl);(·rfl);(·exact M17.out.1);(·rfl);(·exact info_state))|(refine wpList_store_row rfl 26 _ _ rfl g4 _ rfl rfl 26 _ M17.out.2.1 info_state rfl (by simp [Value.oneCell']) ?_))
    refine bodyPost_ret (results_row_tmp rfl _ _ _ 26 #[.int .i64 r,.int .u64 c,.string t,.int .i64 xn,.int .i64 P.k,.int .i64 P.f,.int .u64 P.c,.string P.t,.bool P.b] (0,0) _ rfl (setRow_heap _ _ _ _ _ _ M17.out.2.1) zu26 rfl info_state) rfl ?_
    rw [HFIN.out]
    refine ⟨.slice none 0 0,?_,?_,M17.out.2.2.2.setRow HG4.out _⟩
    ·simp [stepBF,St.cs,Lt.cs,HP.out]
    ·simp only [stepBF,HS.out,if_true]
     exact World.ownsRow_nil _ _ _ _
   have HXS':Hid (xs=1∨xs=2∨xs=4):=zd (by have h:=HXS.out;simp only at h;omega)
   have q21:W17.cell? ⟨g2,1,none⟩=some (.int .u64 c):=zQ M17.out.1 1
   have q22:W17.cell? ⟨g2,2,none⟩=some (.string t):=zQ M17.out.1 2
   have l2:g2<W17.heap.size:=zL M17.out.1
   go_upto_region 20 with fail
   refine wp_forget (fun w'=>∃ g9,Hid (g9=W17.heap.size)∧Hid (w'.heap[g9]?=some (.cells #[.int .i64 xs,.int .i64 1,.int .u64 c,.string t,.bool false] 24 (0,0)))∧Hid (Ext W17 w')) ⟨W17.heap.size,zd rfl,zd (heap_new rfl),zd (zR.alloc _)⟩ ?_
   rintro W20 ⟨g9,hg9,H9,HE20⟩
   rw [←hg9.out]
   have HTO:=zd (rl_to xs c t HXS'.out htz)
   obtain ⟨n0,hn0⟩ : ∃ n0:Int,(if xs=4 then 2 else 0)=n0:=⟨_,rfl⟩
   rw [hn0] at HTO
   have HN0:=zd hn0
   have N2:=zd (heap_ext M17.out.1 HE20.out)
   have N4:=zd (heap_ext M17.out.2.1 HE20.out)
   have HEW20:Hid (Ext w W20):=zd (M17.out.2.2.2.trans HE20.out)
   have HG49:Hid (g4<g9):=zd (by have h1:=(zL M17.out.2.1);have h2:=hg9.out;omega)
   clear hn0 qr4 lr q21 q22 l2
   refine wp_region_mixR (af:=?af) [true,true,true,true,true,false,false,false] 121 #[true,true,true,true,true,false,false,false] (fun w'=>w'.heap[g2]?=some (.cells #[.int .i64 r,.int .u64 c,.string t,.int .i64 xn,.int .i64 P.k,.int .i64 P.f,.int .u64 P.c,.string P.t,.bool P.b] 26 (0,0))∧w'.heap[g9]?=some (.cells #[.int .i64 xs,.int .i64 1,.int .u64 c,.string t,.bool false] 24 (0,0))∧Ext w w') (by kernel_rfl) rfl (by kernel_rfl) (fun _ _ h e=>⟨heap_ext h.1 e,heap_ext h.2.1 e,h.2.2.trans e⟩) ⟨heap_ext N2.out zR.drew,heap_ext H9.out zR.drew,HEW20.out.trans zR.drew⟩ ?q ?r
   case q=>
    rintro w' ⟨h2,h9,_⟩
    have q2:=zQ h2
    have l2:g2<w'.heap.size:=zL h2
    have q9:=zQ h9
    have l9:g9<w'.heap.size:=zL h9
    clear h2 h9
    simp only [pickT,if_true,if_false,Bool.false_eq_true]
    repeat (go_big_quiet_step ((go_at_call 106;exact calls_ext (HTO.out _))))
    exact rfl
   case r=>
    have E0:Ext W20 W20.drew:=zR.drew
    have h4:=N4.out
    refine wpAnyT_two (i:=5) (i2:=6) (by kernel_rfl) rfl rfl ?_ ?_
    ·intro x1
     have e1:Ext W20 x1.val:=E0.val x1
     have hown:=own_new (size:=6) (n:=1) (e:=126) (xs:=Ou.cs ⟨n0,⟨xs,1,c,t,false⟩⟩) (cs:=#[.int .i64 n0,.int .i64 xs,.int .i64 1,.int .u64 c,.string t,.bool false]) (HEW20.out.trans e1) rfl (by decide) rfl rfl
     go_wp2_with fail
     first|refine ⟨fun _=>⟨heap_ext N2.out (e1.alloc _),heap_ext H9.out (e1.alloc _),(HEW20.out.trans e1).alloc _⟩,?_⟩|refine ⟨⟨heap_ext N2.out (e1.alloc _),heap_ext H9.out (e1.alloc _),(HEW20.out.trans e1).alloc _⟩,?_⟩
     refine wpAnyT_one (i:=6) (by kernel_rfl) rfl ?_
     intro x2
     have e2:=(e1.alloc (.cells #[.int .i64 n0,.int .i64 xs,.int .i64 1,.int .u64 c,.string t,.bool false] 126)).val x2
     go_wp2_with (refine wpList_store_row rfl 26 _ _ rfl g4 _ rfl rfl 26 _ (heap_ext h4 e2) info_state rfl (by simp [Value.oneCell']) ?_)
     first|refine ⟨fun _=>⟨(setRow_other _ _ _ _ (by have:=HG2.out;omega)).trans (heap_ext N2.out e2),(setRow_other _ _ _ _ (by have:=HG49.out;omega)).trans (heap_ext H9.out e2),(HEW20.out.trans e2).setRow HG4.out _⟩,?_⟩|refine ⟨⟨(setRow_other _ _ _ _ (by have:=HG2.out;omega)).trans (heap_ext N2.out e2),(setRow_other _ _ _ _ (by have:=HG49.out;omega)).trans (heap_ext H9.out e2),(HEW20.out.trans e2).setRow HG4.out _⟩,?_⟩
     refine wpAnyT_one (i:=7) (by kernel_rfl) rfl ?_
     intro x3
     go_wp2_with fail
     refine ⟨fun h=>absurd h (by decide),?_⟩
     refine wpAnyT_end (by kernel_rfl) fun x4=>?_
     have hf:=heap_ext (heap_ext (setRow_heap _ _ _ #[.int .i64 r,.int .u64 c,.string t,.int .i64 xn,.int .i64 P.k,.int .i64 P.f,.int .u64 P.c,.string P.t,.bool P.b] _ _ (heap_ext h4 e2)) x3.ext) x4.ext
     have ho:=own_ext (own_ext (own_setRow (own_ext hown x2.ext) (heap_ext h4 e2) (by decide) #[.int .i64 r,.int .u64 c,.string t,.int .i64 xn,.int .i64 P.k,.int .i64 P.f,.int .u64 P.c,.string P.t,.bool P.b]) x3.ext) x4.ext
     have hx:=(((HEW20.out.trans e2).setRow HG4.out #[.int .i64 r,.int .u64 c,.string t,.int .i64 xn,.int .i64 P.k,.int .i64 P.f,.int .u64 P.c,.string P.t,.bool P.b]).val x3).val x4
     go_wp2_with fail
     refine bodyPost_ret (results_row_tmp rfl _ _ _ 26 #[.int .i64 r,.int .u64 c,.string t,.int .i64 xn,.int .i64 P.k,.int .i64 P.f,.int .u64 P.c,.string P.t,.bool P.b] (0,0) _ rfl hf zu26 rfl info_state) rfl ?_
     rw [HFIN.out]
     refine ⟨.slice (some ⟨x1.val.heap.size,0,none⟩) 1 1,?_,?_,hx⟩
     ·simp [stepBF,St.cs,Lt.cs,HP.out]
     ·simp only [stepBF,if_neg hs,HN0.out]
      exact ho
    ·intro x1
     have e1:Ext W20 x1.val:=E0.val x1
     go_wp2_with (refine wpList_store_row rfl 26 _ _ rfl g4 _ rfl rfl 26 _ (heap_ext h4 e1) info_state rfl (by simp [Value.oneCell']) ?_)
     first|refine ⟨fun _=>⟨(setRow_other _ _ _ _ (by have:=HG2.out;omega)).trans (heap_ext N2.out e1),(setRow_other _ _ _ _ (by have:=HG49.out;omega)).trans (heap_ext H9.out e1),(HEW20.out.trans e1).setRow HG4.out _⟩,?_⟩|refine ⟨⟨(setRow_other _ _ _ _ (by have:=HG2.out;omega)).trans (heap_ext N2.out e1),(setRow_other _ _ _ _ (by have:=HG49.out;omega)).trans (heap_ext H9.out e1),(HEW20.out.trans e1).setRow HG4.out _⟩,?_⟩
     refine wpAnyT_one (i:=5) (by kernel_rfl) rfl ?_
     intro x2
     have e2:=((HEW20.out.trans e1).setRow HG4.out #[.int .i64 r,.int .u64 c,.string t,.int .i64 xn,.int .i64 P.k,.int .i64 P.f,.int .u64 P.c,.string P.t,.bool P.b]).val x2
     have hf2:=heap_ext (setRow_heap _ _ _ #[.int .i64 r,.int .u64 c,.string t,.int .i64 xn,.int .i64 P.k,.int .i64 P.f,.int .u64 P.c,.string P.t,.bool P.b] _ _ (heap_ext h4 e1)) x2.ext
     have h22:=heap_ext ((setRow_other x1.val g4 g2 #[.int .i64 r,.int .u64 c,.string t,.int .i64 xn,.int .i64 P.k,.int .i64 P.f,.int .u64 P.c,.string P.t,.bool P.b] (by have:=HG2.out;omega)).trans (heap_ext N2.out e1)) x2.ext
     have h92:=heap_ext ((setRow_other x1.val g4 g9 #[.int .i64 r,.int .u64 c,.string t,.int .i64 xn,.int .i64 P.k,.int .i64 P.f,.int .u64 P.c,.string P.t,.bool P.b] (by have:=HG49.out;omega)).trans (heap_ext H9.out e1)) x2.ext
     have hown:=own_new (size:=6) (n:=1) (e:=126) (xs:=Ou.cs ⟨n0,⟨xs,1,c,t,false⟩⟩) (cs:=#[.int .i64 n0,.int .i64 xs,.int .i64 1,.int .u64 c,.string t,.bool false]) e2 rfl (by decide) rfl rfl
     go_wp2_with fail
     first|refine ⟨fun _=>⟨heap_ext h22 (zR.alloc _),heap_ext h92 (zR.alloc _),e2.alloc _⟩,?_⟩|refine ⟨⟨heap_ext h22 (zR.alloc _),heap_ext h92 (zR.alloc _),e2.alloc _⟩,?_⟩
     refine wpAnyT_one (i:=7) (by kernel_rfl) rfl ?_
     intro x3
     go_wp2_with fail
     refine ⟨fun h=>absurd h (by decide),?_⟩
     refine wpAnyT_end (by kernel_rfl) fun x4=>?_
     have hf:=heap_ext (heap_ext (heap_ext hf2 (zR.alloc _)) x3.ext) x4.ext
     have ho:=own_ext (own_ext hown x3.ext) x4.ext
     have hx:=((e2.alloc _).val x3).val x4
     go_wp2_with fail
     refine bodyPost_ret (results_row_tmp rfl _ _ _ 26 #[.int .i64 r,.int .u64 c,.string t,.int .i64 xn,.int .i64 P.k,.int .i64 P.f,.int .u64 P.c,.string P.t,.bool P.b] (0,0) _ rfl hf zu26 rfl info_state) rfl ?_
     rw [HFIN.out]
     refine ⟨.slice (some ⟨x2.val.heap.size,0,none⟩) 1 1,?_,?_,hx⟩
     ·simp [stepBF,St.cs,Lt.cs,HP.out]
     ·simp only [stepBF,if_neg hs,HN0.out]
      exact ho
theorem rb_step (r c:Int) (t:ByteArray) (ph k f c2:Int) (t2:ByteArray) (fk:Bool) (ek ec:Int) (et:ByteArray) (lk lf lc:Int) (lt:ByteArray) (lb:Bool) (w:World):Calls Tryz.prog 76 #[.agg #[.int .i64 r,.int .u64 c,.string t,.int .i64 ph,.int .i64 k,.int .i64 f,.int .u64 c2,.string t2,.bool fk],.agg #[.int .i64 ek,.int .u64 ec,.string et,.int .i64 lk,.int .i64 lf,.int .u64 lc,.string lt,.bool lb]] w (Stepped w (stepA ⟨r,c,t,ph,⟨k,f,c2,t2,fk⟩⟩ ⟨ek,ec,et,⟨lk,lf,lc,lt,lb⟩⟩)):=by
 rw [stepA_doc]
 unfold stepBD
 rcases hc:chkA ⟨r,c,t,ph,⟨k,f,c2,t2,fk⟩⟩
 case false=>
  rw [if_neg (by simp)]
  exact rb_stepA _ _ _ _ _ _ _ _ _ _ _ _ _ _ _ _ _ _ hc
 rw [if_pos rfl]
 by_cases h0:ph=0
 case neg=>
  rw [if_neg (show ¬(⟨r,c,t,ph,⟨k,f,c2,t2,fk⟩⟩:St).ph=0 from h0)]
  exact rb_stepD _ _ _ _ _ _ _ _ _ _ _ _ _ _ _ _ _ _ hc h0
 subst h0
 rw [if_pos (show (⟨r,c,t,0,⟨k,f,c2,t2,fk⟩⟩:St).ph=0 from rfl)]
 by_cases h1:ek=1∧ec=c∧et.size≤64
 case neg=>
  rw [if_neg (show ¬((⟨ek,ec,et,⟨lk,lf,lc,lt,lb⟩⟩:Ev).k=1∧(⟨ek,ec,et,⟨lk,lf,lc,lt,lb⟩⟩:Ev).c=(⟨r,c,t,0,⟨k,f,c2,t2,fk⟩⟩:St).c∧(⟨ek,ec,et,⟨lk,lf,lc,lt,lb⟩⟩:Ev).t.size≤64) from h1)]
  exact rb_stepB _ _ _ _ _ _ _ _ _ _ _ _ _ _ _ _ _ hc h1
 rw [if_pos (show ((⟨ek,ec,et,⟨lk,lf,lc,lt,lb⟩⟩:Ev).k=1∧(⟨ek,ec,et,⟨lk,lf,lc,lt,lb⟩⟩:Ev).c=(⟨r,c,t,0,⟨k,f,c2,t2,fk⟩⟩:St).c∧(⟨ek,ec,et,⟨lk,lf,lc,lt,lb⟩⟩:Ev).t.size≤64) from h1)]
 obtain ⟨rfl,rfl,h2⟩:=h1
 exact rb_stepC _ _ _ _ _ _ _ _ _ _ _ _ _ _ _ hc (by omega)
theorem info_vdA:(Tryz.prog.info? 29).map (·.size)=some 3:=by kernel_rfl
def rightV (v:Vd):Bool:=(decide (v.k=1) && decide (v.t = { data:=#[] })) || (decide (v.k=2) && decide (v.t.size≤64))
theorem rv_right (c k:Int) (t:ByteArray) (w:World):Calls Tryz.prog 96 #[.agg #[.int .u64 c,.int .i64 k,.string t]] w fun e w'=>e = .returned (.bool (rightV ⟨c,k,t⟩))∧Ext w w':=by
 go_enter Tryz.func96,Tryz.ntmps96
 go_upto_region 1 with fail
 refine wp_forget (fun w'=>∃ g,Hid (g=w.heap.size)∧Hid (w'.heap[g]?=some (.cells #[.int .u64 c,.int .i64 k,.string t] 29 (0,0)))∧Hid (Ext w w')) ⟨_,zd rfl,zd (one_new zR).1,zd (one_new zR).2⟩ ?_
 rintro W1 ⟨g,hg,H1,HE1⟩
 rw [←hg.out]
 clear hg
 have q1:=zQ H1.out
 have l1:g<W1.heap.size:=zL H1.out
 go_wp2_with fail
 all_goals
  go_ret
  refine ⟨?_,HE1.out⟩
  refine congrArg (fun n=>Ending.returned (Value.bool n)) ?_
  unfold rightV
  simp_all [nil_iff]
  try omega
theorem rv_says (c k:Int) (t:ByteArray) (w:World):Calls Tryz.prog 68 #[.agg #[.int .u64 c,.int .i64 k,.string t]] w fun e w'=>e = .returned (.tuple #[.agg ((saysS ⟨c,k,t⟩).getD l0).cs.toArray,.bool (saysS ⟨c,k,t⟩).isSome])∧Ext w w':=by
 have hr:rightV ⟨c,k,t⟩=(saysS ⟨c,k,t⟩).isSome:=by
  unfold rightV saysS
  simp only
  repeat' split
  all_goals simp_all
 obtain ⟨o,hs⟩ : ∃ o,saysS ⟨c,k,t⟩=o:=⟨_,rfl⟩
 rw [hs] at hr ⊢
 cases o
 case none=>
  go_enter Tryz.func68,Tryz.ntmps68
  go_upto_region 1 with fail
  refine wp_forget (fun w'=>∃ g g2,Hid (g=w.heap.size∧g2=w.heap.size+1)∧Hid (w'.heap[g]?=some (.cells #[.int .u64 c,.int .i64 k,.string t] 29 (0,0)))∧Hid (w'.heap[g2]?=some (.cells #[.int .i64 0,.int .i64 0,.int .u64 0,.string { data:=#[] },.bool false] 24 (0,0)))∧Hid (Ext w w')∧Hid (w.heap.size≤g2)) ⟨_,_,zd ⟨rfl,rfl⟩,zd (two_new zR).1,zd (two_new zR).2.1,zd (two_new zR).2.2,zd (by omega)⟩ ?_
  rintro W1 ⟨g,g2,hg,H1,H2,HE1,HG⟩
  rw [←hg.out.2,←hg.out.1]
  clear hg
  go_wp2_with (first|((with_reducible refine wpList_load_rowG ?_ 29 (.tmp 1) ?_ g ?_ 29 #[.int .u64 c,.int .i64 k,.string t] (0,0) _ ?_ zu29 ?_ ?_ ?_);(·rfl);(·rfl);(·rfl);(·exact H1.out);(·rfl);(·exact info_vdA))|(go_at_call 96;refine (rv_right _ _ _ _).mono ?_;rw [hr];rintro e w2 ⟨rfl,hx2⟩;have K1:=zd (heap_ext H1.out hx2);have H3:=zd (heap_ext H2.out hx2);have HE2:=zd (HE1.out.trans hx2);clear hx2;have q1:=zQ K1.out;have l1:g<w2.heap.size:=(zL K1.out))|(refine wpList_store_row rfl 24 _ _ rfl g2 _ rfl rfl 24 _ H3.out info_lt rfl (by simp [Value.oneCell']) ?_))
  refine bodyPost_ret (results_row_tmp rfl _ _ _ 24 #[.int .i64 0,.int .i64 0,.int .u64 0,.string { data:=#[] },.bool false] (0,0) _ rfl (setRow_heap _ _ _ _ _ _ H3.out) zu24 rfl info_lt) rfl ?_
  exact ⟨rfl,HE2.out.setRow HG.out _⟩
 rename_i l
 have hs2:=hs
 unfold saysS at hs2
 simp only at hs2
 split at hs2
 case isTrue h=>
  cases hs2
  obtain ⟨rfl,rfl⟩:=h
  go_enter Tryz.func68,Tryz.ntmps68
  go_upto_region 1 with fail
  refine wp_forget (fun w'=>∃ g g2,Hid (g=w.heap.size∧g2=w.heap.size+1)∧Hid (w'.heap[g]?=some (.cells #[.int .u64 c,.int .i64 1,.string { data:=#[] }] 29 (0,0)))∧Hid (w'.heap[g2]?=some (.cells #[.int .i64 0,.int .i64 0,.int .u64 0,.string { data:=#[] },.bool false] 24 (0,0)))∧Hid (Ext w w')∧Hid (w.heap.size≤g2)) ⟨_,_,zd ⟨rfl,rfl⟩,zd (two_new zR).1,zd (two_new zR).2.1,zd (two_new zR).2.2,zd (by omega)⟩ ?_
  rintro W1 ⟨g,g2,hg,H1,H2,HE1,HG⟩
  rw [←hg.out.2,←hg.out.1]
  clear hg
  go_wp2_with (first|((with_reducible refine wpList_load_rowG ?_ 29 (.tmp 1) ?_ g ?_ 29 #[.int .u64 c,.int .i64 1,.string { data:=#[] }] (0,0) _ ?_ zu29 ?_ ?_ ?_);(·rfl);(·rfl);(·rfl);(·exact H1.out);(·rfl);(·exact info_vdA))|(go_at_call 96;refine (rv_right _ _ _ _).mono ?_;rw [hr];rintro e w2 ⟨rfl,hx2⟩;have K1:=zd (heap_ext H1.out hx2);have H3:=zd (heap_ext H2.out hx2);have HE2:=zd (HE1.out.trans hx2);clear hx2;have q1:=zQ K1.out;have l1:g<w2.heap.size:=(zL K1.out))|(refine wpList_store_row rfl 24 _ _ rfl g2 _ rfl rfl 24 _ H3.out info_lt rfl (by simp [Value.oneCell']) ?_))
  refine bodyPost_ret (results_row_tmp rfl _ _ _ 24 #[.int .i64 5,.int .i64 0,.int .u64 c,.string { data:=#[] },.bool false] (0,0) _ rfl (setRow_heap _ _ _ _ _ _ H3.out) zu24 rfl info_lt) rfl ?_
  exact ⟨rfl,HE2.out.setRow HG.out _⟩
 split at hs2
 case isFalse=>cases hs2
 rename_i h
 cases hs2
 obtain ⟨rfl,h2⟩:=h
 go_enter Tryz.func68,Tryz.ntmps68
 go_upto_region 1 with fail
 refine wp_forget (fun w'=>∃ g g2,Hid (g=w.heap.size∧g2=w.heap.size+1)∧Hid (w'.heap[g]?=some (.cells #[.int .u64 c,.int .i64 2,.string t] 29 (0,0)))∧Hid (w'.heap[g2]?=some (.cells #[.int .i64 0,.int .i64 0,.int .u64 0,.string { data:=#[] },.bool false] 24 (0,0)))∧Hid (Ext w w')∧Hid (w.heap.size≤g2)) ⟨_,_,zd ⟨rfl,rfl⟩,zd (two_new zR).1,zd (two_new zR).2.1,zd (two_new zR).2.2,zd (by omega)⟩ ?_
 rintro W1 ⟨g,g2,hg,H1,H2,HE1,HG⟩
 rw [←hg.out.2,←hg.out.1]
 clear hg
 go_wp2_with (first|((with_reducible refine wpList_load_rowG ?_ 29 (.tmp 1) ?_ g ?_ 29 #[.int .u64 c,.int .i64 2,.string t] (0,0) _ ?_ zu29 ?_ ?_ ?_);(·rfl);(·rfl);(·rfl);(·exact H1.out);(·rfl);(·exact info_vdA))|(go_at_call 96;refine (rv_right _ _ _ _).mono ?_;rw [hr];rintro e w2 ⟨rfl,hx2⟩;have K1:=zd (heap_ext H1.out hx2);have H3:=zd (heap_ext H2.out hx2);have HE2:=zd (HE1.out.trans hx2);clear hx2;have q1:=zQ K1.out;have l1:g<w2.heap.size:=(zL K1.out))|(refine wpList_store_row rfl 24 _ _ rfl g2 _ rfl rfl 24 _ H3.out info_lt rfl (by simp [Value.oneCell']) ?_))
 refine bodyPost_ret (results_row_tmp rfl _ _ _ 24 #[.int .i64 6,.int .i64 0,.int .u64 c,.string t,.bool false] (0,0) _ rfl (setRow_heap _ _ _ _ _ _ H3.out) zu24 rfl info_lt) rfl ?_
 exact ⟨rfl,HE2.out.setRow HG.out _⟩
end Go.Proofs.YtlnmhocehgmbbaaGreatDoor

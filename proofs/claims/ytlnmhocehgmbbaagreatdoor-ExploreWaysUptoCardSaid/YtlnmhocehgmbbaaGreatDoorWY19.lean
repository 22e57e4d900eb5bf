/- No condition. -/
import Derived.Test.YtlnmhocehgmbbaaGreatDoorWY3
import Derived.Test.YtlnmhocehgmbbaaGreatDoorWY12
import Derived.Test.YtlnmhocehgmbbaaGreatDoorWY18
import Derived.Sort.OwnSorted
import Derived.WideKeyEntry
set_option linter.all false
set_option maxRecDepth 100000
set_option maxHeartbeats 6400000
namespace Go.Proofs.YtlnmhocehgmbbaaGreatDoor
open Go.RowKit
attribute [local go_sem ↓] eql_lEq eql_sEq eql_eEq eql_oEq neq_lEq neq_sEq neq_eEq neq_oEq eql_vEq neq_vEq eql_nil
attribute [local go_sem] ExtOf.cell ExtOf.frozen ExtOf.lt ExtOf.le
attribute [local go_sem high] ExtOf.cell2 ExtOf.frozen2 ExtOf.lt2 ExtOf.cell3 ExtOf.frozen3 ExtOf.lt3
def lnsS (h:List Lt):List (List UInt8):=h.map fun l=>(lineS l).data.toList
def sortB (S:List (List UInt8)):List (List UInt8):=S.mergeSort fun x y=>decide (x≤y)
def heardS (h:List Lt):ByteArray:=⟨(Lib.join (sortB (lnsS h)) [10]).toArray⟩
theorem sortB_len (S:List (List UInt8)):(sortB S).length=S.length:=List.length_mergeSort _
theorem heardS_perm {a b:List Lt} (h:a.Perm b):heardS a=heardS b:=by
 have h1:(sortB (lnsS a)).Perm (sortB (lnsS b)):=((List.mergeSort_perm _ _).trans (h.map _)).trans (List.mergeSort_perm _ _).symm
 have hs : ∀ S:List (List UInt8),(sortB S).Pairwise (·≤·):=fun S=>by
  have:=List.pairwise_mergeSort (le:=fun x y:List UInt8=>decide (x≤y)) (fun a b c hab hbc=>by simp only [decide_eq_true_eq] at *;exact List.le_trans hab hbc) (fun a b=>by simp only [Bool.or_eq_true,decide_eq_true_eq];exact List.le_total a b) S
  exact this.imp fun h=>by simpa using h
 have h2:sortB (lnsS a)=sortB (lnsS b):=List.Perm.eq_of_pairwise (fun x y _ _ hxy hyx=>List.le_antisymm hxy hyx) (hs _) (hs _) h1
 unfold heardS
 rw [h2]
theorem join_len : ∀ (S:List (List UInt8)) (sep:List UInt8) (n:Nat),(∀ s∈S,s.length≤n)→(Lib.join S sep).length≤S.length*(n+sep.length)
 | [],sep,n,_=>by simp [Lib.join]
 | [s],sep,n,h=>by
  have:=h s (by simp)
  simp [Lib.join]
  omega
 | s::s2::S,sep,n,h=>by
  have h1:=h s (by simp)
  have h2:=join_len (s2::S) sep n (fun t ht=>h t (List.mem_cons_of_mem _ ht))
  unfold Lib.join at h2 ⊢
  rw [List.intercalate_cons_cons,List.length_append,List.length_append]
  simp only [List.length_cons] at h2 ⊢
  rw [Nat.add_mul (S.length+1) 1]
  omega
theorem info_string:(Tryz.prog.info? 9).map (fun i=>(i.zero,i.size,i.bytes))=some (some (.string { data:=#[] }),1,16):=by kernel_rfl
def OwnS (w:World) (B:Nat) (S:List (List UInt8)) (v:Value):Prop:=w.ownsRow B 9 1 v S.length (S.map encStr)
theorem OwnS.ext {w w':World} {B:Nat} {S:List (List UInt8)} {v:Value} (h:OwnS w B S v) (e:Ext w w'):OwnS w' B S v:=own_ext h e
open Go.Sort in
theorem sl_sort (B:Nat) (S:List (List UInt8)) (v:Value) (w:World) (hO:OwnS w B S v) (hl:S.length≤100000) :
 Calls Tryz.prog 79 #[v] w fun e w'=>e = .returned (.tuple #[])∧OwnS w' B (sortB S) v∧w.grownBy w' v.ownBlock:=by
 rcases hO.2 with ⟨hv,hn⟩|⟨g,cap,cur,hv,hb,hg,h1,h2,h3,h4⟩
 ·subst hv
  have hS:S=[]:=List.length_eq_zero_iff.1 hn
  subst hS
  refine (sh_slices_Sort_string_none none 0 w).mono ?_
  rintro e w' ⟨rfl,rfl⟩
  exact ⟨rfl,by rw [show sortB []=[] by simp [sortB]];exact hO,rfl,rfl,rfl,Nat.le_refl _,fun _ _ _=>rfl⟩
 ·subst hv
  refine (sh_slices_Sort_string g 0 cap S w (holds_of_block hg (by simpa using h4)) (zL hg) (by omega)).mono ?_
  rintro e w' ⟨rfl,n,os,rfl⟩
  refine ⟨rfl,?_,grownBy_sorted _⟩
  unfold OwnS
  rw [sortB_len]
  exact ownsRow_sorted (sortB_len S) hb hg h1 h2 h3
def keyArr (x:Ex):Array Value:=#[.int .i64 x.s0.r,.int .u64 x.s0.c,.string x.s0.t,.int .i64 x.s0.ph,.int .i64 x.s0.p.k,.int .i64 x.s0.p.f,.int .u64 x.s0.p.c,.string x.s0.p.t,.bool x.s0.p.b,
 .int .i64 x.s1.r,.int .u64 x.s1.c,.string x.s1.t,.int .i64 x.s1.ph,.int .i64 x.s1.p.k,.int .i64 x.s1.p.f,.int .u64 x.s1.p.c,.string x.s1.p.t,.bool x.s1.p.b,
 .int .u64 x.v.c,.int .i64 x.v.k,.string x.v.t,.bool x.b0,.bool x.b1,.bool x.full,.string (heardS x.h)]
def keyZ:Array Value:=#[.int .i64 0,.int .u64 0,.string { data:=#[] },.int .i64 0,.int .i64 0,.int .i64 0,.int .u64 0,.string { data:=#[] },.bool false,
 .int .i64 0,.int .u64 0,.string { data:=#[] },.int .i64 0,.int .i64 0,.int .i64 0,.int .u64 0,.string { data:=#[] },.bool false,
 .int .u64 0,.int .i64 0,.string { data:=#[] },.bool false,.bool false,.bool false,.string { data:=#[] }]
theorem info_key (x:Ex):(Tryz.prog.info? 107).map (·.size)=some (keyArr x).size:=by
 rw [show (keyArr x).size=25 from rfl]
 kernel_rfl
theorem sl_join (B:Nat) (S:List (List UInt8)) (v:Value) (w:World) (hO:OwnS w B S v) (hl:S.length≤1000) (hs : ∀ s∈S,s.length≤600) :
 Calls Tryz.prog 80 #[v,.string { data:=#[10] }] w fun e w'=>e = .returned (.string ⟨(Lib.join S [10]).toArray⟩)∧Ext w w':=by
 rcases hO.2 with ⟨hv,hn⟩|⟨g,cap,cur,hv,hb,hg,h1,h2,h3,h4⟩
 ·subst hv
  have hS:S=[]:=List.length_eq_zero_iff.1 hn
  subst hS
  refine (sh_strings_Join_none none 0 _ w).mono ?_
  rintro e w' ⟨rfl,rfl⟩
  exact ⟨rfl,zR⟩
 ·subst hv
  have e1:(S.map fun l:List UInt8=>(⟨l.toArray⟩:ByteArray)).map (·.data.toList)=S:=by
   rw [List.map_map]
   exact (List.map_congr_left fun a _=>by simp).trans (List.map_id S)
  have e2:(S.map fun l:List UInt8=>(⟨l.toArray⟩:ByteArray)).length=S.length:=List.length_map _
  have hj:=sh_strings_Join g 0 cap (S.map fun l:List UInt8=>(⟨l.toArray⟩:ByteArray)) { data:=#[10] } w (fun j y hy=>?_) (zL hg) (by rw [e2];omega) (by rw [e2];omega) ?_
  ·rw [e1,e2] at hj
   exact hj
  ·have hjl:j<S.length:=by have:=(zM hy);simpa using this
   have h5:(cur.toList.take (S.length*1))[j]?=(S.map encStr)[j]?:=by rw [h4]
   rw [List.getElem?_take_of_lt (by omega)] at h5
   rw [Nat.zero_add,cell_of_row w g j cur _ (0,0) hg,←Array.getElem?_toList,h5]
   rw [List.getElem?_map] at hy ⊢
   cases hz:S[j]? with
   | none=>rw [hz] at hy;cases hy
   | some z=>
    rw [hz] at hy
    simp only [Option.map_some,Option.some.injEq] at hy ⊢
    rw [←hy]
    try rfl
  ·rw [e1]
   show (Lib.join S [10]).length≤140737488355328
   have:=join_len S [10] 600 hs
   have h9:S.length*(600+[(10:UInt8)].length)≤1000*(600+[(10:UInt8)].length):=Nat.mul_le_mul_right _ hl
   simp only [List.length_cons,List.length_nil] at this h9
   omega
theorem lns_len {h:List Lt} (hc : ∀ l∈h,U64 l.c) {s:List UInt8} (hs:s∈lnsS h):s.length≤600:=by
 obtain ⟨l,hl,rfl⟩:=List.mem_map.1 hs
 exact lineS_size l (hc l hl)
theorem quiet_load_mid {P:Program} {W:World} {a:Act} {o:Oper} {K:Act→Prop} (ty:TypeId) (x:Operand) (ho:o.op = .load ty x)
 (b f:Nat) (hx:a.eval x = .pointer (some ⟨b,f,none⟩)) (cs:List Value) (d:TypeDesc) (hc:W.rangeAt b f cs)
 (hu:P.underlying ty=some d) (hd:d.isRow=true) (hi:(P.info? ty).map (·.size)=some cs.length)
 (h:K (a.put o.dst (.agg cs.toArray))):o.quiet P a (fun w''=>∃ x:ExtOf W,w''=x.val) K:=by
 refine ⟨_,?_,h⟩
 rintro w ⟨y,rfl⟩
 unfold Oper.quietAt execOp
 simp only [ho,hx,Instr.loadAt,Instr.sureAddr,Sem.run_bind,Sem.run_pure,Result.andThen_ok,run_loadVar_mid y.val b f ty cs d (fun j v hj=>cell_keep (hc j v hj) y.ext) hu hd hi]
 exact ⟨rfl,rfl⟩
def Ex.vcs (x:Ex):List Value:=[.int .u64 x.v.c,.int .i64 x.v.k,.string x.v.t]
def Ex.bcs (x:Ex):List Value:=[.bool x.b0,.bool x.b1]
theorem info_vdx (x:Ex):(Tryz.prog.info? 29).map (·.size)=some x.vcs.length:=by
 rw [show x.vcs.length=3 from rfl]
 kernel_rfl
theorem info_b2x (x:Ex):(Tryz.prog.info? 30).map (·.size)=some x.bcs.length:=by
 rw [show x.bcs.length=2 from rfl]
 kernel_rfl
theorem ex_key (x:Ex) (v:Value) (w:World) (hR:Hrd w x v) (hn:x.h.length≤1000) (hc : ∀ l∈x.h,U64 l.c) (hT:TabW w) :
 Calls Tryz.prog 52 #[.agg (x.arr v)] w fun e w'=>e = .returned (.agg (keyArr x))∧Ext w w':=by
 obtain ⟨i0,hi,hz0,hz1,hz2⟩:=info_parts info_string
 obtain ⟨a,cap,rfl,hm,hvw⟩:=row_view hR
 have HV:=zd hvw
 have HT:=zd hT
 have HC:=zd hc
 clear hvw hR hm hT hc
 go_enter Tryz.func52,Tryz.ntmps52
 go_upto_region 1 with fail
 refine wp_forget (fun w'=>∃ gK,gK=w.heap.size+1∧ExAt w' w.heap.size x (.slice a x.h.length cap)∧w'.heap[gK]?=some (.cells keyZ 107 (0,0))∧Ext w w') ⟨_,rfl,(two_new zR).1,(two_new zR).2.1,(two_new zR).2.2⟩ ?_
 rintro W1 ⟨gK,hgk,h1,h2,x1⟩
 rw [←hgk]
 have HGK:Hid (gK=w.heap.size+1):=zd hgk
 clear hgk
 have HX1:=zd h1
 have HK1:=zd h2
 have HE1:=zd x1
 unfold ExAt Ex.arr at h1
 have q25:=zQ h1 25
 have l1:w.heap.size<W1.heap.size:=zL h1
 clear h1 h2 x1
 go_wp2_with fail
 go_loopg [3,9] x.h.length (fun g l ii wr=>∃ (n:Nat) (y:ExtOf W1),ii = .int .i64 (n:Int)∧n+g=x.h.length∧wr=y.val∧Hid (OwnS wr W1.heap.size (lnsS (x.h.take n)) l))
 case atStart=>exact ⟨0,⟨W1,zR⟩,rfl,by omega,rfl,zd (World.ownsRow_nil W1 _ _ _)⟩
 case round=>
  obtain ⟨n,y,rfl,hg,rfl,HOwn⟩:=hrel
  by_cases hlt:n<x.h.length
  ·obtain ⟨g,off,rfl,hgl,hcell⟩:=HV.out (by omega)
   have hgl:=hgl (by omega)
   obtain ⟨z,hx⟩ : ∃ t,x.h[n]?=some t:=⟨_,zG hlt⟩
   obtain ⟨q0,q1,q2,q3,q4⟩:=lt_cellsO (fun j u hj=>cell_keep (hcell j u hj) HE1.out) hx
   have HX:=zd hx
   have hgl1:g<W1.heap.size:=zU hgl HE1.out.size
   clear hx hcell hgl
   have hlt':(n:Int)<(x.h.length:Int):=by omega
   have hyl:=y.ext.size
   have hpl:(lnsS (x.h.take n)).length≤1000:=by simp [lnsS];omega
   go_wp2_with (first|(go_at_call 78;refine (le_print z _ (HC.out z (zE HX.out)) (HT.out.ext (HE1.out.trans (y.ext.alloc _)))).mono ?_;rintro e w3 ⟨rfl,hx3⟩;have hx4:=(y.ext.alloc _).trans hx3;have ho4:=OwnS.ext HOwn.out (((Ext.refl y.val).alloc _).trans hx3);have HO4:=zd ho4;have HX4:=zd hx4;clear hx3 hx4 ho4)|(at_builtin;refine wpList_app6 W1.heap.size 34 9 i0 _ 1 16 zu34 hi hz0 hz1 hz2 rfl (by decide) rfl _ _ rfl _ (lnsS (x.h.take n)).length _ rfl (OwnS.ext HO4.out (zR.alloc _)) (zT HX4.out.size (zR.alloc _).size) w3.heap.size 1 1 _ (by omega) rfl (heap_new (by simp)) rfl (by simp [Value.oneCell']) (by unfold maxLen;omega) (by omega) ?_;intro v2 w5 hv2 hb2 _ _))
   go_roundg (gk - 1)
   case rel=>
    refine ⟨n+1,⟨w5,(HX4.out.alloc _).trans' hb2⟩,rfl,by omega,rfl,zd ?_⟩
    have e1:lnsS (x.h.take (n+1))=lnsS (x.h.take n)++[(lineS z).data.toList]:=take_map _ HX.out
    rw [e1]
    unfold OwnS
    rw [List.length_append,List.map_append]
    simpa [encStr] using hv2
   case measure=>omega
  ·have hge:(x.h.length:Int)≤(n:Int):=by omega
   have ho:=HOwn.out
   rw [List.take_of_length_le (by omega)] at ho
   have HO:=zd ho
   have hps:(lnsS x.h).length=x.h.length:=by simp [lnsS]
   have HPS:=zd hps
   clear ho HOwn hps
   go_upto_region 8 with (go_at_call 79;refine (sl_sort W1.heap.size (lnsS x.h) _ _ HO.out (by rw [HPS.out];omega)).mono ?_;rintro e w4 ⟨rfl,hO4,hg4⟩;have HO4:=zd hO4;have HX4:Hid (Ext W1 w4):=zd (Below.grown y.ext hg4 y.ext.size (fun k hk=>(HO.out.lt k hk).1));clear hO4 hg4)
   have hxa:=heap_ext HX1.out HX4.out
   have hka:=heap_ext HK1.out HX4.out
   have HXA:=zd hxa
   have HKA:=zd hka
   clear hxa hka HX1 HK1 q25 l1
   have hgne:w.heap.size≠gK:=by have:=HGK.out;omega
   have HGN:=zd hgne
   clear hgne
   refine wp_region_mixX gK (af:=?af) [true,true,true,true,true,true,true,true,true,false,false,false] 32 (by kernel_rfl) rfl (by kernel_rfl) ?q ?r
   case q=>
    intro x0
    simp only [pickT,if_true,if_false,Bool.false_eq_true]
    have hxx:x0.val.heap[w.heap.size]?=some (.cells (x.arr (.slice a x.h.length cap)) 33 (0,0)):=(x0.but.block _ (zL HXA.out) (by have:=HGN.out;simpa using this)).trans HXA.out
    have HXX:=zd hxx
    have q24:=zQ hxx 24
    have lxx:w.heap.size<x0.val.heap.size:=zL hxx
    unfold Ex.arr at q24
    go_big_quiet_step (fail)
    (go_big_quiet_want;refine quiet_load_mid 27 _ rfl w.heap.size 1 rfl x.sts (.array 2 26) (range_of_row hxx 1 x.sts.length _ rfl) zu27 rfl (info_stx x) ?_;go_big_quiet_on;simp only [Act.put,List.setIfInBounds_toArray,List.set_cons_succ,List.set_cons_zero])
    go_big_quiet_step (fail)
    (go_big_quiet_want;refine quiet_load_mid 29 _ rfl w.heap.size 19 rfl x.vcs (.struct _) (range_of_row hxx 19 x.vcs.length _ rfl) zu29 rfl (info_vdx x) ?_;go_big_quiet_on;simp only [Act.put,List.setIfInBounds_toArray,List.set_cons_succ,List.set_cons_zero])
    go_big_quiet_step (fail)
    (go_big_quiet_want;refine quiet_load_mid 30 _ rfl w.heap.size 22 rfl x.bcs (.array 2 4) (range_of_row hxx 22 x.bcs.length _ rfl) zu30 rfl (info_b2x x) ?_;go_big_quiet_on;simp only [Act.put,List.setIfInBounds_toArray,List.set_cons_succ,List.set_cons_zero])
    repeat (go_big_quiet_step (fail))
    exact rfl
   case r=>
    simp only [pickF,if_true,if_false,Bool.false_eq_true]
    intro x1
    have e1:Ext w4 x1.val:=zR.drew.val x1
    have HE4:=zd e1
    clear e1
    go_wp2_with (go_at_call 80;refine (sl_join W1.heap.size (sortB (lnsS x.h)) _ _ (HO4.out.ext HE4.out) (by rw [sortB_len,HPS.out];exact hn) (fun s hs=>lns_len HC.out (List.mem_mergeSort.1 hs))).mono ?_;rintro e w5 ⟨rfl,hx5⟩;have HX5:=zd (HE4.out.trans hx5);clear hx5)
    refine ⟨but_ext (but_refl gK w4) HX5.out,?_⟩
    intro x2
    unfold Ex.sts Ex.vcs Ex.bcs
    go_wp2_with fail
    refine ⟨but_ext (but_refl gK w4) (HX5.out.val x2),?_⟩
    intro x3
    have hk3:=heap_ext HKA.out ((HX5.out.val x2).val x3)
    have HK3:=zd hk3
    clear hk3
    go_wp2_with ((with_reducible refine wpList_store_row ?_ 107 (.tmp 2) (.tmp 31) ?_ gK (keyArr x) ?_ ?_ 107 keyZ ?_ ?_ ?_ ?_ ?_);(·rfl);(·rfl);(·rfl);(·rfl);(·exact HK3.out);(·exact info_key x);(·rfl);(·simp [keyArr,Value.oneCell']))
    refine ⟨but_setRow (but_ext (but_refl gK w4) ((HX5.out.val x2).val x3)) _,?_⟩
    intro x4
    go_wp2_with fail
    have hX4:=HX4.out
    refine bodyPost_ret (results_cell_row rfl _ _ _ _ _ (0,0) _ rfl (heap_ext (setRow_heap _ _ _ _ _ _ HK3.out) x4.ext) zu107 rfl (info_key x)) rfl ⟨rfl,?_⟩
    exact (Ext.setRow (HE1.out.trans (hX4.trans ((HX5.out.val x2).val x3))) (by have:=HGK.out;omega) _).val x4
end Go.Proofs.YtlnmhocehgmbbaaGreatDoor
namespace Go.Proofs.YtlnmhocehgmbbaaGreatDoor
open Go.RowKit
section
variable {α:Type} {kv:α→Value} {b:Nat} {S:List (α×Value)} {w w':World}
def MapH (kv:α→Value) (b:Nat) (S:List (α×Value)) (w:World):Prop:=
 ∃ es clock,w.heap[b]?=some (.map es clock)∧es.toList.map (fun e=>(e.key,e.val))=S.map (fun p=>(kv p.1,p.2))∧(es.toList.map (·.born)).Nodup∧∀ e∈es.toList,e.born<clock
theorem MapH.g (h:MapH kv b S w):MapG kv b S w:=by
 obtain ⟨es,clock,h1,h2,_⟩:=h
 exact ⟨es,clock,h1,h2⟩
theorem MapH.same (h:MapH kv b S w) (e:w'.heap[b]?=w.heap[b]?):MapH kv b S w':=by
 obtain ⟨es,clock,h1,h2⟩:=h
 exact ⟨es,clock,e.trans h1,h2⟩
theorem MapH.lt (h:MapH kv b S w):b<w.heap.size:=h.g.lt
theorem MapH.obj (h:MapH kv b S w) : ∃ es clock,w.heap[b]?=some (.map es clock):=by
 obtain ⟨es,clock,h1,_⟩:=h
 exact ⟨es,clock,h1⟩
end
section
variable {P:Program} {kt et T:TypeId} {α:Type} [DecidableEq α] {kv:α→Value}
theorem run_mapEntryH (hK:KeysOk P kt kv) (hT:P.underlying T=some (.map kt et)) {z:Value} (hz : ∀ w,(zeroValue et).run P w = .ok z w) {w:World} {b:Nat} {S:List (α×Value)} (hM:MapH kv b S w) (x:α) :
 ∃ (st:Nat) (ob:Obj),(Instr.mapEntry T (.map (some b)) (kv x)).run P w = .ok (.tuple #[(getM S x).getD z,goInt st]) (setB w b ob)∧
  ∀ (w2:World) (v:Value),w2.heap[b]?=some ob→∃ ob',(Instr.entryStore T (.map (some b)) (goInt st) v).run P w2 = .ok () (setB w2 b ob')∧MapH kv b (putM S x v) (setB w2 b ob'):=by
 obtain ⟨es,clock,h1,h2,h3,h4⟩:=hM
 have hf:=hK.find x es.toList S w h2
 have hg:=find_of_idxM S x
 cases hi:S.findIdx? (fun p=>decide (p.1=x)) with
 | none=>
  rw [hi] at hf hg
  simp only [Option.bind_none] at hf hg
  have hpm:putM S x=fun v=>S++[(x,v)]:=by funext v;simp [putM,hi]
  have hnd:((es.push ⟨kv x,z,clock⟩).toList.map (·.born)).Nodup:=by
   simp only [Array.toList_push,List.map_append,List.map_cons,List.map_nil]
   refine List.nodup_append.2 ⟨h3,by simp,fun a ha c hc e1=>?_⟩
   simp only [List.mem_singleton] at hc
   obtain ⟨y,hy,rfl⟩:=List.mem_map.1 ha
   have:=h4 y hy
   omega
  refine ⟨clock,.map (es.push ⟨kv x,z,clock⟩) (clock+1),?_,fun w2 v hw2=>⟨.map (es.push ⟨kv x,v,clock⟩) (clock+1),?_,?_⟩⟩
  ·simp [Instr.mapEntry,run_underlying hT,run_getMap h1,hK.chk,hf,hz,run_setMap h1,←hg]
  ·have hidx:(es.push ⟨kv x,z,clock⟩).findIdx? (fun e=>((e.born:Nat):Int) == ((clock:Nat):Int))=some es.size:=by
    rw [Go.WideElems.findIdx_arr]
    exact Go.WideElems.findIdx_born (l:=(es.push ⟨kv x,z,clock⟩).toList) (j:=es.size) (e0:=⟨kv x,z,clock⟩) hnd (by simp)
   have hmod:(es.push ⟨kv x,z,clock⟩).modify es.size (fun e=>{ e with val:=v })=es.push ⟨kv x,v,clock⟩:=by
    apply Array.ext'
    rw [Array.toList_modify,Array.toList_push,Array.toList_push,←Array.length_toList,Go.WideElems.modify_last]
   simp [Instr.entryStore,run_getMap hw2,asInt,asIntOf,goInt,hidx,hmod,run_setMap hw2]
  ·refine ⟨_,_,setB_same (zL hw2),?_,?_,?_⟩
   ·rw [hpm];simp [h2]
   ·simpa using hnd
   ·intro e he
    simp only [Array.toList_push,List.mem_append,List.mem_singleton] at he
    rcases he with he|rfl
    ·have:=h4 e he;omega
    ·exact Nat.lt_succ_self _
 | some j=>
  obtain ⟨hjS,hp,_⟩:=List.findIdx?_eq_some_iff_getElem.1 hi
  rw [hi] at hf hg
  simp only [Option.bind_some,zG hjS,Option.map_some] at hf hg
  have hpx:S[j].1=x:=by simpa using hp
  have hjl:j<es.size:=by
   have:=congrArg List.length h2
   simp only [List.length_map,Array.length_toList] at this
   rw [this];exact hjS
  have hej:es[j]?=some es[j]:=Array.getElem?_eq_getElem hjl
  have hkey:es[j].key=kv x:=by
   have h5:=congrArg (fun l=>(l[j]?).map Prod.fst) h2
   simp only [List.getElem?_map,zG hjS,Option.map_some,Array.getElem?_toList,hpx,hej,Option.some.injEq] at h5
   exact h5
  have hst:(Instr.keyThatStays (kv x) (kv x)).run P w = .ok (kv x) w:=by
   unfold Instr.keyThatStays
   rw [if_pos (hK.bits x)]
   rfl
  have hmod1:es.modify j (fun e=>{ e with key:=kv x })=es:=by
   apply Array.ext'
   rw [Array.toList_modify]
   refine List.ext_getElem? fun m=>?_
   rw [List.getElem?_modify]
   by_cases hm:j=m
   ·subst hm
    rw [Array.getElem?_toList,hej]
    simp [←hkey]
   ·simp [hm]
  refine ⟨es[j].born,.map es clock,?_,fun w2 v hw2=>⟨.map (es.modify j fun e=>{ e with val:=v }) clock,?_,?_⟩⟩
  ·simp only [Instr.mapEntry,Sem.run_bind,run_underlying hT w,Result.andThen_ok,run_getMap h1,hK.chk,hf,hej,Option.map_some,Option.getD_some,hkey,hst,run_setMap h1,Sem.run_pure,hmod1,←hg]
  ·have hidx:es.findIdx? (fun e=>((e.born:Nat):Int) == ((es[j].born:Nat):Int))=some j:=by
    rw [Go.WideElems.findIdx_arr]
    exact Go.WideElems.findIdx_born h3 (by simp)
   simp [Instr.entryStore,run_getMap hw2,asInt,asIntOf,goInt,hidx,run_setMap hw2]
  ·have hmb : ∀ m:Nat,((es.modify j fun e=>{ e with val:=v }).toList.map (·.born))[m]?=(es.toList.map (·.born))[m]?:=fun m=>by
    simp only [List.getElem?_map,Array.getElem?_toList,Array.getElem?_modify]
    by_cases hjm:j=m
    ·subst hjm;rw [if_pos rfl,hej];rfl
    ·rw [if_neg hjm]
   have hmb2:=List.ext_getElem? hmb
   refine ⟨_,_,setB_same (zL hw2),?_,?_,?_⟩
   ·simp only [putM,hi]
    rw [List.map_set,←h2]
    refine List.ext_getElem? fun m=>?_
    simp only [List.getElem?_map,Array.getElem?_toList,Array.getElem?_modify,List.getElem?_set,List.length_map,Array.length_toList]
    by_cases hjm:j=m
    ·subst hjm
     simp [hjl,hkey]
    ·simp [hjm]
   ·rw [hmb2];exact h3
   ·intro e he
    have h6:e.born∈(es.modify j fun e=>{ e with val:=v }).toList.map (·.born):=List.mem_map.2 ⟨e,he,rfl⟩
    rw [hmb2] at h6
    obtain ⟨e',he',hb'⟩:=List.mem_map.1 h6
    rw [←hb']
    exact h4 e' he'
theorem run_updateH (hK:KeysOk P kt kv) (hT:P.underlying T=some (.map kt et)) {w:World} {b:Nat} (x:α) (v:Value) (hb:w.heap[b]?=some (.map #[] 0)) :
 (Instr.mapUpdate T (.map (some b)) (kv x) v).run P w = .ok () (setB w b (.map #[⟨kv x,v,0⟩] 1))∧MapH kv b [(x,v)] (setB w b (.map #[⟨kv x,v,0⟩] 1)):=by
 have hf:=hK.find x [] [] w rfl
 constructor
 ·simp only [Instr.mapUpdate,Sem.run_bind,run_underlying hT w,Result.andThen_ok,run_getMap hb,hK.chk]
  rw [hf]
  simp only [List.findIdx?_nil,Option.bind_none,Result.andThen_ok,run_setMap hb]
  rfl
 ·exact ⟨_,_,setB_same (zL hb),rfl,by simp,by simp⟩
end
structure Ky where
 s0:St
 s1:St
 v:Vd
 b0:Bool
 b1:Bool
 full:Bool
 hd:ByteArray
instance:DecidableEq Ky:=fun a b=>decidable_of_iff (a.s0=b.s0∧a.s1=b.s1∧a.v=b.v∧a.b0=b.b0∧a.b1=b.b1∧a.full=b.full∧a.hd=b.hd) (by cases a;cases b;simp)
def Ky.arr (x:Ky):Array Value:=#[.int .i64 x.s0.r,.int .u64 x.s0.c,.string x.s0.t,.int .i64 x.s0.ph,.int .i64 x.s0.p.k,.int .i64 x.s0.p.f,.int .u64 x.s0.p.c,.string x.s0.p.t,.bool x.s0.p.b,.int .i64 x.s1.r,.int .u64 x.s1.c,.string x.s1.t,.int .i64 x.s1.ph,.int .i64 x.s1.p.k,.int .i64 x.s1.p.f,.int .u64 x.s1.p.c,.string x.s1.p.t,.bool x.s1.p.b,.int .u64 x.v.c,.int .i64 x.v.k,.string x.v.t,.bool x.b0,.bool x.b1,.bool x.full,.string x.hd]
def kyV (x:Ky):Value:=.agg x.arr
def keyK (x:Ex):Ky:=⟨x.s0,x.s1,x.v,x.b0,x.b1,x.full,heardS x.h⟩
theorem keyK_arr (x:Ex):(keyK x).arr=keyArr x:=rfl
theorem SameP.key {x y:Ex} (h:SameP x y):keyK x=keyK y:=by
 unfold keyK
 rw [h.s0,h.s1,h.v,h.b0,h.b1,h.full,heardS_perm h.h]
theorem chk_ky (x:Ky) (e:Bool) (w:World):(Instr.checkKey e 10000 107 (kyV x)).run Tryz.prog w = .ok () w:=by
 cases e<;>kernel_rfl
theorem bits_ky (x:Ky):Instr.sameBits 10000 (kyV x) (kyV x)=true:=by
 simp [kyV,Ky.arr,Instr.sameBits]
 try simp [beq_toListBytes]
theorem ite_and {α:Type} [DecidableEq α] {a b:α} {X:Result Bool} {Y:Bool} {w:World} (h:X = .ok Y w):(if a=b then X else .ok false w) = .ok (decide (b=a) && Y) w:=by
 by_cases hab:a=b
 ·subst hab;simp [h]
 ·rw [if_neg hab,decide_eq_false (fun e=>hab e.symm)];rfl
theorem eq_ky (x y:Ky) (w:World):(Op.equal 107 (kyV x) (kyV y)).run Tryz.prog w = .ok (decide (y=x)) w:=by
 obtain ⟨⟨ar,ac,at',aph,⟨apk,apf,apc,apt,apb⟩⟩,⟨br,bc,bt,bph,⟨bpk,bpf,bpc,bpt,bpb⟩⟩,⟨vc,vk,vt⟩,b0,b1,full,hd⟩:=x
 obtain ⟨⟨ar',ac',at2,aph',⟨apk',apf',apc',apt',apb'⟩⟩,⟨br',bc',bt',bph',⟨bpk',bpf',bpc',bpt',bpb'⟩⟩,⟨vc',vk',vt'⟩,b0',b1',full',hd'⟩:=y
 obtain ⟨i26,hi26⟩:=Option.isSome_iff_exists.1 (show (Tryz.prog.info? 26).isSome=true by kernel_rfl)
 obtain ⟨i4,hi4⟩:=Option.isSome_iff_exists.1 (show (Tryz.prog.info? 4).isSome=true by kernel_rfl)
 have hA : ∀ xs ys w,(Op.equalIn 9999 27 (.agg xs) (.agg ys)).run Tryz.prog w=(Op.eqItems 9998 26 9 xs ys [0,1]).run Tryz.prog w:=fun xs ys w=>by
  rw [run_equalIn_array w 9998 xs ys zu27 hi26,show Tryz.prog.cellsOf 26=9 by kernel_rfl]
  rfl
 have hB : ∀ xs ys w,(Op.equalIn 9999 30 (.agg xs) (.agg ys)).run Tryz.prog w=(Op.eqItems 9998 4 1 xs ys [0,1]).run Tryz.prog w:=fun xs ys w=>by
  rw [run_equalIn_array w 9998 xs ys zu30 hi4,show Tryz.prog.cellsOf 4=1 by kernel_rfl]
  rfl
 unfold kyV Ky.arr Op.equal Op.maxDepth
 simp only []
 simp [go_sem,toList_beq,hA,hB,Op.eqItems]
 simp only [Bool.and_assoc]
 repeat (refine ite_and ?_)
 by_cases h:hd=hd'
 ·subst h;simp
 ·rw [if_neg h,decide_eq_false (fun e=>h e.symm)]
theorem keys_ky:KeysOk Tryz.prog 107 kyV:=keys_struct zu107 eq_ky chk_ky bits_ky
end Go.Proofs.YtlnmhocehgmbbaaGreatDoor
namespace Go.Proofs.YtlnmhocehgmbbaaGreatDoor
structure RngX (x:Ex):Prop where
 c:U64 x.c
 s0:U64 x.s0.c
 s1:U64 x.s1.c
 v:U64 x.v.c
 h : ∀ l∈x.h,U64 l.c
theorem o_c (s:St) (e:Ev):(stepS s e).1.c=s.c∧∀ o∈(stepS s e).2,o.l.c=s.c:=by
 have:=edge_o s e
 generalize stepS s e=r at this ⊢
 cases this<;>simp [prS,sgS,abS,rsS]
theorem a_c (s:St) (e:Ev):(stepA s e).1.c=s.c∧∀ o∈(stepA s e).2,o.l.c=s.c:=by
 have:=edge_a s e
 generalize stepA s e=r at this ⊢
 cases this<;>simp [prS,sgS,rsA]
theorem hear_rng {h:List Lt} (hh : ∀ l∈h,U64 l.c) {b:Bool} {l:Lt} (hl:U64 l.c) : ∀ z∈hearS h b l,U64 z.c:=by
 unfold hearS
 split
 ·exact hh
 ·intro z hz
  rcases List.mem_append.1 hz with hz|hz
  ·exact hh z hz
  ·rw [List.mem_singleton.1 hz];exact hl
theorem hears_rng : ∀ (ls:List Lt) {h:List Lt} (_ : ∀ l∈h,U64 l.c) {b:Bool} (_ : ∀ l∈ls,U64 l.c),∀ z∈hearsS h b ls,U64 z.c
 | [],_,hh,_,_=>hh
 | l::ls,_,hh,b,hl=>by
  show ∀ z∈hearsS (hearS _ b l) b ls,U64 z.c
  exact hears_rng ls (hear_rng hh (hl l (.head _))) fun z hz=>hl z (.tail _ hz)
theorem says_c {v:Vd} {l:Lt} (h:saysS v=some l):l.c=v.c:=by
 unfold saysS at h
 split at h
 ·cases h;rfl
 ·split at h
  ·cases h;rfl
  ·cases h
theorem RngX.step {x:Ex} (h:RngX x) (m:Mv):RngX (stepX x m).1:=by
 unfold stepX
 split
 ·split
  ·show RngX (askX x m)
   unfold askX
   split
   ·have hv:U64 (askV x m.l).c:=by
     unfold askV
     split
     ·split<;>exact h.c
     ·exact h.v
    refine ⟨h.c,h.s0,h.s1,hv,hear_rng h.h ?_⟩
    unfold tellS
    cases hs:saysS (askV x m.l) with
    | none=>exact h.c
    | some l=>rw [Option.getD_some,says_c hs];exact hv
   ·exact h
  ·exact h
 split
 ·exact ⟨h.c,h.s0,h.s1,h.v,h.h⟩
 split
 ·split
  ·show RngX (if m.who=0 then { x with b0:=true } else { x with b1:=true })
   split<;>exact ⟨h.c,h.s0,h.s1,h.v,h.h⟩
  split
  ·split
   ·exact h
   ·show RngX (partyX x m)
    unfold partyX
    split
    ·have ho:=o_c x.s0 (evX x m)
     refine ⟨h.c,?_,h.s1,h.v,hears_rng _ h.h fun l hl=>?_⟩
     ·show U64 (stepS x.s0 (evX x m)).1.c
      rw [ho.1];exact h.s0
     ·obtain ⟨o,ho',rfl⟩:=List.mem_map.1 hl
      rw [ho.2 o ho'];exact h.s0
    ·have ho:=a_c x.s1 (evX x m)
     refine ⟨h.c,h.s0,?_,h.v,hears_rng _ h.h fun l hl=>?_⟩
     ·show U64 (stepA x.s1 (evX x m)).1.c
      rw [ho.1];exact h.s1
     ·obtain ⟨o,ho',rfl⟩:=List.mem_map.1 hl
      rw [ho.2 o ho'];exact h.s1
  ·exact h
 ·exact h
theorem rng_new {c:Int} (h:U64 c):RngX (newX c):=⟨h,h,h,⟨Int.le_refl _,(by decide:(0:Int)<18446744073709551616)⟩,fun l hl=>by cases hl⟩
structure Fd where
 x:Ex
 p:Int
 m:Mv
def m0:Mv:=⟨0,0,{ data:=#[] },l0,false⟩
def inG (most:Nat) (stop:Ex→Bool) (x:Ex) (at':Nat):List Mv→List Fd→List Fd×Option (Int×Bool)
 | [],L=>(L,none)
 | m::ms,L=>if (stepX x m).2=false then inG most stop x at' ms L else if L.any (fun f=>sameX f.x (stepX x m).1)=true then inG most stop x at' ms L
  else if L.length=most then (L,some (-1,false)) else if stop (stepX x m).1=true then (L++[⟨(stepX x m).1,at',m⟩],some ((L.length:Int),true)) else inG most stop x at' ms (L++[⟨(stepX x m).1,at',m⟩])
def outG (most:Nat) (stop:Ex→Bool) (mv:Ex→List Mv):Nat→Nat→List Fd→List Fd×Int×Bool
 | 0,_,L=>(L,-1,true)
 | f+1,k,L=>match L[k]? with
  | none=>(L,-1,true)
  | some d=>match inG most stop d.x k (mv d.x) L with
   | (L',some r)=>(L',r)
   | (L',none)=>outG most stop mv f (k+1) L'
def goG (most:Nat) (stop:Ex→Bool) (mv:Ex→List Mv) (x:Ex):List Fd×Int×Bool:=
 if stop x=true then ([⟨x,-1,m0⟩],0,true) else outG most stop mv (most+1) 0 [⟨x,-1,m0⟩]
def midG (most:Nat) (stop:Ex→Bool) (mv:Ex→List Mv) (f k:Nat) (x:Ex) (ms:List Mv) (L:List Fd):List Fd×Int×Bool:=
 match inG most stop x k ms L with
 | (L',some r)=>(L',r)
 | (L',none)=>outG most stop mv f (k+1) L'
section
variable {most:Nat} {stop:Ex→Bool} {mv:Ex→List Mv} {f k:Nat} {x:Ex} {m:Mv} {ms:List Mv} {L:List Fd} {d:Fd}
theorem out_none (h:L[k]?=none):outG most stop mv f k L=(L,-1,true):=by
 cases f with
 | zero=>rfl
 | succ f=>unfold outG;rw [h]
theorem out_some (h:L[k]?=some d):outG most stop mv (f+1) k L=midG most stop mv f k d.x (mv d.x) L:=by
 conv=>lhs;unfold outG
 rw [h]
 rfl
theorem mid_nil:midG most stop mv f k x [] L=outG most stop mv f (k+1) L:=rfl
theorem mid_no (h:(stepX x m).2=false):midG most stop mv f k x (m::ms) L=midG most stop mv f k x ms L:=by
 unfold midG
 conv=>lhs;unfold inG
 rw [if_pos h]
theorem mid_old (h:(stepX x m).2=true) (h2:L.any (fun f=>sameX f.x (stepX x m).1)=true):midG most stop mv f k x (m::ms) L=midG most stop mv f k x ms L:=by
 unfold midG
 conv=>lhs;unfold inG
 rw [if_neg (by rw [h];simp),if_pos h2]
theorem mid_full (h:(stepX x m).2=true) (h2:L.any (fun f=>sameX f.x (stepX x m).1)=false) (h3:L.length=most):midG most stop mv f k x (m::ms) L=(L,-1,false):=by
 unfold midG
 conv=>lhs;unfold inG
 rw [if_neg (by rw [h];simp),if_neg (by rw [h2];simp),if_pos h3]
theorem mid_hit (h:(stepX x m).2=true) (h2:L.any (fun f=>sameX f.x (stepX x m).1)=false) (h3 : ¬L.length=most) (h4:stop (stepX x m).1=true) :
 midG most stop mv f k x (m::ms) L=(L++[⟨(stepX x m).1,k,m⟩],(L.length:Int),true):=by
 unfold midG
 conv=>lhs;unfold inG
 rw [if_neg (by rw [h];simp),if_neg (by rw [h2];simp),if_neg h3,if_pos h4]
theorem mid_new (h:(stepX x m).2=true) (h2:L.any (fun f=>sameX f.x (stepX x m).1)=false) (h3 : ¬L.length=most) (h4:stop (stepX x m).1=false) :
 midG most stop mv f k x (m::ms) L=midG most stop mv f k x ms (L++[⟨(stepX x m).1,k,m⟩]):=by
 unfold midG
 conv=>lhs;unfold inG
 rw [if_neg (by rw [h];simp),if_neg (by rw [h2];simp),if_neg h3,if_neg (by rw [h4];simp)]
end
def never:Ex→Bool:=fun _=>false
theorem in_never (most:Nat) (x:Ex) (k:Nat) : ∀ (ms:List Mv) (L:List Fd),(inG most never x k ms L).1.map (·.x)=(innerX most x ms (L.map (·.x))).1∧
 (inG most never x k ms L).2=(if (innerX most x ms (L.map (·.x))).2=true then none else some (-1,false))
 | [],L=>by simp [inG,innerX]
 | m::ms,L=>by
  have ih:=fun L=>in_never most x k ms L
  have ha:(L.map (·.x)).any (fun z=>sameX z (stepX x m).1)=L.any (fun f=>sameX f.x (stepX x m).1):=by rw [List.any_map];rfl
  unfold inG innerX
  rw [ha,List.length_map]
  by_cases h1:(stepX x m).2=false
  ·rw [if_pos h1,if_pos h1];exact ih L
  rw [if_neg h1,if_neg h1]
  by_cases h2:L.any (fun f=>sameX f.x (stepX x m).1)=true
  ·rw [if_pos h2,if_pos h2];exact ih L
  rw [if_neg h2,if_neg h2]
  by_cases h3:L.length=most
  ·rw [if_pos h3,if_pos h3];simp
  rw [if_neg h3,if_neg h3,if_neg (by simp [never])]
  have:=ih (L++[⟨(stepX x m).1,k,m⟩])
  simpa using this
theorem out_never (most:Nat) (mv:Ex→List Mv) : ∀ (f k:Nat) (L:List Fd),(outG most never mv f k L).1.map (·.x)=(outerX most mv f k (L.map (·.x))).1∧(outG most never mv f k L).2=(-1,(outerX most mv f k (L.map (·.x))).2)
 | 0,k,L=>⟨rfl,rfl⟩
 | f+1,k,L=>by
  unfold outG outerX
  rw [List.getElem?_map]
  cases hk:L[k]? with
  | none=>exact ⟨rfl,rfl⟩
  | some d=>
   simp only [Option.map_some]
   have hi:=in_never most d.x k (mv d.x) L
   cases hr:inG most never d.x k (mv d.x) L with
   | mk L' r=>
    rw [hr] at hi
    simp only at hi
    by_cases hd:(innerX most d.x (mv d.x) (L.map (·.x))).2=true
    ·rw [if_pos hd] at hi
     rw [if_neg (by rw [hd];simp),hi.2]
     have:=out_never most mv f (k+1) L'
     rw [hi.1] at this
     exact this
    ·rw [if_neg hd] at hi
     rw [if_pos (by simpa using hd),hi.2]
     exact ⟨hi.1,by simp at hd;rw [hd]⟩
theorem go_never (most:Nat) (mv:Ex→List Mv) (x:Ex):(goG most never mv x).1.map (·.x)=(allX most mv x).1∧(goG most never mv x).2=(-1,(allX most mv x).2):=by
 unfold goG allX
 rw [if_neg (by simp [never])]
 exact out_never most mv (most+1) 0 [⟨x,-1,m0⟩]
end Go.Proofs.YtlnmhocehgmbbaaGreatDoor
namespace Go.Proofs.YtlnmhocehgmbbaaGreatDoor
open Go.RowKit
attribute [local go_sem ↓] eql_lEq eql_sEq eql_eEq eql_oEq neq_lEq neq_sEq neq_eEq neq_oEq eql_vEq neq_vEq eql_nil
attribute [local go_sem] ExtOf.cell ExtOf.frozen ExtOf.lt ExtOf.le
attribute [local go_sem high] ExtOf.cell2 ExtOf.frozen2 ExtOf.lt2 ExtOf.cell3 ExtOf.frozen3 ExtOf.lt3
def fvC (p:Fd×Value):List Value:=(p.1.x.arr p.2).toList++(.int .i64 p.1.p::p.1.m.cs)
theorem fvC_len (p:Fd×Value):(fvC p).length=36:=rfl
def FRow (w:World) (B:Nat) (L:List (Fd×Value)) (lv:Value):Prop:=w.ownsRow B 88 36 lv L.length (L.flatMap fvC)
theorem FRow.ext {w w':World} {B:Nat} {L:List (Fd×Value)} {lv:Value} (h:FRow w B L lv) (e:Ext w w'):FRow w' B L lv:=own_ext h e
def FH (w:World) (p:Fd×Value):Prop:=∃ B,Own w B p.1.x.h p.2
theorem frow_x {w:World} {B:Nat} {L:List (Fd×Value)} {lv:Value} {i:Nat} {p:Fd×Value} (h:FRow w B L lv) (hp:L[i]?=some p) :
 ∃ g cap,lv = .slice (some ⟨g,0,none⟩) L.length cap∧B≤g∧g<w.heap.size∧L.length≤maxLen∧w.rangeAt g (i*36) (p.1.x.arr p.2).toList:=by
 have hi:=zM hp
 obtain ⟨_,⟨_,h0⟩|⟨g,cap,cur,hv,hb,hg,hn,hm,hs,hx⟩⟩:=h
 ·omega
 refine ⟨g,cap,hv,hb,(zL hg),by omega,fun j v hj=>?_⟩
 have hjl:j<26:=by
  have:=zM hj
  exact this
 have h2:=flat_get fvC 36 fvC_len L i p hp j (by omega)
 have h3:(fvC p)[j]?=some v:=by
  unfold fvC
  rw [List.getElem?_append_left (by exact hjl)]
  exact hj
 rw [h3,←hx,List.getElem?_take_of_lt (by omega)] at h2
 rw [cell_of_row w g _ cur _ (0,0) hg]
 simpa using h2
theorem quiet_load_midA {P:Program} {W:World} {a:Act} {o:Oper} {K:Act→Prop} (ty:TypeId) (x:Operand) (ho:o.op = .load ty x)
 (b f:Nat) (hx:a.eval x = .pointer (some ⟨b,f,none⟩)) (cs:Array Value) (d:TypeDesc) (hc:W.rangeAt b f cs.toList)
 (hu:P.underlying ty=some d) (hd:d.isRow=true) (hi:(P.info? ty).map (·.size)=some cs.size)
 (h:K (a.put o.dst (.agg cs))):o.quiet P a (fun w''=>∃ x:ExtOf W,w''=x.val) K:=
 quiet_load_mid ty x ho b f hx cs.toList d hc hu hd (by rw [Array.length_toList];exact hi) (by simpa using h)
theorem quiet_load_rowX {P:Program} {W:World} {a:Act} {o:Oper} {K:Act→Prop} (ty:TypeId) (x:Operand) (ho:o.op = .load ty x)
 (g:Nat) (hx:a.eval x = .pointer (some ⟨g,0,none⟩)) (t:TypeId) (cs:Array Value) (fr:Nat×Nat) (d:TypeDesc) (hg:W.heap[g]?=some (.cells cs t fr))
 (hu:P.underlying ty=some d) (hd:(match d with | .struct _ | .array _ _=>true|_=>false)=true) (hi:(P.info? ty).map (·.size)=some cs.size)
 (h:K (a.put o.dst (.agg cs))):o.quiet P a (fun w''=>∃ x:ExtOf W,w''=x.val) K:=by
 refine ⟨_,?_,h⟩
 rintro w ⟨y,rfl⟩
 unfold Oper.quietAt execOp
 simp only [ho,hx,Instr.loadAt,Instr.sureAddr,Sem.run_bind,Sem.run_pure,Result.andThen_ok,run_loadVar_row y.val g t ty cs fr d (heap_ext hg y.ext) hu hd hi]
 exact ⟨rfl,rfl⟩
theorem gc_same (L:List (Fd×Value)) (lv:Value) (B gl gy B2 i:Nat) (p:Fd×Value) (y:Ex) (vy:Value) (w:World) (hl:w.heap[gl]?=some (.cells #[lv] 83 (0,0))) (hr:FRow w B L lv) (hi:L[i]?=some p)
 (hh:FH w p) (hy:ExAt w gy y vy) (ho:Own w B2 y.h vy) (hn:y.h.length≤100000) :
 Calls Tryz.prog 54 #[.int .i64 (i:Int),.pointer (some ⟨gl,0,none⟩),.pointer (some ⟨gy,0,none⟩)] w fun e w'=>e = .returned (.bool (sameX p.1.x y))∧Ext w w':=by
 obtain ⟨g,cap,rfl,hb,hg,hm,hrg⟩:=frow_x hr hi
 have ql:=zQ hl 0
 have ll:gl<w.heap.size:=zL hl
 have hil:=zM hi
 have hi':(i:Int)<(L.length:Int):=by omega
 unfold maxLen at hm
 obtain ⟨Bp,hop⟩:=hh
 have hS:=fun w' (hw:Ext w w')=>mo_same p.1.x y p.2 vy w' B2 (Row.of_own (own_ext hop hw)) (ho.ext hw) hn
 have HS:=zd hS
 have HR:=zd hrg
 have HY:=zd hy
 clear hl hr hi hop hy ho hS hrg hb
 go_enter Tryz.func54,Tryz.ntmps54
 go_wp2_with fail
 refine wp_region_ext (by kernel_rfl) (by kernel_rfl) ?_
 repeat (go_big_quiet_step (fail))
 (go_big_quiet_want;refine quiet_load_midA 33 _ rfl g (i*36) rfl (p.1.x.arr p.2) (.struct _) HR.out zu33 rfl info_ex ?_;go_big_quiet_on;simp only [Act.put,List.setIfInBounds_toArray,List.set_cons_succ,List.set_cons_zero])
 (go_big_quiet_want;refine quiet_load_rowX 33 _ rfl _ rfl _ _ (0,0) _ HY.out zu33 rfl info_ex ?_;go_big_quiet_on;simp only [Act.put,List.setIfInBounds_toArray,List.set_cons_succ,List.set_cons_zero])
 repeat (go_big_quiet_step ((go_at_call 55;exact calls_ext (HS.out _ (ExtOf.ext _)))))
 refine wpQuiet_nil ?_
 intro _ hx'
 obtain ⟨z,rfl⟩:=hx'
 go_wp2_with fail
 go_ret
 exact ⟨rfl,z.ext⟩
def numsK (L:List (Fd×Value)) (k:Ky):List Nat:=(List.range L.length).filter fun i=>match L[i]? with|some p=>decide (keyK p.1.x=k)|none=>false
def smB (L:List (Fd×Value)) (y:Ex) (i:Nat):Bool:=match L[i]? with|some p=>sameX p.1.x y|none=>false
theorem smB_at {L:List (Fd×Value)} {y:Ex} {i:Nat} {p:Fd×Value} (h:L[i]?=some p):smB L y i=sameX p.1.x y:=by unfold smB;rw [h]
theorem idx_lt {L:List (Fd×Value)} {k:Ky} {i:Nat} (h:i∈numsK L k):i<L.length:=List.mem_range.1 (List.mem_filter.1 h).1
theorem idx_add (L:List (Fd×Value)) (p:Fd×Value) (k:Ky):numsK (L++[p]) k=if keyK p.1.x=k then numsK L k++[L.length] else numsK L k:=by
 have e:(List.range L.length).filter (fun i=>match (L++[p])[i]? with|some p=>decide (keyK p.1.x=k)|none=>false)=numsK L k:=by
  unfold numsK
  refine List.filter_congr fun i hi=>?_
  rw [List.getElem?_append_left (List.mem_range.1 hi)]
 unfold numsK at e ⊢
 rw [List.length_append,List.length_cons,List.length_nil,List.range_succ,List.filter_append,e]
 rw [List.filter_cons,List.getElem?_append_right zN,Nat.sub_self]
 by_cases h:keyK p.1.x=k
 ·simp [h]
 ·simp [h]
theorem idx_any (L:List (Fd×Value)) (y:Ex):(numsK L (keyK y)).any (smB L y)=(L.map (·.1)).any fun f=>sameX f.x y:=by
 rw [Bool.eq_iff_iff,List.any_eq_true,List.any_eq_true]
 constructor
 ·rintro ⟨i,hi,hs⟩
  have hl:=idx_lt hi
  rw [smB_at (zG hl)] at hs
  exact ⟨_,List.mem_map.2 ⟨_,List.getElem_mem hl,rfl⟩,hs⟩
 ·rintro ⟨f,hf,hs⟩
  obtain ⟨p,hp,rfl⟩:=List.mem_map.1 hf
  obtain ⟨i,hi⟩:=List.mem_iff_getElem?.1 hp
  refine ⟨i,List.mem_filter.2 ⟨List.mem_range.2 (zM hi),?_⟩,by rw [smB_at hi];exact hs⟩
  rw [hi]
  exact decide_eq_true (SameP.key (of_decide_eq_true hs))
def intsC (I:List Nat):List Value:=I.map fun i:Nat=>.int .i64 (i:Int)
theorem int_cell {w:World} {g off:Nat} {I:List Nat} {k i:Nat} (h : ∀ j u,(intsC I)[j]?=some u→w.cell? ⟨g,off+j,none⟩=some u) (hx:I[k]?=some i):w.cell? ⟨g,off+k,none⟩=some (.int .i64 (i:Int)):=
 h k _ (by unfold intsC;rw [List.getElem?_map,hx];rfl)
theorem gc_index (L:List (Fd×Value)) (lv:Value) (B gl gy B2:Nat) (I:List Nat) (iv:Value) (y:Ex) (vy:Value) (w:World) (hI:Row w 1 iv I.length (intsC I)) (hil : ∀ i∈I,i<L.length) (hl:w.heap[gl]?=some (.cells #[lv] 83 (0,0))) (hr:FRow w B L lv)
 (hh : ∀ p∈L,FH w p) (hy:ExAt w gy y vy) (ho:Own w B2 y.h vy) (hn:y.h.length≤100000) :
 Calls Tryz.prog 81 #[iv,.func (.func 54) #[] #[.pointer (some ⟨gl,0,none⟩),.pointer (some ⟨gy,0,none⟩)]] w fun e w'=>∃ n:Int,e = .returned (.int .i64 n)∧decide (0≤n)=I.any (smB L y)∧Ext w w':=by
 obtain ⟨a,cap,rfl,hm,hvw⟩:=row_view hI
 have HV:=zd hvw
 unfold maxLen at hm
 have HG:=zd fun (i:Nat) (p:Fd×Value) (hp:L[i]?=some p) (w':World) (hw:Ext w w')=>gc_same L lv B gl gy B2 i p y vy w' (heap_ext hl hw) (hr.ext hw) hp (by obtain ⟨Bp,h⟩:=hh p (zE hp);exact ⟨Bp,own_ext h hw⟩) (hy.ext hw) (ho.ext hw) hn
 have HIL:=zd hil
 clear hvw hI hil hl hr hh hy ho
 go_enter Tryz.func81,Tryz.ntmps81
 go_wp2_with fail
 go_loopg [8] I.length (fun g ii wr=>∃ (n:Nat) (z:ExtOf w),ii = .int .i64 (n:Int)∧n+g=I.length∧wr=z.val∧Hid ((I.take n).any (smB L y)=false))
 case atStart=>exact ⟨0,⟨w,zR⟩,rfl,by omega,rfl,zd rfl⟩
 case round=>
  obtain ⟨n,z,rfl,hg,rfl,HN⟩:=hrel
  by_cases hlt:n<I.length
  ·obtain ⟨g,off,rfl,hgl,hcell⟩:=HV.out (by omega)
   have hgl:=hgl (by omega)
   obtain ⟨i,hi⟩ : ∃ i,I[n]?=some i:=⟨_,zG hlt⟩
   have q0:=int_cell hcell hi
   have hiL:=HIL.out i (zE hi)
   obtain ⟨p,hp⟩ : ∃ p,L[i]?=some p:=⟨_,zG hiL⟩
   have hC:=HG.out i p hp
   have hsm:=smB_at (y:=y) hp
   have htk:(I.take (n+1)).any (smB L y)=((I.take n).any (smB L y) || smB L y i):=by rw [List.take_add_one,hi];simp
   rw [HN.out,hsm,Bool.false_or] at htk
   have HTK:=zd htk
   have HI:=zd hi
   clear hcell hi hiL hp hsm htk
   have hlt':(n:Int)<(I.length:Int):=by omega
   rcases hs:sameX p.1.x y
   ·simp only [hs] at hC
    have HC:=zd hC
    have HS:=zd hs
    clear hC hs
    go_wp2_with (go_at_call 54;refine (HC.out _ z.ext).mono ?_;rintro e w5 ⟨rfl,hx⟩;have HX5:=zd (z.ext.trans hx);clear hx)
    go_roundg (gk - 1)
    case rel=>exact ⟨n+1,⟨w5,HX5.out⟩,rfl,by omega,rfl,zd (HTK.out.trans HS.out)⟩
    case measure=>omega
   ·simp only [hs] at hC
    have HC:=zd hC
    have HS:=zd hs
    clear hC hs
    go_wp2_with (go_at_call 54;refine (HC.out _ z.ext).mono ?_;rintro e w5 ⟨rfl,hx⟩;have HX5:=zd (z.ext.trans hx);clear hx)
    go_ret
    refine ⟨n,rfl,?_,HX5.out⟩
    have h1:=HTK.out.trans HS.out
    obtain ⟨j,hj,hjs⟩:=List.any_eq_true.1 h1
    rw [List.any_eq_true.2 ⟨j,List.mem_of_mem_take hj,hjs⟩]
    simp
  ·have hge:(I.length:Int)≤(n:Int):=by omega
   go_wp2_with fail
   go_ret
   refine ⟨-1,rfl,?_,z.ext⟩
   have h1:=HN.out
   rw [List.take_of_length_le (by omega)] at h1
   rw [h1]
   rfl
theorem gc_has (L:List (Fd×Value)) (lv:Value) (B gl gy B2:Nat) (I:List Nat) (iv:Value) (y:Ex) (vy:Value) (w:World) (hI:Row w 1 iv I.length (intsC I)) (hil : ∀ i∈I,i<L.length) (hl:w.heap[gl]?=some (.cells #[lv] 83 (0,0))) (hr:FRow w B L lv)
 (hh : ∀ p∈L,FH w p) (hy:ExAt w gy y vy) (ho:Own w B2 y.h vy) (hn:y.h.length≤100000) :
 Calls Tryz.prog 53 #[iv,.func (.func 54) #[] #[.pointer (some ⟨gl,0,none⟩),.pointer (some ⟨gy,0,none⟩)]] w fun e w'=>e = .returned (.bool (I.any (smB L y)))∧Ext w w':=by
 have hC:=gc_index L lv B gl gy B2 I iv y vy w hI hil hl hr hh hy ho hn
 have HC:=zd hC
 clear hC hI hil hl hr hh hy ho
 go_enter Tryz.func53,Tryz.ntmps53
 go_wp2_with (go_at_call 81;refine HC.out.mono ?_;rintro e w5 ⟨n,rfl,hn5,hx⟩;have HN:=zd hn5;have HX5:=zd hx;clear hn5 hx)
 go_ret
 exact ⟨by rw [←HN.out];rfl,HX5.out⟩
end Go.Proofs.YtlnmhocehgmbbaaGreatDoor

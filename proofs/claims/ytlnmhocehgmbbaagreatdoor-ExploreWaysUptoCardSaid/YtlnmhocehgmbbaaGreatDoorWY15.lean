/- No condition. -/
import Derived.Test.YtlnmhocehgmbbaaGreatDoorWY4
import Derived.Test.YtlnmhocehgmbbaaGreatDoorWY10
import Derived.Test.YtlnmhocehgmbbaaGreatDoorWY14
import Derived.Deep.RegionLaw
import Derived.Deep.MidRow
set_option linter.all false
set_option maxRecDepth 100000
set_option maxHeartbeats 6400000
namespace Go.Proofs.YtlnmhocehgmbbaaGreatDoor
open Go.RowKit
attribute [local go_sem ↓] eql_lEq eql_sEq eql_eEq eql_oEq neq_lEq neq_sEq neq_eEq neq_oEq eql_vEq neq_vEq eql_nil
attribute [local go_sem] ExtOf.cell ExtOf.frozen ExtOf.lt ExtOf.le
attribute [local go_sem high] ExtOf.cell2 ExtOf.frozen2 ExtOf.lt2 ExtOf.cell3 ExtOf.frozen3 ExtOf.lt3
theorem zero_all {z:Array Value} {n:Nat} {p:Value→Prop} (hz:0<z.size) (h : ∀ u∈z.toList,p u) : ∀ u∈(Builtin.zeroCells z n).toList,p u:=fun u hu=>by
 simp only [Builtin.zeroCells,Array.toList_map,List.mem_map] at hu
 obtain ⟨i,_,rfl⟩:=hu
 have hi:i % z.size<z.size:=Nat.mod_lt _ hz
 rw [getElem!_pos z _ hi]
 exact h _ (by simp)
theorem run_clear_row {P:Program} (w:World) (t e ty:TypeId) (z:Value) (size:Nat) (ht:P.underlying t=some (.slice e)) (hv : ∀ w,(zeroValue e).run P w = .ok z w) (hz:z.cells.size=size) (hs:0<size) (h1 : ∀ u∈z.cells.toList,u.oneCell'=true)
 (g o n c:Nat) (cur:Array Value) (fr:TypeId) (hg:w.heap[g]?=some (.cells cur fr (0,0))) (hn:0<n) (hfit:o+n*size≤cur.size) :
 (Builtin.clear_ #[t] ty #[.slice (some ⟨g,o,none⟩) n c]).run P w = .ok (.tuple #[]) (w.setRow g (cur.toList.take o++(Builtin.zeroCells z.cells n).toList++cur.toList.drop (o+n*size)).toArray):=by
 have hl:(Builtin.zeroCells z.cells n).toList.length=n*size:=by rw [Array.length_toList,size_zeroCells,hz]
 have hst:=run_storeCells_at P g o fr (Builtin.zeroCells z.cells n).toList 0 cur w hg (by rw [hl];simpa using hfit) (zero_all (by omega) h1)
 simp only [Nat.add_zero,hl] at hst
 obtain ⟨m,rfl⟩ : ∃ m,n=m+1:=⟨n - 1,by omega⟩
 simp [Builtin.clear_,run_underlying ht,hv,hst]
theorem step_append_row {P:Program} {ops:Array Oper} {o:Oper} {a:Act} {w:World} {K:Act→World→Prop} {Q:Exit→Act→World→Prop} {E:Prop}
 (hgd:o.guard=none) (s x:Operand) (t:TypeId) (hop:o.op=Op.call { callee:=Callee.builtin Builtin.append,args:=#[s,x],argTypes:=#[t,t] })
 (e:TypeId) (i:TypeInfo) (size:Nat) (h1:P.underlying t=some (.slice e)) (h2:P.info? e=some i) (h4:i.size=size)
 (g n cap:Nat) (cur:Array Value) (hs:a.eval s = .slice (some ⟨g,0,none⟩) n cap) (hg:w.heap[g]?=some (.cells cur e (0,0)))
 (ad:Addr) (m c:Nat) (news:List Value) (hx:a.eval x = .slice (some ad) m c) (hn:news.length=m*size) (hc : ∀ j u,news[j]?=some u→w.cell? (ad.add j)=some u) (h1c : ∀ u∈news,u.oneCell'=true)
 (hroom:n+m≤cap) (hfit:n*size+news.length≤cur.size)
 (hK:K (a.put o.dst (.slice (some ⟨g,0,none⟩) (n+m) cap)) (w.setRow g (cur.toList.take (n*size)++news++cur.toList.drop (n*size+news.length)).toArray)) :
 if Region.wanted o (yielded ops a.tmps)=true then Oper.wp P o a w K Q else E:=by
 have hw:Region.wanted o (yielded ops a.tmps)=true:=by simp [Region.wanted,hgd]
 rw [if_pos hw]
 subst h4
 have hrun:=run_append_room (P:=P) w t o.type e i h1 h2 g n cap cur hg ad m c news hn hc h1c hroom hfit
 unfold Oper.wp
 simp [execOp,hop,resolve,invoke,builtin,hs,hx,hrun,Result.andThen]
 simp only [List.append_assoc] at hK
 exact hK
theorem erase_eq {α:Type} (L:List α) (i:Nat):L.eraseIdx i=L.take i++L.drop (i+1):=List.eraseIdx_eq_take_drop_succ L i
theorem flat_take (f:Lt→List Value) (k:Nat) (hf : ∀ x,(f x).length=k) : ∀ (L:List Lt) (i:Nat),(L.flatMap f).take (i*k)=(L.take i).flatMap f
 | [],i=>by simp
 | x::L,0=>by simp
 | x::L,i+1=>by
  rw [List.flatMap_cons,List.take_succ_cons,List.flatMap_cons,Nat.add_mul,Nat.one_mul,List.take_append,hf,show i*k+k - k=i*k by omega,flat_take f k hf L i,List.take_of_length_le (by rw [hf];omega)]
theorem flat_drop (f:Lt→List Value) (k:Nat) (hf : ∀ x,(f x).length=k) : ∀ (L:List Lt) (i:Nat),(L.flatMap f).drop (i*k)=(L.drop i).flatMap f
 | [],i=>by simp
 | x::L,0=>by simp
 | x::L,i+1=>by
  rw [List.flatMap_cons,List.drop_succ_cons,Nat.add_mul,Nat.one_mul,List.drop_append,hf,show i*k+k - k=i*k by omega,flat_drop f k hf L i,List.drop_of_length_le (by rw [hf];omega),List.nil_append]
theorem lt_len5 (x:Lt):x.cs.length=5:=rfl
theorem flat_len5 (L:List Lt):(L.flatMap Lt.cs).length=L.length*5:=by
 induction L with
 | nil=>rfl
 | cons y L ih=>rw [List.flatMap_cons,List.length_append,ih,lt_len5,List.length_cons];omega
theorem sl_delete (B g cap i:Nat) (L:List Lt) (w:World) (hO:w.ownsRow B 24 5 (.slice (some ⟨g,0,none⟩) L.length cap) L.length (L.flatMap Lt.cs)) (hi:i<L.length) (hl:L.length≤100000) :
 Calls Tryz.prog 83 #[.slice (some ⟨g,0,none⟩) L.length cap,.int .i64 (i:Int),.int .i64 ((i:Int)+1)] w fun e w'=>
  e = .returned (.slice (some ⟨g,0,none⟩) (L.length - 1) cap)∧w'.ownsRow B 24 5 (.slice (some ⟨g,0,none⟩) (L.length - 1) cap) (L.length - 1) ((L.eraseIdx i).flatMap Lt.cs)∧w.grownBy w' (some g):=by
 obtain ⟨i0,hi0,hz0,hz1,hz2⟩:=info_parts info_letter
 rcases hO.2 with ⟨hv,_⟩|⟨g',cap',cur,hv,hb,hg,hn,hm,hs,hx⟩
 ·cases hv
 cases hv
 have hcs:L.length*5≤cur.size:=by omega
 obtain ⟨news,hnews⟩ : ∃ news,news=(L.drop (i+1)).flatMap Lt.cs:=⟨_,rfl⟩
 have hlen:news.length=(L.length - (i+1))*5:=by rw [hnews,flat_len5,List.length_drop]
 have hdrop:(L.flatMap Lt.cs).drop ((i+1)*5)=news:=by rw [hnews,flat_drop Lt.cs 5 lt_len5]
 have hg0:w.drew.heap[g]?=some (.cells cur 24 (0,0)):=hg
 obtain ⟨A,hA,hsrc⟩ : ∃ A:Addr,(if cap=i+1 then some (⟨g,0,none⟩:Addr) else some ⟨g,(i+1)*5,none⟩)=some A∧Hid (∀ t u,news[t]?=some u→w.drew.cell? (A.add t)=some u):=by
  by_cases h:cap=i+1
  ·refine ⟨⟨g,0,none⟩,by simp [h],fun t u hu=>?_⟩
   have h0:news.length=0:=by rw [hlen];omega
   rw [List.length_eq_zero_iff.1 h0] at hu
   simp at hu
  ·refine ⟨⟨g,(i+1)*5,none⟩,by simp [h],fun t u hu=>?_⟩
   rw [Addr.add_lit,cell_of_row w.drew g _ cur _ (0,0) hg0]
   have h2:(i+1)*5+t<L.length*5:=by
    have:=zM hu
    omega
   rw [←hdrop,List.getElem?_drop,←hx,List.getElem?_take_of_lt h2] at hu
   simpa using hu
 have s2:Hid (∀ u∈news,u.oneCell'=true):=by rw [hnews];exact lt_one _
 have hfit:i*5+news.length≤cur.size:=by omega
 obtain ⟨cur1,hc1⟩ : ∃ cur1:Array Value,cur1=(cur.toList.take (i*5)++news++cur.toList.drop (i*5+news.length)).toArray:=⟨_,rfl⟩
 obtain ⟨W1,hW1⟩ : ∃ W1,W1=w.drew.setRow g cur1:=⟨_,rfl⟩
 have hgW:W1.heap[g]?=some (.cells cur1 24 (0,0)):=by rw [hW1];exact setRow_heap _ g cur _ _ _ hg0
 have hsz1:cur1.size=cur.size:=by
  rw [hc1]
  simp only [List.size_toArray,List.length_append,List.length_take,List.length_drop,Array.length_toList]
  omega
 have hcl:=fun ty=>run_clear_row (P:=Tryz.prog) W1 31 24 ty _ 5 zu31 Tryz.zeroValue24 rfl (by decide) (by decide) g ((i+(L.length - (i+1)))*5) (L.length - (i+(L.length - (i+1)))) (cap - (i+(L.length - (i+1)))) cur1 _ hgW (by omega) (by rw [hsz1];omega)
 have HW:=zd hW1
 have HC:=zd hc1
 have HX:=zd hx
 have HG:=zd hg0
 have hlt:i<cap:=by omega
 have hic:i≤cap:=by omega
 have hjc:i+1≤cap:=by omega
 have hij:i+1≤L.length:=by omega
 have HL:=zd hlen
 have hp0:(0:Int)≤(i:Int)+1:=by omega
 have hp1:(i:Int)+1≤(L.length:Int):=by omega
 have HS:=zd hsz1
 have HGW:=zd hgW
 have HN:=zd hnews
 clear hW1 hc1 hx hg hg0 hgW hsz1 hnews hdrop hlen hO
 go_enter Tryz.func83,Tryz.ntmps83
 go_wp2_with fail
 go_region_law (refine step_append_row rfl (.tmp 22) (.tmp 25) 31 rfl 24 i0 5 zu31 hi0 hz1 g i cap cur (by simp [Act.eval,Act.put]) HG.out A (L.length - (i+1)) (cap - (i+1)) news (by simp [Act.eval,Act.put]) HL.out hsrc.out s2.out (by omega) hfit ?_;rw [←HC.out,←HW.out])
 go_wp2_with fail
 go_ret
 have e1:i+(L.length - (i+1))=L.length - 1:=by omega
 have e2:L.length - (i+(L.length - (i+1)))=1:=by omega
 rw [e1]
 refine ⟨rfl,⟨?_,.inr ⟨g,cap,_,rfl,hb,setRow_heap W1 g cur1 _ _ _ HGW.out,by omega,hm,?_,?_⟩⟩,?_⟩
 ·rw [flat_len5,List.length_eraseIdx_of_lt hi]
 ·have hz:=size_zeroCells (#[Value.int .i64 0,.int .i64 0,.int .u64 0,.string { data:=#[] },.bool false]) (L.length - (L.length - 1))
  rw [←Array.length_toList] at hz
  have h5:(#[Value.int .i64 0,.int .i64 0,.int .u64 0,.string { data:=#[] },.bool false]).size=5:=rfl
  rw [h5] at hz
  rw [List.size_toArray,List.length_append,List.length_append,List.length_take,List.length_drop,hz,(Array.length_toList (xs:=cur1)).trans (HS.out.trans hs)]
  omega
 ·have h1:cur1.toList=(cur.toList.take (i*5)++news)++cur.toList.drop (i*5+news.length):=by rw [HC.out]
  have h2:(L.length - 1)*5=(cur.toList.take (i*5)++news).length:=by
   have h6:=HL.out
   rw [List.length_append,List.length_take,(Array.length_toList (xs:=cur)).trans hs,h6]
   omega
  have h3:cur.toList.take (i*5)=(L.take i).flatMap Lt.cs:=by
   rw [←flat_take Lt.cs 5 lt_len5,←HX.out,List.take_take,Nat.min_eq_left (by omega)]
  have h4:cur1.toList.take ((L.length - 1)*5)=(L.eraseIdx i).flatMap Lt.cs:=by
   rw [h1,h2,List.take_left,h3,HN.out,erase_eq,List.flatMap_append]
  have h7:(cur1.toList.take ((L.length - 1)*5)).length=(L.length - 1)*5:=by
   rw [h4,flat_len5,List.length_eraseIdx_of_lt hi]
  show List.take ((L.length - 1)*5) (List.take ((L.length - 1)*5) cur1.toList++_)=_
  rw [List.take_append_of_le_length (by omega),List.take_take,Nat.min_self,h4]
 ·rw [HW.out]
  exact but_setRow (but_setRow (show w.grownBy w.drew (some g) from ⟨rfl,rfl,rfl,Nat.le_refl _,fun _ _ _=>rfl⟩) _) _
theorem sl_indexE (v:Value) (L:List Lt) (l:Lt) (w:World) (hR:Row w 5 v L.length (L.flatMap Lt.cs)) :
 Calls Tryz.prog 82 #[v,.agg #[.int .i64 l.k,.int .i64 l.f,.int .u64 l.c,.string l.t,.bool l.b]] w fun e w'=>∃ n:Int,e = .returned (.int .i64 n)∧((∃ i:Nat,n=(i:Int)∧L[i]?=some l)∨(n = -1∧l∉L))∧Ext w w':=by
 obtain ⟨a,cap,rfl,hm,hvw⟩:=row_view hR
 have HV:=zd hvw
 clear hvw hR
 unfold maxLen at hm
 go_enter Tryz.func82,Tryz.ntmps82
 go_wp2_with fail
 refine wp_forget (fun w'=>w'.heap[w.heap.size]?=some (.cells #[.int .i64 l.k,.int .i64 l.f,.int .u64 l.c,.string l.t,.bool l.b] 24 (0,0))∧Ext w w') ⟨heap_new rfl,zR.alloc _⟩ ?_
 rintro W1 ⟨h1,x1⟩
 have c1:=zQ h1
 have l1:w.heap.size<W1.heap.size:=zL h1
 have X1:=zd x1
 clear h1 x1
 go_loopg [8] L.length (fun g ii wr=>∃ (n:Nat) (y:ExtOf W1),ii = .int .i64 (n:Int)∧n+g=L.length∧wr=y.val∧Hid (∀ (j:Nat) z,j<n→L[j]?=some z→z≠l))
 case atStart=>exact ⟨0,⟨W1,zR⟩,rfl,by omega,rfl,zd fun _ _ h=>by omega⟩
 case round=>
  obtain ⟨n,y,rfl,hg,rfl,HN⟩:=hrel
  by_cases hlt:n<L.length
  ·obtain ⟨g,off,rfl,hgl,hcell⟩:=HV.out (by omega)
   have hgl:=hgl (by omega)
   obtain ⟨x,hx⟩ : ∃ x,L[n]?=some x:=⟨_,zG hlt⟩
   obtain ⟨q0,q1,q2,q3,q4⟩:=lt_cellsO (fun j u hj=>cell_keep (hcell j u hj) X1.out) hx
   have HX:=zd hx
   have hgl1:g<W1.heap.size:=zU hgl X1.out.size
   clear hx hcell hgl
   have hlt':(n:Int)<(L.length:Int):=by omega
   by_cases he:l=x
   ·have he':lEq l.k l.f l.c l.t l.b x.k x.f x.c x.t x.b=true:=by rw [lEq_lt];simpa using he
    have HE:=zd he
    clear he
    go_wp2_with fail
    refine wp_region_ext (by kernel_rfl) (by kernel_rfl) ?_
    repeat (go_big_quiet_step (fail))
    refine wpQuiet_nil ?_
    intro _ hx'
    obtain ⟨z,rfl⟩:=hx'
    go_wp2_with fail
    go_ret
    refine ⟨n,rfl,?_,X1.out.trans (y.ext.val z)⟩
    exact .inl ⟨n,rfl,by rw [HE.out];exact HX.out⟩
   ·have he':lEq l.k l.f l.c l.t l.b x.k x.f x.c x.t x.b=false:=by rw [lEq_lt];simpa using he
    have HE:=zd he
    clear he
    go_wp2_with fail
    refine wp_region_ext (by kernel_rfl) (by kernel_rfl) ?_
    repeat (go_big_quiet_step (fail))
    refine wpQuiet_nil ?_
    intro _ hx'
    obtain ⟨z,rfl⟩:=hx'
    go_wp2_with fail
    go_roundg (gk - 1)
    case rel=>
     refine ⟨n+1,⟨z.val,y.ext.val z⟩,rfl,by omega,rfl,zd fun j u hj hu=>?_⟩
     by_cases hjn:j=n
     ·subst hjn
      rw [HX.out,Option.some.injEq] at hu
      rw [←hu]
      exact fun h=>HE.out h.symm
     ·exact HN.out j u (by omega) hu
    case measure=>omega
  ·have hge:(L.length:Int)≤(n:Int):=by omega
   go_wp2_with fail
   go_ret
   refine ⟨-1,rfl,?_,X1.out.val y⟩
   exact .inr ⟨rfl,not_mem_of_all fun j z hz=>HN.out j z (by have:=(zM hz);omega) hz⟩
end Go.Proofs.YtlnmhocehgmbbaaGreatDoor
namespace Go.Proofs.YtlnmhocehgmbbaaGreatDoor
open Go.RowKit
attribute [local go_sem ↓] eql_lEq eql_sEq eql_eEq eql_oEq neq_lEq neq_sEq neq_eEq neq_oEq eql_vEq neq_vEq eql_nil neq_bEq2
attribute [local go_sem] ExtOf.cell ExtOf.frozen ExtOf.lt ExtOf.le
attribute [local go_sem high] ExtOf.cell2 ExtOf.frozen2 ExtOf.lt2 ExtOf.cell3 ExtOf.frozen3 ExtOf.lt3
theorem wpList_load_midG {P:Program} {ops:Array Oper} {rest:List Oper} {o:Oper} {a:Act} {w:World} {Q:Exit→Act→World→Prop} (ty:TypeId) (x:Operand) (ho:o.op = .load ty x)
 (b f:Nat) (hx:a.eval x = .pointer (some ⟨b,f,none⟩)) (hwt:Region.wanted o (yielded ops a.tmps)=true) (cs:List Value) (d:TypeDesc) (hc:w.rangeAt b f cs)
 (hu:P.underlying ty=some d) (hd:d.isRow=true) (hi:(P.info? ty).map (·.size)=some cs.length)
 (h:wpList P ops Q rest (a.put o.dst (.agg cs.toArray)) w):wpList P ops Q (o::rest) a w:=by
 unfold wpList
 rw [if_pos hwt]
 exact .inl (wp_load_mid ty x ho b f hx cs d hc hu hd hi h)
def Ex.sts (x:Ex):List Value:=[.int .i64 x.s0.r,.int .u64 x.s0.c,.string x.s0.t,.int .i64 x.s0.ph,.int .i64 x.s0.p.k,.int .i64 x.s0.p.f,.int .u64 x.s0.p.c,.string x.s0.p.t,.bool x.s0.p.b,
 .int .i64 x.s1.r,.int .u64 x.s1.c,.string x.s1.t,.int .i64 x.s1.ph,.int .i64 x.s1.p.k,.int .i64 x.s1.p.f,.int .u64 x.s1.p.c,.string x.s1.p.t,.bool x.s1.p.b]
theorem range_of_row {w:World} {b:Nat} {A:Array Value} {t:TypeId} (h:w.heap[b]?=some (.cells A t (0,0))) (o n:Nat) (cs:List Value) (hc:(A.toList.drop o).take n=cs):w.rangeAt b o cs:=fun j v hj=>by
 rw [zQ h _,←Array.getElem?_toList]
 subst hc
 have hj':j<n:=by
  have:=zM hj
  rw [List.length_take] at this
  omega
 rw [List.getElem?_take_of_lt hj',List.getElem?_drop] at hj
 exact hj
def stsEq (x y:Ex):Bool:=sEq2 x.s0.r x.s0.c x.s0.t x.s0.ph x.s0.p.k x.s0.p.f x.s0.p.c x.s0.p.t x.s0.p.b x.s1.r x.s1.c x.s1.t x.s1.ph x.s1.p.k x.s1.p.f x.s1.p.c x.s1.p.t x.s1.p.b y.s0.r y.s0.c y.s0.t y.s0.ph y.s0.p.k y.s0.p.f y.s0.p.c y.s0.p.t y.s0.p.b y.s1.r y.s1.c y.s1.t y.s1.ph y.s1.p.k y.s1.p.f y.s1.p.c y.s1.p.t y.s1.p.b
theorem neq_sts (x y:Ex) (w:World):(binOp .neq 27 (.agg x.sts.toArray) (.agg y.sts.toArray)).run Tryz.prog w = .ok (.bool (!(stsEq x y))) w:=neq_sEq2 x.s0.r x.s0.c x.s0.t x.s0.ph x.s0.p.k x.s0.p.f x.s0.p.c x.s0.p.t x.s0.p.b x.s1.r x.s1.c x.s1.t x.s1.ph x.s1.p.k x.s1.p.f x.s1.p.c x.s1.p.t x.s1.p.b y.s0.r y.s0.c y.s0.t y.s0.ph y.s0.p.k y.s0.p.f y.s0.p.c y.s0.p.t y.s0.p.b y.s1.r y.s1.c y.s1.t y.s1.ph y.s1.p.k y.s1.p.f y.s1.p.c y.s1.p.t y.s1.p.b w
attribute [local go_sem ↓] neq_sts
theorem info_sts:(Tryz.prog.info? 27).map (·.size)=some 18:=by kernel_rfl
theorem info_stx (x:Ex):(Tryz.prog.info? 27).map (·.size)=some x.sts.length:=info_sts
theorem same_no1 (x y:Ex) (v v':Value) (w:World) (hR:Hrd w x v) (hR':Hrd w y v')  (t1:x.c≠y.c):Calls Tryz.prog 55 #[.agg (x.arr v),.agg (y.arr v')] w fun e w'=>e = .returned (.bool false)∧Ext w w':=by
 obtain ⟨a,cap,rfl,hm,hvw⟩:=row_view hR
 obtain ⟨a',cap',rfl,hm',hvw'⟩:=row_view hR'
 clear hvw hvw' hm'
 unfold maxLen at hm
 go_enter Tryz.func55,Tryz.ntmps55
 go_upto_region 1 with fail
 refine wp_forget (fun w'=>w'.heap[w.heap.size]?=some (.cells (x.arr (.slice a x.h.length cap)) 33 (0,0))∧w'.heap[w.heap.size+1]?=some (.cells (y.arr (.slice a' y.h.length cap')) 33 (0,0))∧Ext w w') ⟨heap_ext (heap_ext (heap_new rfl) (zR.alloc _)) zR,heap_ext (heap_new (by simp)) zR,((zR.alloc _).alloc _)⟩ ?_
 rintro W1 ⟨h1,h2,x1⟩
 revert h1 h2
 generalize w.heap.size+1=g2
 generalize w.heap.size=g1
 intro h1 h2
 have r1:W1.rangeAt g1 1 x.sts:=range_of_row h1 1 18 _ rfl
 have r2:W1.rangeAt g2 1 y.sts:=range_of_row h2 1 18 _ rfl
 have R1:=zd r1
 have R2:=zd r2
 clear r1 r2
 unfold Ex.arr at h1 h2
 have c1_0:=zQ h1 0
 have c2_0:=zQ h2 0
 have c1_19:=zQ h1 19
 have c2_19:=zQ h2 19
 have c1_20:=zQ h1 20
 have c2_20:=zQ h2 20
 have c1_21:=zQ h1 21
 have c2_21:=zQ h2 21
 have c1_22:=zQ h1 22
 have c2_22:=zQ h2 22
 have c1_23:=zQ h1 23
 have c2_23:=zQ h2 23
 have c1_24:=zQ h1 24
 have c2_24:=zQ h2 24
 have c1_25:=zQ h1 25
 have c2_25:=zQ h2 25
 have l1:g1<W1.heap.size:=zL h1
 have l2:g2<W1.heap.size:=zL h2
 have X1:=zd x1
 clear h1 h2 x1
 go_wp2_with (first|((with_reducible refine wpList_load_midG 27 (.tmp 15) ?_ g1 1 ?_ ?_ x.sts (.array 2 26) ?_ ?_ ?_ ?_ ?_);(·rfl);(·rfl);(·kernel_rfl);(·exact R1.out);(·exact zu27);(·rfl);(·exact info_stx _))|((with_reducible refine wpList_load_midG 27 (.tmp 17) ?_ g2 1 ?_ ?_ y.sts (.array 2 26) ?_ ?_ ?_ ?_ ?_);(·rfl);(·rfl);(·kernel_rfl);(·exact R2.out);(·exact zu27);(·rfl);(·exact info_stx _)))
 go_ret
 exact ⟨rfl,X1.out⟩
theorem same_no2 (x y:Ex) (v v':Value) (w:World) (hR:Hrd w x v) (hR':Hrd w y v') (t1:x.c=y.c) (t2:stsEq x y=false):Calls Tryz.prog 55 #[.agg (x.arr v),.agg (y.arr v')] w fun e w'=>e = .returned (.bool false)∧Ext w w':=by
 obtain ⟨a,cap,rfl,hm,hvw⟩:=row_view hR
 obtain ⟨a',cap',rfl,hm',hvw'⟩:=row_view hR'
 clear hvw hvw' hm'
 unfold maxLen at hm
 go_enter Tryz.func55,Tryz.ntmps55
 go_upto_region 1 with fail
 refine wp_forget (fun w'=>w'.heap[w.heap.size]?=some (.cells (x.arr (.slice a x.h.length cap)) 33 (0,0))∧w'.heap[w.heap.size+1]?=some (.cells (y.arr (.slice a' y.h.length cap')) 33 (0,0))∧Ext w w') ⟨heap_ext (heap_ext (heap_new rfl) (zR.alloc _)) zR,heap_ext (heap_new (by simp)) zR,((zR.alloc _).alloc _)⟩ ?_
 rintro W1 ⟨h1,h2,x1⟩
 revert h1 h2
 generalize w.heap.size+1=g2
 generalize w.heap.size=g1
 intro h1 h2
 have r1:W1.rangeAt g1 1 x.sts:=range_of_row h1 1 18 _ rfl
 have r2:W1.rangeAt g2 1 y.sts:=range_of_row h2 1 18 _ rfl
 have R1:=zd r1
 have R2:=zd r2
 clear r1 r2
 unfold Ex.arr at h1 h2
 have c1_0:=zQ h1 0
 have c2_0:=zQ h2 0
 have c1_19:=zQ h1 19
 have c2_19:=zQ h2 19
 have c1_20:=zQ h1 20
 have c2_20:=zQ h2 20
 have c1_21:=zQ h1 21
 have c2_21:=zQ h2 21
 have c1_22:=zQ h1 22
 have c2_22:=zQ h2 22
 have c1_23:=zQ h1 23
 have c2_23:=zQ h2 23
 have c1_24:=zQ h1 24
 have c2_24:=zQ h2 24
 have c1_25:=zQ h1 25
 have c2_25:=zQ h2 25
 have l1:g1<W1.heap.size:=zL h1
 have l2:g2<W1.heap.size:=zL h2
 have X1:=zd x1
 clear h1 h2 x1
 go_wp2_with (first|((with_reducible refine wpList_load_midG 27 (.tmp 15) ?_ g1 1 ?_ ?_ x.sts (.array 2 26) ?_ ?_ ?_ ?_ ?_);(·rfl);(·rfl);(·kernel_rfl);(·exact R1.out);(·exact zu27);(·rfl);(·exact info_stx _))|((with_reducible refine wpList_load_midG 27 (.tmp 17) ?_ g2 1 ?_ ?_ y.sts (.array 2 26) ?_ ?_ ?_ ?_ ?_);(·rfl);(·rfl);(·kernel_rfl);(·exact R2.out);(·exact zu27);(·rfl);(·exact info_stx _)))
 go_ret
 exact ⟨rfl,X1.out⟩
theorem same_no3 (x y:Ex) (v v':Value) (w:World) (hR:Hrd w x v) (hR':Hrd w y v') (t1:x.c=y.c) (t2:stsEq x y=true) (t3:vEq x.v.c x.v.k x.v.t y.v.c y.v.k y.v.t=false):Calls Tryz.prog 55 #[.agg (x.arr v),.agg (y.arr v')] w fun e w'=>e = .returned (.bool false)∧Ext w w':=by
 obtain ⟨a,cap,rfl,hm,hvw⟩:=row_view hR
 obtain ⟨a',cap',rfl,hm',hvw'⟩:=row_view hR'
 clear hvw hvw' hm'
 unfold maxLen at hm
 go_enter Tryz.func55,Tryz.ntmps55
 go_upto_region 1 with fail
 refine wp_forget (fun w'=>w'.heap[w.heap.size]?=some (.cells (x.arr (.slice a x.h.length cap)) 33 (0,0))∧w'.heap[w.heap.size+1]?=some (.cells (y.arr (.slice a' y.h.length cap')) 33 (0,0))∧Ext w w') ⟨heap_ext (heap_ext (heap_new rfl) (zR.alloc _)) zR,heap_ext (heap_new (by simp)) zR,((zR.alloc _).alloc _)⟩ ?_
 rintro W1 ⟨h1,h2,x1⟩
 revert h1 h2
 generalize w.heap.size+1=g2
 generalize w.heap.size=g1
 intro h1 h2
 have r1:W1.rangeAt g1 1 x.sts:=range_of_row h1 1 18 _ rfl
 have r2:W1.rangeAt g2 1 y.sts:=range_of_row h2 1 18 _ rfl
 have R1:=zd r1
 have R2:=zd r2
 clear r1 r2
 unfold Ex.arr at h1 h2
 have c1_0:=zQ h1 0
 have c2_0:=zQ h2 0
 have c1_19:=zQ h1 19
 have c2_19:=zQ h2 19
 have c1_20:=zQ h1 20
 have c2_20:=zQ h2 20
 have c1_21:=zQ h1 21
 have c2_21:=zQ h2 21
 have c1_22:=zQ h1 22
 have c2_22:=zQ h2 22
 have c1_23:=zQ h1 23
 have c2_23:=zQ h2 23
 have c1_24:=zQ h1 24
 have c2_24:=zQ h2 24
 have c1_25:=zQ h1 25
 have c2_25:=zQ h2 25
 have l1:g1<W1.heap.size:=zL h1
 have l2:g2<W1.heap.size:=zL h2
 have X1:=zd x1
 clear h1 h2 x1
 go_wp2_with (first|((with_reducible refine wpList_load_midG 27 (.tmp 15) ?_ g1 1 ?_ ?_ x.sts (.array 2 26) ?_ ?_ ?_ ?_ ?_);(·rfl);(·rfl);(·kernel_rfl);(·exact R1.out);(·exact zu27);(·rfl);(·exact info_stx _))|((with_reducible refine wpList_load_midG 27 (.tmp 17) ?_ g2 1 ?_ ?_ y.sts (.array 2 26) ?_ ?_ ?_ ?_ ?_);(·rfl);(·rfl);(·kernel_rfl);(·exact R2.out);(·exact zu27);(·rfl);(·exact info_stx _)))
 go_ret
 exact ⟨rfl,X1.out⟩
theorem same_no4 (x y:Ex) (v v':Value) (w:World) (hR:Hrd w x v) (hR':Hrd w y v') (t1:x.c=y.c) (t2:stsEq x y=true) (t3:vEq x.v.c x.v.k x.v.t y.v.c y.v.k y.v.t=true) (t4:bEq2 x.b0 x.b1 y.b0 y.b1=false):Calls Tryz.prog 55 #[.agg (x.arr v),.agg (y.arr v')] w fun e w'=>e = .returned (.bool false)∧Ext w w':=by
 obtain ⟨a,cap,rfl,hm,hvw⟩:=row_view hR
 obtain ⟨a',cap',rfl,hm',hvw'⟩:=row_view hR'
 clear hvw hvw' hm'
 unfold maxLen at hm
 go_enter Tryz.func55,Tryz.ntmps55
 go_upto_region 1 with fail
 refine wp_forget (fun w'=>w'.heap[w.heap.size]?=some (.cells (x.arr (.slice a x.h.length cap)) 33 (0,0))∧w'.heap[w.heap.size+1]?=some (.cells (y.arr (.slice a' y.h.length cap')) 33 (0,0))∧Ext w w') ⟨heap_ext (heap_ext (heap_new rfl) (zR.alloc _)) zR,heap_ext (heap_new (by simp)) zR,((zR.alloc _).alloc _)⟩ ?_
 rintro W1 ⟨h1,h2,x1⟩
 revert h1 h2
 generalize w.heap.size+1=g2
 generalize w.heap.size=g1
 intro h1 h2
 have r1:W1.rangeAt g1 1 x.sts:=range_of_row h1 1 18 _ rfl
 have r2:W1.rangeAt g2 1 y.sts:=range_of_row h2 1 18 _ rfl
 have R1:=zd r1
 have R2:=zd r2
 clear r1 r2
 unfold Ex.arr at h1 h2
 have c1_0:=zQ h1 0
 have c2_0:=zQ h2 0
 have c1_19:=zQ h1 19
 have c2_19:=zQ h2 19
 have c1_20:=zQ h1 20
 have c2_20:=zQ h2 20
 have c1_21:=zQ h1 21
 have c2_21:=zQ h2 21
 have c1_22:=zQ h1 22
 have c2_22:=zQ h2 22
 have c1_23:=zQ h1 23
 have c2_23:=zQ h2 23
 have c1_24:=zQ h1 24
 have c2_24:=zQ h2 24
 have c1_25:=zQ h1 25
 have c2_25:=zQ h2 25
 have l1:g1<W1.heap.size:=zL h1
 have l2:g2<W1.heap.size:=zL h2
 have X1:=zd x1
 clear h1 h2 x1
 go_wp2_with (first|((with_reducible refine wpList_load_midG 27 (.tmp 15) ?_ g1 1 ?_ ?_ x.sts (.array 2 26) ?_ ?_ ?_ ?_ ?_);(·rfl);(·rfl);(·kernel_rfl);(·exact R1.out);(·exact zu27);(·rfl);(·exact info_stx _))|((with_reducible refine wpList_load_midG 27 (.tmp 17) ?_ g2 1 ?_ ?_ y.sts (.array 2 26) ?_ ?_ ?_ ?_ ?_);(·rfl);(·rfl);(·kernel_rfl);(·exact R2.out);(·exact zu27);(·rfl);(·exact info_stx _)))
 go_ret
 exact ⟨rfl,X1.out⟩
theorem same_no5 (x y:Ex) (v v':Value) (w:World) (hR:Hrd w x v) (hR':Hrd w y v') (t1:x.c=y.c) (t2:stsEq x y=true) (t3:vEq x.v.c x.v.k x.v.t y.v.c y.v.k y.v.t=true) (t4:bEq2 x.b0 x.b1 y.b0 y.b1=true) (t5:x.full≠y.full):Calls Tryz.prog 55 #[.agg (x.arr v),.agg (y.arr v')] w fun e w'=>e = .returned (.bool false)∧Ext w w':=by
 obtain ⟨a,cap,rfl,hm,hvw⟩:=row_view hR
 obtain ⟨a',cap',rfl,hm',hvw'⟩:=row_view hR'
 clear hvw hvw' hm'
 unfold maxLen at hm
 go_enter Tryz.func55,Tryz.ntmps55
 go_upto_region 1 with fail
 refine wp_forget (fun w'=>w'.heap[w.heap.size]?=some (.cells (x.arr (.slice a x.h.length cap)) 33 (0,0))∧w'.heap[w.heap.size+1]?=some (.cells (y.arr (.slice a' y.h.length cap')) 33 (0,0))∧Ext w w') ⟨heap_ext (heap_ext (heap_new rfl) (zR.alloc _)) zR,heap_ext (heap_new (by simp)) zR,((zR.alloc _).alloc _)⟩ ?_
 rintro W1 ⟨h1,h2,x1⟩
 revert h1 h2
 generalize w.heap.size+1=g2
 generalize w.heap.size=g1
 intro h1 h2
 have r1:W1.rangeAt g1 1 x.sts:=range_of_row h1 1 18 _ rfl
 have r2:W1.rangeAt g2 1 y.sts:=range_of_row h2 1 18 _ rfl
 have R1:=zd r1
 have R2:=zd r2
 clear r1 r2
 unfold Ex.arr at h1 h2
 have c1_0:=zQ h1 0
 have c2_0:=zQ h2 0
 have c1_19:=zQ h1 19
 have c2_19:=zQ h2 19
 have c1_20:=zQ h1 20
 have c2_20:=zQ h2 20
 have c1_21:=zQ h1 21
 have c2_21:=zQ h2 21
 have c1_22:=zQ h1 22
 have c2_22:=zQ h2 22
 have c1_23:=zQ h1 23
 have c2_23:=zQ h2 23
 have c1_24:=zQ h1 24
 have c2_24:=zQ h2 24
 have c1_25:=zQ h1 25
 have c2_25:=zQ h2 25
 have l1:g1<W1.heap.size:=zL h1
 have l2:g2<W1.heap.size:=zL h2
 have X1:=zd x1
 clear h1 h2 x1
 go_wp2_with (first|((with_reducible refine wpList_load_midG 27 (.tmp 15) ?_ g1 1 ?_ ?_ x.sts (.array 2 26) ?_ ?_ ?_ ?_ ?_);(·rfl);(·rfl);(·kernel_rfl);(·exact R1.out);(·exact zu27);(·rfl);(·exact info_stx _))|((with_reducible refine wpList_load_midG 27 (.tmp 17) ?_ g2 1 ?_ ?_ y.sts (.array 2 26) ?_ ?_ ?_ ?_ ?_);(·rfl);(·rfl);(·kernel_rfl);(·exact R2.out);(·exact zu27);(·rfl);(·exact info_stx _)))
 go_ret
 exact ⟨rfl,X1.out⟩
theorem same_no6 (x y:Ex) (v v':Value) (w:World) (hR:Hrd w x v) (hR':Hrd w y v') (t1:x.c=y.c) (t2:stsEq x y=true) (t3:vEq x.v.c x.v.k x.v.t y.v.c y.v.k y.v.t=true) (t4:bEq2 x.b0 x.b1 y.b0 y.b1=true) (t5:x.full=y.full) (t6:(x.h.length:Int)≠(y.h.length:Int)):Calls Tryz.prog 55 #[.agg (x.arr v),.agg (y.arr v')] w fun e w'=>e = .returned (.bool false)∧Ext w w':=by
 obtain ⟨a,cap,rfl,hm,hvw⟩:=row_view hR
 obtain ⟨a',cap',rfl,hm',hvw'⟩:=row_view hR'
 clear hvw hvw' hm'
 unfold maxLen at hm
 go_enter Tryz.func55,Tryz.ntmps55
 go_upto_region 1 with fail
 refine wp_forget (fun w'=>w'.heap[w.heap.size]?=some (.cells (x.arr (.slice a x.h.length cap)) 33 (0,0))∧w'.heap[w.heap.size+1]?=some (.cells (y.arr (.slice a' y.h.length cap')) 33 (0,0))∧Ext w w') ⟨heap_ext (heap_ext (heap_new rfl) (zR.alloc _)) zR,heap_ext (heap_new (by simp)) zR,((zR.alloc _).alloc _)⟩ ?_
 rintro W1 ⟨h1,h2,x1⟩
 revert h1 h2
 generalize w.heap.size+1=g2
 generalize w.heap.size=g1
 intro h1 h2
 have r1:W1.rangeAt g1 1 x.sts:=range_of_row h1 1 18 _ rfl
 have r2:W1.rangeAt g2 1 y.sts:=range_of_row h2 1 18 _ rfl
 have R1:=zd r1
 have R2:=zd r2
 clear r1 r2
 unfold Ex.arr at h1 h2
 have c1_0:=zQ h1 0
 have c2_0:=zQ h2 0
 have c1_19:=zQ h1 19
 have c2_19:=zQ h2 19
 have c1_20:=zQ h1 20
 have c2_20:=zQ h2 20
 have c1_21:=zQ h1 21
 have c2_21:=zQ h2 21
 have c1_22:=zQ h1 22
 have c2_22:=zQ h2 22
 have c1_23:=zQ h1 23
 have c2_23:=zQ h2 23
 have c1_24:=zQ h1 24
 have c2_24:=zQ h2 24
 have c1_25:=zQ h1 25
 have c2_25:=zQ h2 25
 have l1:g1<W1.heap.size:=zL h1
 have l2:g2<W1.heap.size:=zL h2
 have X1:=zd x1
 clear h1 h2 x1
 go_wp2_with (first|((with_reducible refine wpList_load_midG 27 (.tmp 15) ?_ g1 1 ?_ ?_ x.sts (.array 2 26) ?_ ?_ ?_ ?_ ?_);(·rfl);(·rfl);(·kernel_rfl);(·exact R1.out);(·exact zu27);(·rfl);(·exact info_stx _))|((with_reducible refine wpList_load_midG 27 (.tmp 17) ?_ g2 1 ?_ ?_ y.sts (.array 2 26) ?_ ?_ ?_ ?_ ?_);(·rfl);(·rfl);(·kernel_rfl);(·exact R2.out);(·exact zu27);(·rfl);(·exact info_stx _)))
 go_ret
 exact ⟨rfl,X1.out⟩
theorem Ext.grown {a w w':World} {X:Nat} (h:Ext a w) (g:w.grownBy w' (some X)) (hX:a.heap.size≤X):Ext a w':=
 ⟨g.os.trans h.os,g.tape.trans h.tape,g.output.trans h.output,zT h.size g.size,fun k hk=>(g.block k (zU hk h.size) (by simp;omega)).trans (h.block k hk)⟩
def Left (x y:Ex) (n:Nat) (R:List Lt):Prop:=R.length+n=y.h.length∧(x.h.take n++R).Perm y.h
theorem left_no {x y:Ex} {n:Nat} {R:List Lt} {l:Lt} (h:Left x y n R) (hl:x.h[n]?=some l) (hm:l∉R) : ¬x.h.Perm y.h:=fun hp=>by
 have h1:=h.2.trans hp.symm
 have h2:(x.h.take n++R).Perm (x.h.take n++x.h.drop n):=by rw [List.take_append_drop];exact h1
 have h3:=(List.perm_append_left_iff _).1 h2
 have h4:l∈x.h.drop n:=zE (i:=0) (by rw [List.getElem?_drop];exact hl)
 exact hm (h3.mem_iff.2 h4)
theorem left_step {x y:Ex} {n i:Nat} {R:List Lt} {l:Lt} (h:Left x y n R) (hl:x.h[n]?=some l) (hi:R[i]?=some l):Left x y (n+1) (R.eraseIdx i):=by
 have hi':=zM hi
 refine ⟨by rw [List.length_eraseIdx_of_lt hi'];have:=h.1;omega,?_⟩
 have h1:x.h.take (n+1)=x.h.take n++[l]:=by rw [List.take_add_one,hl];rfl
 have h2:R.Perm (l::R.eraseIdx i):=by
  rw [erase_eq]
  have h3:R=R.take i++l::R.drop (i+1):=by
   conv=>lhs;rw [←List.take_append_drop i R]
   rw [List.drop_eq_getElem_cons hi',(List.getElem?_eq_some_iff.1 hi).2]
  conv=>lhs;rw [h3]
  exact List.perm_middle
 rw [h1,List.append_assoc]
 exact ((List.Perm.append_left _ h2).symm).trans h.2
theorem left_all {x y:Ex} {R:List Lt} (h:Left x y x.h.length R) (hn:x.h.length=y.h.length):x.h.Perm y.h:=by
 have h1:R=[]:=List.length_eq_zero_iff.1 (by have:=h.1;omega)
 have h2:=h.2
 rwa [h1,List.append_nil,List.take_length] at h2
theorem same_yes (x y:Ex) (v v':Value) (w:World) (B0:Nat) (hR:Hrd w x v) (hO:Own w B0 y.h v') (hn:y.h.length≤100000) (t1:x.c=y.c) (t2:stsEq x y=true) (t3:vEq x.v.c x.v.k x.v.t y.v.c y.v.k y.v.t=true) (t4:bEq2 x.b0 x.b1 y.b0 y.b1=true) (t5:x.full=y.full) (t6:(x.h.length:Int)=(y.h.length:Int)):Calls Tryz.prog 55 #[.agg (x.arr v),.agg (y.arr v')] w fun e w'=>e = .returned (.bool (decide (x.h.Perm y.h)))∧Ext w w':=by
 have hR':Hrd w y v':=Row.of_own hO
 have t6':x.h.length=y.h.length:=by omega
 have HN:=zd t6'
 have HO:=zd hO
 clear t6' hO
 obtain ⟨a,cap,rfl,hm,hvw⟩:=row_view hR
 obtain ⟨a',cap',rfl,hm',hvw'⟩:=row_view hR'
 have HV:=zd hvw
 clear hvw hvw' hm'
 unfold maxLen at hm
 go_enter Tryz.func55,Tryz.ntmps55
 go_upto_region 1 with fail
 refine wp_forget (fun w'=>w'.heap[w.heap.size]?=some (.cells (x.arr (.slice a x.h.length cap)) 33 (0,0))∧w'.heap[w.heap.size+1]?=some (.cells (y.arr (.slice a' y.h.length cap')) 33 (0,0))∧Ext w w') ⟨heap_ext (heap_ext (heap_new rfl) (zR.alloc _)) zR,heap_ext (heap_new (by simp)) zR,((zR.alloc _).alloc _)⟩ ?_
 rintro W1 ⟨h1,h2,x1⟩
 revert h1 h2
 generalize w.heap.size+1=g2
 generalize w.heap.size=g1
 intro h1 h2
 have r1:W1.rangeAt g1 1 x.sts:=range_of_row h1 1 18 _ rfl
 have r2:W1.rangeAt g2 1 y.sts:=range_of_row h2 1 18 _ rfl
 have R1:=zd r1
 have R2:=zd r2
 clear r1 r2
 have H1:=zd h1
 unfold Ex.arr at h1 h2
 have c1_0:=zQ h1 0
 have c2_0:=zQ h2 0
 have c1_19:=zQ h1 19
 have c2_19:=zQ h2 19
 have c1_20:=zQ h1 20
 have c2_20:=zQ h2 20
 have c1_21:=zQ h1 21
 have c2_21:=zQ h2 21
 have c1_22:=zQ h1 22
 have c2_22:=zQ h2 22
 have c1_23:=zQ h1 23
 have c2_23:=zQ h2 23
 have c1_24:=zQ h1 24
 have c2_24:=zQ h2 24
 have c1_25:=zQ h1 25
 have c2_25:=zQ h2 25
 have l1:g1<W1.heap.size:=zL h1
 have l2:g2<W1.heap.size:=zL h2
 have X1:=zd x1
 clear h1 h2 x1
 go_wp2_with (first|((with_reducible refine wpList_load_midG 27 (.tmp 15) ?_ g1 1 ?_ ?_ x.sts (.array 2 26) ?_ ?_ ?_ ?_ ?_);(·rfl);(·rfl);(·kernel_rfl);(·exact R1.out);(·exact zu27);(·rfl);(·exact info_stx _))|((with_reducible refine wpList_load_midG 27 (.tmp 17) ?_ g2 1 ?_ ?_ y.sts (.array 2 26) ?_ ?_ ?_ ?_ ?_);(·rfl);(·rfl);(·kernel_rfl);(·exact R2.out);(·exact zu27);(·rfl);(·exact info_stx _))|(go_at_call 51;refine (sl_clone _ B0 y.h _ (own_ext HO.out X1.out) hn).mono ?_;rintro e W2 ⟨vr,rfl,hC,hx⟩;have h1:=heap_ext H1.out hx;unfold Ex.arr at h1;have d25:=zQ h1 25;have m1:g1<W2.heap.size:=(zL h1);have HC:=zd hC;have HX2:=zd hx;clear h1 hC hx))
 go_loopg [5,57] x.h.length (fun g rv ii wr=>∃ (n:Nat) (z:ExtOf W1) (R:List Lt),ii = .int .i64 (n:Int)∧n+g=x.h.length∧wr=z.val∧Hid (z.val.ownsRow W1.heap.size 24 5 rv R.length (R.flatMap Lt.cs))∧Hid (Left x y n R))
 case atStart=>exact ⟨0,⟨W2,HX2.out⟩,y.h,rfl,by omega,rfl,HC,zd ⟨rfl,by simp⟩⟩
 case round=>
  obtain ⟨n,z,R,rfl,hg,rfl,HR,HL⟩:=hrel
  by_cases hlt:n<x.h.length
  ·obtain ⟨g,off,rfl,hgl,hcell⟩:=HV.out (by omega)
   have hgl:=hgl (by omega)
   obtain ⟨l,hl⟩ : ∃ l,x.h[n]?=some l:=⟨_,zG hlt⟩
   obtain ⟨q0,q1,q2,q3,q4⟩:=lt_cellsO (fun j u hj=>cell_keep (hcell j u hj) X1.out) hl
   have HLl:=zd hl
   have hgl1:g<W1.heap.size:=zU hgl X1.out.size
   clear hl hcell hgl
   have hlt':(n:Int)<(x.h.length:Int):=by omega
   by_cases hm:l∈R
   ·obtain ⟨gb,cb,hv,hbg⟩ : ∃ gb cb,u5 = .slice (some ⟨gb,0,none⟩) R.length cb∧W1.heap.size≤gb:=by
     rcases HR.out.2 with ⟨_,h0⟩|⟨gb,cb,cur,h0,h1,_⟩
     ·have:=List.length_pos_of_mem hm
      omega
     ·exact ⟨gb,cb,h0,h1⟩
    subst hv
    have HM:=zd hm
    have HBG:=zd hbg
    have hRl:R.length≤100000:=by have:=HL.out.1;omega
    clear hm hbg
    go_wp2_with (first|(go_at_call 82;refine (sl_indexE _ R l _ (Row.of_own (own_ext HR.out (zR.alloc _)))).mono ?_;rintro e W3 ⟨m,rfl,hm',hx3⟩;obtain ⟨i,rfl,hi⟩:=hm'.resolve_right (fun h0=>h0.2 HM.out);have hni : ¬((i:Int)<0):=(by omega);have HI:=zd hi;have hi9:i<100000:=(zU (zM hi) hRl);have HX3:=zd ((Ext.alloc (Ext.refl z.val) _).trans hx3);clear hm' hx3 hi)|(go_at_call 83;refine (sl_delete W1.heap.size gb cb i R _ (own_ext HR.out HX3.out) (zM HI.out) hRl).mono ?_;rintro e W4 ⟨rfl,hD,hgr⟩;have HD:=zd hD;have HG:=zd (Ext.grown (z.ext.trans HX3.out) hgr HBG.out);clear hD hgr))
    go_roundg (gk - 1)
    case rel=>
     refine ⟨n+1,⟨W4,HG.out⟩,R.eraseIdx i,rfl,by omega,rfl,?_,zd (left_step HL.out HLl.out HI.out)⟩
     have hd:=HD.out
     have he:=List.length_eraseIdx_of_lt (zM HI.out)
     refine zd ?_
     rw [he]
     exact hd
    case measure=>omega
   ·have HM:=zd hm
    clear hm
    go_wp2_with (first|(go_at_call 82;refine (sl_indexE _ R l _ (Row.of_own (own_ext HR.out (zR.alloc _)))).mono ?_;rintro e W3 ⟨m,rfl,hm',hx3⟩;have hmm:=(hm'.resolve_left (fun ⟨_,_,h0⟩=>HM.out (zE h0))).1;subst hmm;have HX3:=zd ((Ext.alloc (Ext.refl z.val) _).trans hx3);clear hm' hx3))
    go_ret
    exact ⟨by rw [decide_eq_false (left_no HL.out HLl.out HM.out)];rfl,(X1.out.val z).trans HX3.out⟩
  ·have hge:(x.h.length:Int)≤(n:Int):=by omega
   go_wp2_with fail
   go_ret
   have hnn:n=x.h.length:=by omega
   subst hnn
   exact ⟨by rw [decide_eq_true (left_all HL.out HN.out)];rfl,X1.out.val z⟩
theorem sts_iff (x y:Ex):stsEq x y=true↔x.s0=y.s0∧x.s1=y.s1:=by
 obtain ⟨xc,⟨a1,a2,a3,a4,⟨a5,a6,a7,a8,a9⟩⟩,⟨b1,b2,b3,b4,⟨b5,b6,b7,b8,b9⟩⟩,xv,xb0,xb1,xf,xh⟩:=x
 obtain ⟨yc,⟨c1,c2,c3,c4,⟨c5,c6,c7,c8,c9⟩⟩,⟨d1,d2,d3,d4,⟨d5,d6,d7,d8,d9⟩⟩,yv,yb0,yb1,yf,yh⟩:=y
 simp [stsEq,sEq2,and_assoc]
theorem mo_same (x y:Ex) (v v':Value) (w:World) (B0:Nat) (hR:Hrd w x v) (hO:Own w B0 y.h v') (hn:y.h.length≤100000):Calls Tryz.prog 55 #[.agg (x.arr v),.agg (y.arr v')] w fun e w'=>e = .returned (.bool (sameX x y))∧Ext w w':=by
 have hR':Hrd w y v':=Row.of_own hO
 have no:(¬SameP x y)→∀ {e:Ending} {w':World},(e = .returned (.bool false)∧Ext w w')→(e = .returned (.bool (sameX x y))∧Ext w w'):=fun h _ _ h1=>⟨by rw [h1.1,sameX,decide_eq_false h],h1.2⟩
 by_cases t1:x.c=y.c
 case neg=>exact (same_no1 x y v v' w hR hR' t1).mono fun _ _ h=>no (fun s=>t1 s.c) h
 cases t2:stsEq x y
 ·exact (same_no2 x y v v' w hR hR' t1 t2).mono fun _ _ h=>no (fun s=>by rw [(sts_iff x y).2 ⟨s.s0,s.s1⟩] at t2;cases t2) h
 cases t3:vEq x.v.c x.v.k x.v.t y.v.c y.v.k y.v.t
 ·exact (same_no3 x y v v' w hR hR' t1 t2 t3).mono fun _ _ h=>no (fun s=>by rw [vEq_vd,decide_eq_true s.v] at t3;cases t3) h
 cases t4:bEq2 x.b0 x.b1 y.b0 y.b1
 ·exact (same_no4 x y v v' w hR hR' t1 t2 t3 t4).mono fun _ _ h=>no (fun s=>by simp [bEq2,s.b0,s.b1] at t4) h
 by_cases t5:x.full=y.full
 case neg=>exact (same_no5 x y v v' w hR hR' t1 t2 t3 t4 t5).mono fun _ _ h=>no (fun s=>t5 s.full) h
 by_cases t6:(x.h.length:Int)=(y.h.length:Int)
 case neg=>exact (same_no6 x y v v' w hR hR' t1 t2 t3 t4 t5 t6).mono fun _ _ h=>no (fun s=>t6 (by rw [s.h.length_eq])) h
 refine (same_yes x y v v' w B0 hR hO hn t1 t2 t3 t4 t5 t6).mono fun e w' h=>⟨?_,h.2⟩
 have hs:=(sts_iff x y).1 t2
 have hv:x.v=y.v:=by rw [vEq_vd] at t3;exact of_decide_eq_true t3
 have hb:x.b0=y.b0∧x.b1=y.b1:=by simpa [bEq2] using t4
 rw [h.1,sameX]
 congr 2
 rw [decide_eq_decide]
 exact ⟨fun p=>⟨t1,hs.1,hs.2,hv,hb.1,hb.2,t5,p⟩,fun s=>s.h⟩
end Go.Proofs.YtlnmhocehgmbbaaGreatDoor
namespace Go.Proofs.YtlnmhocehgmbbaaGreatDoor
open Go.RowKit
attribute [local go_sem ↓] eql_lEq eql_sEq eql_eEq eql_oEq neq_lEq neq_sEq neq_eEq neq_oEq
attribute [local go_sem] ExtOf.cell ExtOf.frozen ExtOf.lt ExtOf.le
attribute [local go_sem high] ExtOf.cell2 ExtOf.frozen2 ExtOf.lt2 ExtOf.cell3 ExtOf.frozen3 ExtOf.lt3 ExtOf.cellB ExtOf.frozenB ExtOf.cellX ExtOf.frozenX ExtOf.cellX' ExtOf.frozenX'
attribute [local go_sem] BelOf.cell BelOf.frozen BelOf.lt
def evR (sc:Int) (x:Rw):Ev:=if x.tick then ⟨3,sc,{ data:=#[] },l0⟩ else ⟨2,0,{ data:=#[] },x.comes⟩
def evsS (s:St):List Ev:=if waitS s then (rowsS s.c s.t s.ph).map (evR s.c) else []
theorem rows_len (c:Int) (t:ByteArray) (ph:Int):(rowsS c t ph).length≤3:=by
 unfold rowsS
 repeat' split
 all_goals simp
theorem take_flat {α:Type} (f:α→List Value) {L:List α} {n:Nat} {x:α} (h:L[n]?=some x):(L.take (n+1)).flatMap f=(L.take n).flatMap f++f x:=by
 rw [List.take_add_one,h]
 simp
theorem info_event:(Tryz.prog.info? 102).map (fun i=>(i.zero,i.size,i.bytes))=some (some (.agg #[.int .i64 0,.int .u64 0,.string { data:=#[] },.int .i64 0,.int .i64 0,.int .u64 0,.string { data:=#[] },.bool false]),8,80):=by kernel_rfl
theorem evR_t {sc:Int} {x:Rw} (h:x.tick=true):evR sc x=⟨3,sc,{ data:=#[] },l0⟩:=by simp [evR,h]
theorem evR_f {sc:Int} {x:Rw} (h:x.tick=false):evR sc x=⟨2,0,{ data:=#[] },x.comes⟩:=by simp [evR,h]
theorem or_eventsW (r c:Int) (t:ByteArray) (ph k f c2:Int) (t2:ByteArray) (fk:Bool) (w:World) (hw:waitS ⟨r,c,t,ph,⟨k,f,c2,t2,fk⟩⟩=true) :
 Calls Tryz.prog 117 #[.agg #[.int .i64 r,.int .u64 c,.string t,.int .i64 ph,.int .i64 k,.int .i64 f,.int .u64 c2,.string t2,.bool fk]] w (Made w 102 8 (rowsS c t ph).length (((rowsS c t ph).map (evR c)).flatMap Ev.cs)):=by
 obtain ⟨i0,hi,hz0,hz1,hz2⟩:=info_parts info_event
 have hm3:=rows_len c t ph
 generalize hL:rowsS c t ph=L
 rw [hL] at hm3
 have HL:=zd hL
 clear hL
 go_enter Tryz.func117,Tryz.ntmps117
 go_wp2_with (first
  | (go_at_call 152;refine (or_waits _ _ _ _ _ _ _ _ _ _).mono ?_;rintro e w1 ⟨rfl,hx⟩;obtain ⟨x1,rfl⟩:=ext_of hx;clear hx)
  | (go_at_call 128;refine (or_rows _ _ _ _ _ _ _ _ _ _).mono ?_;rintro e w2 ⟨v,rfl,hv,hx2⟩;rw [HL.out] at hv;obtain ⟨a,cap,rfl,hm,hvw⟩:=own_view hv;obtain ⟨x2,rfl⟩:=ext_of hx2;clear hx2 hv))
 refine wp_forget (fun w'=>w'.heap[w.heap.size]?=some (.cells #[.int .i64 r,.int .u64 c,.string t,.int .i64 ph,.int .i64 k,.int .i64 f,.int .u64 c2,.string t2,.bool fk] 26 (0,0))∧Ext w w'∧
  (0<L.length→∃ g,a=some ⟨g,0,none⟩∧g<w'.heap.size∧∀ j u,(L.flatMap Rw.cs)[j]?=some u→w'.cell? ⟨g,j,none⟩=some u)) ⟨?f1,?f4,?f5⟩ ?fr
 case f1=>exact heap_ext (heap_ext (heap_new rfl) x1.ext) x2.ext
 case f4=>exact ((zR.alloc _).val x1).val x2
 case f5=>exact fun h=>let ⟨g,ha,_,hg,hcell⟩:=hvw h;⟨g,ha,hg,hcell⟩
 clear hvw x2 x1
 rintro W3 ⟨h3a,h3x,hvw⟩
 have HV:=zd hvw
 clear hvw
 have hc3:=zQ h3a
 have hl3:w.heap.size<W3.heap.size:=zL h3a
 clear h3a
 unfold maxLen at hm
 go_loopw [3,12] (fun l i wr=>∃ (n:Nat) (y:ExtOf W3),n≤L.length∧i = .int .i64 n∧wr=y.val∧y.val.ownsRow W3.heap.size 102 8 l n (((L.take n).map (evR c)).flatMap Ev.cs)) (fun _ i _=>L.length - (intOf i).toNat)
 case atStart=>exact ⟨0,⟨W3,zR⟩,Nat.zero_le _,rfl,rfl,World.ownsRow_nil _ _ _ _⟩
 case round=>
  obtain ⟨n,y,hn,rfl,rfl,hown⟩:=hrel
  by_cases hlt:n<L.length
  ·obtain ⟨g,rfl,hg,hcell⟩:=HV.out (by omega)
   obtain ⟨x,hx⟩ : ∃ x,L[n]?=some x:=⟨_,zG hlt⟩
   obtain ⟨q0,q1,q2,q3,q4,q5,q6,q7,q8,q9,q10,q11⟩:=rw_cells hcell hx
   have HX:=zd hx
   clear hx hcell
   have hyB:W3.heap.size≤((y.val.alloc (.cells #[] 0)).alloc (.cells #[] 0)).heap.size:=zT y.ext.size (((Ext.refl y.val).alloc _).alloc _).size
   rcases ht:x.tick
   all_goals
    have HT:=zd ht
    go_wp2_with (at_builtin;refine wpList_app W3.heap.size 140 102 i0 _ 8 80 zu140 hi hz0 hz1 hz2 rfl (by decide) rfl _ _ rfl _ n _ rfl (own_ext hown (((Ext.refl y.val).alloc _).alloc _)) (zT y.ext.size (((Ext.refl y.val).alloc _).alloc _).size) (y.val.heap.size+1) 1 1 _ rfl (heap_new (by simp)) rfl (by simp [Value.oneCell']) (by unfold maxLen;omega) (by omega) ?_;intro v2 w2 hv2 hb2 _)
    go_roundw
    case rel=>
     refine ⟨n+1,⟨w2,(((y.ext.alloc _).alloc _).trans' hb2)⟩,by omega,by go_num,rfl,?_⟩
     rw [List.map_take] at hv2 ⊢
     rw [take_flat Ev.cs (x:=evR c x) (by rw [List.getElem?_map,HX.out];rfl)]
     first
      | (rw [evR_t HT.out];exact hv2)
      | (rw [evR_f HT.out];exact hv2)
    case measure=>simp [intOf];omega
  ·obtain rfl:n=L.length:=by omega
   go_wp2
   go_ret
   refine ⟨_,rfl,?_,h3x.trans y.ext⟩
   rw [List.take_length] at hown
   exact own_base hown h3x.size
end Go.Proofs.YtlnmhocehgmbbaaGreatDoor

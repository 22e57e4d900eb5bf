/- No condition. -/
import Derived.Test.YtlnmhocehgmbbaaGreatDoorWY14
import Derived.Test.YtlnmhocehgmbbaaGreatDoorWY17
import Derived.Laws.Cover4
import Derived.Lib.AppendIntMem
set_option linter.all false
set_option maxRecDepth 100000
set_option maxHeartbeats 6400000
namespace Go.Proofs.YtlnmhocehgmbbaaGreatDoor
open Go.RowKit
attribute [local go_sem ↓] eql_lEq eql_sEq eql_eEq eql_oEq neq_lEq neq_sEq neq_eEq neq_oEq eql_vEq neq_vEq eql_nil
attribute [local go_sem] ExtOf.cell ExtOf.frozen ExtOf.lt ExtOf.le
attribute [local go_sem high] ExtOf.cell2 ExtOf.frozen2 ExtOf.lt2 ExtOf.cell3 ExtOf.frozen3 ExtOf.lt3
def Rg.arr (r:Rg) (tv:Value):Array Value:=#[tv,.bool r.b,.bool r.l,.int .i64 r.m]
def RgAt (w:World) (g:Nat) (r:Rg) (tv:Value):Prop:=w.heap[g]?=some (.cells (r.arr tv) 36 (0,0))
theorem RgAt.ext {w w':World} {g:Nat} {r:Rg} {tv:Value} (h:RgAt w g r tv) (e:Ext w w'):RgAt w' g r tv:=heap_ext h e
def delB (r:Rg) (m:Mv):Bool:=(m.k == 5 && !r.b) || (m.lost && !r.l)
theorem movesR_eq (evs:St→List Ev) (x:Ex) (r:Rg):movesR evs x r=(movesS evs x r.t).filter fun m=>!delB r m:=rfl
theorem mv_del (r:Rg) (m:Mv) (gr:Nat) (tv:Value) (w:World) (hR:RgAt w gr r tv):Calls Tryz.prog 33 #[.agg m.arr,.pointer (some ⟨gr,0,none⟩)] w fun e w'=>e = .returned (.bool (delB r m))∧Ext w w':=by
 unfold RgAt Rg.arr at hR
 have q:=zQ hR
 have l1:gr<w.heap.size:=zL hR
 clear hR
 obtain ⟨rt,rb,rl,rm⟩:=r
 obtain ⟨mk,mw,mt,ml,mlost⟩:=m
 simp only at q
 unfold delB Mv.arr
 simp only
 rcases hk:(mk == 5)<;>rcases rb<;>rcases rl<;>rcases mlost
 all_goals
  go_enter Tryz.func33,Tryz.ntmps33
  go_wp2_with fail
  go_ret
  exact ⟨rfl,zR.alloc _⟩
def FirstAt (p:Mv→Bool) (C:List Mv) (n:Int):Prop:=(n = -1∧∀ z∈C,p z=false)∨∃ i:Nat,n=(i:Int)∧(∀ (j:Nat) z,j<i→C[j]?=some z→p z=false)∧∃ z,C[i]?=some z∧p z=true
theorem sl_indexR (v:Value) (C:List Mv) (r:Rg) (tv:Value) (gr:Nat) (w:World) (hR:Row w 9 v C.length (C.flatMap Mv.cs)) (hG:RgAt w gr r tv) :
 Calls Tryz.prog 56 #[v,.func (.func 33) #[] #[.pointer (some ⟨gr,0,none⟩)]] w fun e w'=>∃ n:Int,e = .returned (.int .i64 n)∧FirstAt (delB r) C n∧Ext w w':=by
 obtain ⟨a,cap,rfl,hm,hvw⟩:=row_view hR
 have HV:=zd hvw
 have HG:=zd hG
 clear hvw hR hG
 unfold maxLen at hm
 go_enter Tryz.func56,Tryz.ntmps56
 go_wp2_with fail
 go_loopg [8] C.length (fun g ii wr=>∃ (n:Nat) (y:ExtOf w),ii = .int .i64 (n:Int)∧n+g=C.length∧wr=y.val∧Hid (∀ (j:Nat) z,j<n→C[j]?=some z→delB r z=false))
 case atStart=>exact ⟨0,⟨w,zR⟩,rfl,by omega,rfl,zd fun _ _ h=>by omega⟩
 case round=>
  obtain ⟨n,y,rfl,hg,rfl,HN⟩:=hrel
  by_cases hlt:n<C.length
  ·obtain ⟨g,off,rfl,hgl,hcell⟩:=HV.out (by omega)
   have hgl:=hgl (by omega)
   obtain ⟨x,hx⟩ : ∃ x,C[n]?=some x:=⟨_,zG hlt⟩
   obtain ⟨q0,q1,q2,q3,q4,q5,q6,q7,q8⟩:=mv_cells hcell hx
   have HX:=zd hx
   clear hx hcell
   have hlt':(n:Int)<(C.length:Int):=by omega
   have hC:=fun w' (hw:Ext w w')=>mv_del r x gr tv w' (HG.out.ext hw)
   rcases hp:delB r x
   ·simp only [hp] at hC
    have HC:=zd hC
    have HP:=zd hp
    clear hC hp
    go_wp2_with (go_at_call 33;refine (HC.out _ y.ext).mono ?_;rintro e w5 ⟨rfl,hx⟩;have HX5:=zd (y.ext.trans hx);clear hx)
    go_roundg (gk - 1)
    case rel=>
     refine ⟨n+1,⟨w5,HX5.out⟩,rfl,by omega,rfl,zd fun j u hj hu=>?_⟩
     by_cases hjn:j=n
     ·subst hjn
      rw [HX.out,Option.some.injEq] at hu
      rw [←hu]
      exact HP.out
     ·exact HN.out j u (by omega) hu
    case measure=>omega
   ·simp only [hp] at hC
    have HC:=zd hC
    have HP:=zd hp
    clear hC hp
    go_wp2_with (go_at_call 33;refine (HC.out _ y.ext).mono ?_;rintro e w5 ⟨rfl,hx⟩;have HX5:=zd (y.ext.trans hx);clear hx)
    go_ret
    exact ⟨n,rfl,.inr ⟨n,rfl,HN.out,x,HX.out,HP.out⟩,HX5.out⟩
  ·have hge:(C.length:Int)≤(n:Int):=by omega
   go_wp2_with fail
   go_ret
   refine ⟨-1,rfl,.inl ⟨rfl,fun z hz=>?_⟩,y.ext⟩
   obtain ⟨j,hj⟩:=List.mem_iff_getElem?.1 hz
   exact HN.out j z (by have:=(zM hj);omega) hj
def putA (cur:Array Value) (o:Nat):List Value→Array Value
 | []=>cur
 | v::r=>putA (cur.setIfInBounds o v) (o+1) r
theorem putA_size : ∀ (vs:List Value) (cur:Array Value) (o:Nat),(putA cur o vs).size=cur.size
 | [],_,_=>rfl
 | v::r,cur,o=>by rw [putA,putA_size r];simp
theorem putA_out : ∀ (vs:List Value) (cur:Array Value) (o k:Nat),k<o∨o+vs.length≤k→(putA cur o vs)[k]?=cur[k]?
 | [],_,_,_,_=>rfl
 | v::r,cur,o,k,h=>by
  rw [putA,putA_out r _ _ _ (by simp only [List.length_cons] at h;omega),Array.getElem?_setIfInBounds_ne (by simp only [List.length_cons] at h;omega)]
theorem putA_in : ∀ (vs:List Value) (cur:Array Value) (o t:Nat) (u:Value),vs[t]?=some u→o+vs.length≤cur.size→(putA cur o vs)[o+t]?=some u
 | [],_,_,_,_,h,_=>by simp at h
 | v::r,cur,o,0,u,h,hs=>by
  simp only [List.getElem?_cons_zero,Option.some.injEq] at h
  subst h
  simp only [List.length_cons] at hs
  rw [putA,putA_out r _ _ _ (by omega),Nat.add_zero,Array.getElem?_setIfInBounds_self_of_lt (by omega)]
 | v::r,cur,o,t+1,u,h,hs=>by
  simp only [List.getElem?_cons_succ] at h
  simp only [List.length_cons] at hs
  rw [putA,show o+(t+1)=o+1+t by omega]
  exact putA_in r _ _ _ _ h (by simp;omega)
theorem puts_row {e:TypeId} {fr:Nat×Nat} : ∀ (vs:List Value) (w:World) (g o:Nat) (cur:Array Value),w.heap[g]?=some (.cells cur e fr)→(w.setCells g o vs).heap[g]?=some (.cells (putA cur o vs) e fr)
 | [],_,_,_,_,h=>h
 | v::r,w,g,o,cur,h=>by
  rw [World.setCells,putA]
  exact puts_row r _ g (o+1) _ (by simp only [World.setCell,Array.getElem?_modify,if_pos,h];rfl)
theorem puts_other {g k:Nat} : ∀ (vs:List Value) (w:World) (o:Nat),k≠g→(w.setCells g o vs).heap[k]?=w.heap[k]?
 | [],_,_,_=>rfl
 | v::r,w,o,h=>by rw [World.setCells,puts_other r _ _ h];exact cell_other h
theorem puts_rest {g:Nat} : ∀ (vs:List Value) (w:World) (o:Nat),(w.setCells g o vs).os=w.os∧(w.setCells g o vs).tape=w.tape∧(w.setCells g o vs).output=w.output∧(w.setCells g o vs).heap.size=w.heap.size
 | [],_,_=>⟨rfl,rfl,rfl,rfl⟩
 | v::r,w,o=>by
  rw [World.setCells]
  obtain ⟨h1,h2,h3,h4⟩:=puts_rest (g:=g) r (w.setCell ⟨g,o,none⟩ v) (o+1)
  exact ⟨h1,h2,h3,h4.trans (by simp [World.setCell])⟩
theorem Keeps.put {X:List Nat} {a b:World} (h:Keeps X a b) {g:Nat} (hg:g∈X∨a.heap.size≤g) (o:Nat) (vs:List Value):Keeps X a (b.setCells g o vs):=by
 obtain ⟨h1,h2,h3,h4⟩:=puts_rest (g:=g) vs b o
 refine ⟨h1.trans h.os,h2.trans h.tape,h3.trans h.output,by rw [h4];exact h.size,fun i hi hx=>?_⟩
 refine (puts_other vs b o ?_).trans (h.block i hi hx)
 rcases hg with hg|hg
 ·rintro rfl;exact hx hg
 ·omega
def HasAt (cur:Array Value) (k:Nat) (z:Mv):Prop:=∀ (t:Nat) u,z.cs[t]?=some u→cur[k*9+t]?=some u
theorem mv_len (z:Mv):z.cs.length=9:=rfl
structure DelI (p:Mv→Bool) (C:List Mv) (i j cap:Nat) (cur:Array Value):Prop where
 sz:cur.size=cap*9
 len:i=((C.take j).filter fun m=>!p m).length
 lt:i<j
 done : ∀ k z,((C.take j).filter fun m=>!p m)[k]?=some z→HasAt cur k z
 todo : ∀ k z,j≤k→C[k]?=some z→HasAt cur k z
theorem filter_take {p:Mv→Bool} {C:List Mv} {j:Nat} {z:Mv} (hz:C[j]?=some z):((C.take (j+1)).filter fun m=>!p m)=((C.take j).filter fun m=>!p m)++(if p z=true then [] else [z]):=by
 rw [List.take_add_one,hz,List.filter_append]
 cases h:p z<;>simp [h]
theorem DelI.skip {p:Mv→Bool} {C:List Mv} {i j cap:Nat} {cur:Array Value} (h:DelI p C i j cap cur) {z:Mv} (hz:C[j]?=some z) (hp:p z=true):DelI p C i (j+1) cap cur:=by
 have e:((C.take (j+1)).filter fun m=>!p m)=((C.take j).filter fun m=>!p m):=by rw [filter_take hz,if_pos hp,List.append_nil]
 exact ⟨h.sz,by rw [e];exact h.len,by have:=h.lt;omega,by rw [e];exact h.done,fun k y hk hy=>h.todo k y (by omega) hy⟩
theorem DelI.move {p:Mv→Bool} {C:List Mv} {i j cap:Nat} {cur:Array Value} (h:DelI p C i j cap cur) {z:Mv} (hz:C[j]?=some z) (hp:p z=false) (hc:C.length≤cap):DelI p C (i+1) (j+1) cap (putA cur (i*9) z.cs):=by
 have e:((C.take (j+1)).filter fun m=>!p m)=((C.take j).filter fun m=>!p m)++[z]:=by rw [filter_take hz,if_neg (by rw [hp];simp)]
 have hj:=zM hz
 have hl:=h.lt
 have hfit:i*9+z.cs.length≤cur.size:=by rw [h.sz,mv_len];omega
 have hf:z.cs.length=9:=rfl
 refine ⟨by rw [putA_size];exact h.sz,by rw [e,List.length_append,←h.len];rfl,by omega,fun k y hy t u hu=>?_,fun k y hk hy t u hu=>?_⟩
 ·have ht:=zM hu
  rw [mv_len] at ht
  rw [e] at hy
  by_cases hki:k<i
  ·rw [List.getElem?_append_left (by rw [←h.len];exact hki)] at hy
   rw [putA_out _ _ _ _ (by omega)]
   exact h.done k y hy t u hu
  ·rw [List.getElem?_append_right (by rw [←h.len];omega),←h.len] at hy
   have hk0:k - i=0:=by
    have:=zM hy
    simpa using this
   rw [hk0] at hy
   simp only [List.getElem?_cons_zero,Option.some.injEq] at hy
   subst hy
   obtain rfl:k=i:=by omega
   exact putA_in _ _ _ _ _ hu hfit
 ·have ht:=zM hu
  rw [mv_len] at ht
  rw [putA_out _ _ _ _ (by rw [hf];omega)]
  exact h.todo k y (by omega) hy t u hu
theorem has_all_len : ∀ L:List Mv,(L.flatMap Mv.cs).length=L.length*9
 | []=>rfl
 | y::L=>by rw [List.flatMap_cons,List.length_append,has_all_len L,mv_len,List.length_cons];omega
theorem has_all {cur:Array Value} : ∀ {L:List Mv},(∀ k z,L[k]?=some z→HasAt cur k z)→cur.toList.take (L.length*9)=L.flatMap Mv.cs:=by
 intro L h
 have hl:(L.flatMap Mv.cs).length=L.length*9:=by
  clear h
  induction L with
  | nil=>rfl
  | cons y L ih=>rw [List.flatMap_cons,List.length_append,ih,mv_len,List.length_cons];omega
 refine List.ext_getElem? fun j=>?_
 by_cases hj:j<L.length*9
 ·rw [List.getElem?_take_of_lt hj]
  have hk:j / 9<L.length:=by omega
  have h1:=flat_get Mv.cs 9 (fun _=>rfl) L (j / 9) _ (zG hk) (j % 9) (by omega)
  rw [show j / 9*9+j % 9=j by omega] at h1
  rw [h1]
  have h2:j % 9<(L[j / 9]).cs.length:=by rw [mv_len];omega
  rw [zG h2]
  have h3:=h (j / 9) _ (zG hk) (j % 9) _ (zG h2)
  rw [show j / 9*9+j % 9=j by omega] at h3
  simpa using h3
 ·rw [List.getElem?_eq_none (by rw [List.length_take];omega),List.getElem?_eq_none (by omega)]
theorem DelI.start {p:Mv→Bool} {C:List Mv} {i cap:Nat} {cur:Array Value} (hs:cur.size=cap*9) (hcap:C.length≤cap) (hx:cur.toList.take (C.length*9)=C.flatMap Mv.cs) (h1 : ∀ (j:Nat) z,j<i→C[j]?=some z→p z=false) {z:Mv} (hz:C[i]?=some z) (hp:p z=true):DelI p C i (i+1) cap cur:=by
 have hi:=zM hz
 have hall : ∀ k y,C[k]?=some y→HasAt cur k y:=fun k y hy t u hu=>by
  have ht:=zM hu
  rw [mv_len] at ht
  have hk:=zM hy
  have h2:=flat_get Mv.cs 9 (fun _=>rfl) C k y hy t ht
  rw [←hx,List.getElem?_take_of_lt (by omega),hu] at h2
  simpa using h2
 have e:((C.take (i+1)).filter fun m=>!p m)=C.take i:=by
  rw [filter_take hz,if_pos hp,List.append_nil,List.filter_eq_self]
  intro y hy
  obtain ⟨k,hk⟩:=List.mem_iff_getElem?.1 hy
  have hkl:=zM hk
  rw [List.length_take] at hkl
  rw [List.getElem?_take_of_lt (by omega)] at hk
  rw [h1 k y (by omega) hk]
  rfl
 refine ⟨hs,by rw [e,List.length_take];omega,by omega,fun k y hy=>?_,fun k y _ hy=>hall k y hy⟩
 rw [e] at hy
 have hkl:=zM hy
 rw [List.length_take] at hkl
 rw [List.getElem?_take_of_lt (by omega)] at hy
 exact hall k y hy
theorem first_none {p:Mv→Bool} {C:List Mv} (h : ∀ z∈C,p z=false):(C.filter fun m=>!p m)=C:=by
 rw [List.filter_eq_self]
 intro y hy
 rw [h y hy];rfl
theorem has_cells {w:World} {g k:Nat} {cur:Array Value} {e:TypeId} {x:Mv} (hg:w.heap[g]?=some (.cells cur e (0,0))) (h:HasAt cur k x) :
 w.cell? ⟨g,k*9,none⟩=some (.int .i64 x.k)∧w.cell? ⟨g,k*9+1,none⟩=some (.int .i64 x.who)∧w.cell? ⟨g,k*9+2,none⟩=some (.string x.t)∧w.cell? ⟨g,k*9+3,none⟩=some (.int .i64 x.l.k)∧w.cell? ⟨g,k*9+4,none⟩=some (.int .i64 x.l.f)∧w.cell? ⟨g,k*9+5,none⟩=some (.int .u64 x.l.c)∧w.cell? ⟨g,k*9+6,none⟩=some (.string x.l.t)∧w.cell? ⟨g,k*9+7,none⟩=some (.bool x.l.b)∧w.cell? ⟨g,k*9+8,none⟩=some (.bool x.lost):=by
 have key:=fun t u hu=>(cell_of_row w g (k*9+t) cur e (0,0) hg).trans (h t u hu)
 exact ⟨key 0 _ rfl,key 1 _ rfl,key 2 _ rfl,key 3 _ rfl,key 4 _ rfl,key 5 _ rfl,key 6 _ rfl,key 7 _ rfl,key 8 _ rfl⟩
theorem there_row {w:World} {g o n:Nat} {cur:Array Value} {e:TypeId} (hg:w.heap[g]?=some (.cells cur e (0,0))) (h:o+n≤cur.size):w.there g o n:=fun j hj=>by
 refine ⟨?_,zF hg _⟩
 rw [cell_of_row w g _ cur e (0,0) hg,Array.getElem?_eq_getElem (by omega)]
 rfl
theorem info_mv9 (x:Mv):(Tryz.prog.info? 52).map (·.size)=some x.arr.size:=by
 rw [show x.arr.size=9 from rfl]
 kernel_rfl
theorem sl_deleteR (B:Nat) (C:List Mv) (v:Value) (r:Rg) (tv:Value) (gr:Nat) (w:World) (hO:Own9 w B C v) (hG:RgAt w gr r tv) (hgr:gr<B) (hl:C.length≤100000) :
 Calls Tryz.prog 31 #[v,.func (.func 33) #[] #[.pointer (some ⟨gr,0,none⟩)]] w fun e w'=>∃ v',e = .returned v'∧Own9 w' B (C.filter fun m=>!delB r m) v'∧w.grownBy w' v.ownBlock:=by
 have HO:=zd hO
 have HG:=zd hG
 have HB:=zd hgr
 clear hO hG hgr
 go_enter Tryz.func31,Tryz.ntmps31
 go_upto_region 2 with (go_at_call 56;refine (sl_indexR v C r tv gr _ (Row.of_own HO.out) HG.out).mono ?_;rintro e w2 ⟨n,rfl,hn,hx⟩;have HN:=zd hn;have HX:=zd hx;clear hn hx)
 rcases HN.out with ⟨rfl,hall⟩|⟨i0,rfl,hbe,z0,hz0,hp0⟩
 ·have HA:=zd hall
  clear hall
  go_wp2_with fail
  go_ret
  refine ⟨_,rfl,?_,?_⟩
  ·rw [first_none HA.out];exact HO.out.ext HX.out
  ·exact ⟨HX.out.os,HX.out.tape,HX.out.output,HX.out.size,fun k hk _=>HX.out.block k hk⟩
 rcases (show w.ownsRow B 52 9 v C.length (C.flatMap Mv.cs) from HO.out).2 with ⟨hv,hn⟩|⟨g,cap,cur,hv,hbg,hg,hnc,hcm,hcs,hxs⟩
 ·exfalso
  have:=zM hz0
  omega
 subst hv
 have hic:=zM hz0
 have HD:Hid (DelI (delB r) C i0 (i0+1) cap cur):=zd (DelI.start hcs hnc hxs hbe hz0 hp0)
 have hg2:=heap_ext hg HX.out
 have HG2:=zd hg2
 have HBG:Hid (B≤g∧cap≤maxLen∧gr≠g):=zd (by have:=HB.out;omega)
 have HNC:=zd hnc
 have HIC:=zd hic
 have HR2:Hid (RgAt w2 gr r tv):=zd (HG.out.ext HX.out)
 have hne:((i0:Int) == -1)=false:=by
  rw [beq_eq_false_iff_ne]
  omega
 clear HN hbe hz0 hp0 hbg hg hnc hcm hcs hxs hg2 HB HG
 go_wp2_with fail
 have hic:=HIC.out
 go_loopg [5,6] (C.length - (i0+1)) (fun k ii jj wr=>∃ (i j:Nat) (cur:Array Value),ii = .int .i64 (i:Int)∧jj = .int .i64 (j:Int)∧j+k=C.length∧Hid (wr.heap[g]?=some (.cells cur 52 (0,0)))∧Hid (DelI (delB r) C i j cap cur)∧Hid (Keeps [g] w2 wr))
 case atStart=>exact ⟨i0,i0+1,cur,rfl,by go_num,by omega,HG2,HD,zd (Keeps.refl _ _)⟩
 case round=>
  clear HD HG2
  obtain ⟨i,j,cur,rfl,rfl,hjk,HG2,HD,HK⟩:=hrel
  rename World=>Wr
  have hbg:=HBG.out
  have hnc:=HNC.out
  have hdl:=HD.out.lt
  by_cases hlt:j<C.length
  ·obtain ⟨z,hz⟩ : ∃ z,C[j]?=some z:=⟨_,zG hlt⟩
   obtain ⟨q0,q1,q2,q3,q4,q5,q6,q7,q8⟩:=has_cells HG2.out (HD.out.todo j z zN hz)
   have lg:g<Wr.heap.size:=zL HG2.out
   have HZ:=zd hz
   have hlt':(j:Int)<(C.length:Int):=by omega
   have hC:=fun w' (hw:Ext Wr w')=>mv_del r z gr tv w' (heap_ext (keeps_heap HR2.out HK.out (by simpa using hbg.2.2)) hw)
   clear hz
   rcases hp:delB r z
   ·simp only [hp] at hC
    have HC:=zd hC
    have HP:=zd hp
    clear hC hp
    have hi':(i:Int)<(C.length:Int):=by omega
    go_wp2_with (first|(go_at_call 33;refine (HC.out _ (zR.alloc _)).mono ?_;rintro e w5 ⟨rfl,hx⟩;have hx5:=((Ext.refl Wr).alloc _).trans hx;have hm5:=heap_ext (heap_new (w:=Wr) (o:=.cells z.arr 52) rfl) hx;have hg5:=heap_ext HG2.out hx5;have HX5:=zd hx5;have HG5:=zd hg5;unfold Mv.arr at hm5;have qm:=zQ hm5;have lm:Wr.heap.size<w5.heap.size:=(zL hm5);have lg5:g<w5.heap.size:=(zL hg5);clear hx hx5 hm5 hg5)|((with_reducible refine wpList_store_mid ?_ 52 (.tmp 33) (.tmp 32) ?_ g (i*9) z.arr ?_ ?_ ?_ ?_ ?_ ?_);(·rfl);(·rfl);(·rfl);(·rfl);(·exact there_row HG5.out (by rw [HD.out.sz];show i*9+9≤_;omega));(·exact info_mv9 z);(·simp [Mv.arr,Value.oneCell'])))
    go_roundg (gk - 1)
    case rel=>
     exact ⟨i+1,j+1,_,by go_num,by go_num,by omega,zd (puts_row _ _ _ _ _ HG5.out),zd (HD.out.move HZ.out HP.out hnc),zd ((HK.out.ext HX5.out).put (.inl (.head _)) _ _)⟩
    case measure=>omega
   ·simp only [hp] at hC
    have HC:=zd hC
    have HP:=zd hp
    clear hC hp
    go_wp2_with (go_at_call 33;refine (HC.out _ (zR.alloc _)).mono ?_;rintro e w5 ⟨rfl,hx⟩;have HX5:=zd (((Ext.refl Wr).alloc _).trans hx);clear hx)
    go_roundg (gk - 1)
    case rel=>
     exact ⟨i,j+1,cur,rfl,by go_num,by omega,zd (heap_ext HG2.out HX5.out),zd (HD.out.skip HZ.out HP.out),zd (HK.out.ext HX5.out)⟩
    case measure=>omega
  ·have hge:(C.length:Int)≤(j:Int):=by omega
   have hje:j=C.length:=by omega
   have hlen:=HD.out.len
   rw [hje,List.take_length] at hlen
   have HLN:=zd hlen
   have hil:i<C.length:=by omega
   have hcl:=fun ty=>run_clear_row (P:=Tryz.prog) Wr 48 52 ty _ 9 zu48 Tryz.zeroValue52 rfl (by decide) (by decide) g (i*9) (C.length - i) (cap - i) cur _ HG2.out (by omega) (by rw [HD.out.sz];omega)
   have h1:i<cap:=by omega
   have h2:i≤cap:=by omega
   have h3:i≤C.length:=by omega
   clear hlen hje
   go_wp2_with fail
   go_ret
   have hfl:((C.filter fun m=>!delB r m).flatMap Mv.cs).length=i*9:=by
    have:=has_all_len (C.filter fun m=>!delB r m)
    rw [this,HLN.out]
   have hz:=size_zeroCells (#[Value.int .i64 0,.int .i64 0,.string { data:=#[] },.int .i64 0,.int .i64 0,.int .u64 0,.string { data:=#[] },.bool false,.bool false]) (C.length - i)
   rw [←Array.length_toList] at hz
   have h9:(#[Value.int .i64 0,.int .i64 0,.string { data:=#[] },.int .i64 0,.int .i64 0,.int .u64 0,.string { data:=#[] },.bool false,.bool false]).size=9:=rfl
   rw [h9] at hz
   have hsz:=HD.out.sz
   have htk:cur.toList.take (i*9)=(C.filter fun m=>!delB r m).flatMap Mv.cs:=by
    rw [HLN.out]
    refine has_all ?_
    have hd:=HD.out.done
    rwa [show j=C.length by omega,List.take_length] at hd
   refine ⟨_,rfl,?_,?_⟩
   ·unfold Own9
    rw [←HLN.out]
    refine ⟨hfl,.inr ⟨g,cap,_,rfl,HBG.out.1,setRow_heap Wr g cur _ _ _ HG2.out,by omega,HBG.out.2.1,?_,?_⟩⟩
    ·rw [List.size_toArray,List.length_append,List.length_append,List.length_take,List.length_drop,hz,Array.length_toList]
     omega
    ·show List.take (i*9) (List.take (i*9) cur.toList++_)=_
     rw [List.take_append_of_le_length (by rw [List.length_take,Array.length_toList];omega),List.take_take,Nat.min_self,htk]
   ·have hk:=HK.out
    have hx:=HX.out
    refine but_setRow ⟨hk.os.trans hx.os,hk.tape.trans hx.tape,hk.output.trans hx.output,zT hx.size hk.size,fun k hkl hn=>?_⟩ _
    exact (hk.block k (zU hkl hx.size) (fun hm=>hn (by rw [List.mem_singleton.1 hm]))).trans (hx.block k hkl)
theorem ex_moves (x:Ex) (v:Value) (r:Rg) (tv:Value) (w:World) (B0:Nat) (hO:Own w B0 x.h v) (hn:x.h.length≤1000) (hT:Row w 1 tv r.t.length (r.t.map Value.string)) (hTn:r.t.length≤1000) :
 Calls Tryz.prog 14 #[.agg (x.arr v),.agg (r.arr tv)] w (Made w 52 9 (movesR evsS x r).length ((movesR evsS x r).flatMap Mv.cs)):=by
 have hM:=fun w' (hw:Ext w w')=>mo_moves x v tv r.t w' B0 (hO.ext hw) hn (hT.ext hw) hTn
 rw [movesR_eq]
 have hML:=movesS_len x r.t hTn
 generalize movesS evsS x r.t=C at hM hML ⊢
 have HM:=zd hM
 clear hM hO hT
 go_enter Tryz.func14,Tryz.ntmps14
 go_upto_region 1 with fail
 refine wp_forget (fun w'=>∃ gx gr,gr<w'.heap.size∧ExAt w' gx x v∧RgAt w' gr r tv∧Ext w w'∧gx=w.heap.size∧gr=w.heap.size+1) ⟨_,_,(Array.getElem?_eq_some_iff.1 (two_new zR).2.1).1,(two_new zR).1,(two_new zR).2.1,(two_new zR).2.2,rfl,rfl⟩ ?_
 rintro W1 ⟨gx,gr,lgr,h1,h2,x1,hgx,hgr⟩
 rw [←hgr,←hgx]
 clear hgr hgx
 have HX1:=zd h1
 have HR1:=zd h2
 have HE1:=zd x1
 unfold RgAt Rg.arr at h2
 have q:=zQ h2
 clear h1 h2 x1
 go_wp2_with (first|((with_reducible refine wpList_load_rowG ?_ 33 (.tmp 2) ?_ gx ?_ 33 (x.arr v) (0,0) _ ?_ zu33 ?_ ?_ ?_);(·rfl);(·rfl);(·rfl);(·exact HX1.out);(·rfl);(·exact info_ex))|(go_at_call 32;refine (HM.out _ HE1.out).mono ?_;rintro e w3 ⟨vr,rfl,hv,hx⟩;have HV:=zd hv;have HX3:=zd hx;clear hv hx)|(go_at_call 31;refine (sl_deleteR W1.heap.size C vr r tv gr _ HV.out (HR1.out.ext HX3.out) lgr (by omega)).mono ?_;rintro e w4 ⟨v',rfl,hv',hgr4⟩;have HV4:=zd hv';have HG4:=zd hgr4;clear hv' hgr4))
 go_ret
 refine ⟨_,rfl,own_base HV4.out HE1.out.size,?_⟩
 have hx:=HX3.out
 have hg:=HG4.out
 have h1:=HE1.out
 refine h1.trans ⟨hg.os.trans hx.os,hg.tape.trans hx.tape,hg.output.trans hx.output,zT hx.size hg.size,fun k hk=>(hg.block k (zU hk hx.size) fun he=>?_).trans (hx.block k hk)⟩
 have:=(own_rowB9 HV.out k (by unfold rowB;rw [←he];exact .head _)).1
 omega
end Go.Proofs.YtlnmhocehgmbbaaGreatDoor
namespace Go.Proofs.YtlnmhocehgmbbaaGreatDoor
open Go.RowKit
attribute [local go_sem] ExtOf.cell ExtOf.frozen ExtOf.lt ExtOf.le
attribute [local go_sem high] ExtOf.cell2 ExtOf.frozen2 ExtOf.lt2 ExtOf.cell3 ExtOf.frozen3 ExtOf.lt3
def hexS:ByteArray:={ data:=#[48,49,50,51,52,53,54,55,56,57,97,98,99,100,101,102] }
def btS (c:Int):ByteArray:=
 if c=34∨c=92 then { data:=#[92] } ++ Utf8.encode c
 else if c=10 then { data:=#[92,110] }
 else if 32≤c∧c≤126 then Utf8.encode c
 else { data:=#[92,120] } ++ hexS.extract (c / 16).toNat (c / 16+1).toNat++hexS.extract (c % 16).toNat (c % 16+1).toNat
theorem btS_size (c:Int) (h0:0≤c):(btS c).size≤5:=by
 unfold btS
 have h1:=encode_size_le c
 have hx : ∀ n:Int,0≤n→(hexS.extract n.toNat (n+1).toNat).size≤1:=fun n hn=>by
  rw [ByteArray.size_extract]
  omega
 split
 ·rw [ByteArray.size_append,show ({ data:=#[92] } : ByteArray).size=1 from rfl];omega
 split
 ·rw [show ({ data:=#[92,110] } : ByteArray).size=2 from rfl];omega
 split
 ·omega
 ·rw [ByteArray.size_append,ByteArray.size_append,show ({ data:=#[92,120] } : ByteArray).size=2 from rfl]
  have:=hx (c / 16) (by omega)
  have:=hx (c % 16) (by omega)
  omega
theorem bt_34 (w:World):Calls Tryz.prog 112 #[.int .u8 34] w fun e w'=>e = .returned (.string (btS 34))∧Ext w w':=by
 have hs:=encode_size_le 34
 go_enter Tryz.func112,Tryz.ntmps112
 go_wp2_with fail
 go_ret
 exact ⟨rfl,zR⟩
theorem bt_92 (w:World):Calls Tryz.prog 112 #[.int .u8 92] w fun e w'=>e = .returned (.string (btS 92))∧Ext w w':=by
 have hs:=encode_size_le 92
 go_enter Tryz.func112,Tryz.ntmps112
 go_wp2_with fail
 go_ret
 exact ⟨rfl,zR⟩
theorem bt_10 (w:World):Calls Tryz.prog 112 #[.int .u8 10] w fun e w'=>e = .returned (.string (btS 10))∧Ext w w':=by
 go_enter Tryz.func112,Tryz.ntmps112
 go_wp2_with fail
 go_ret
 exact ⟨rfl,zR⟩
theorem bt_mid (c:Int) (w:World) (h1:32≤c) (h2:c≤126) (h3:(c == 34)=false) (h4:(c == 92)=false) (h5:(c == 10)=false):Calls Tryz.prog 112 #[.int .u8 c] w fun e w'=>e = .returned (.string (Utf8.encode c))∧Ext w w':=by
 go_enter Tryz.func112,Tryz.ntmps112
 go_wp2_with fail
 go_ret
 exact ⟨rfl,zR⟩
def btX (c:Int):ByteArray:={ data:=#[92,120] } ++ hexS.extract (c / 16).toNat (c / 16+1).toNat++hexS.extract (c % 16).toNat (c % 16+1).toNat
theorem bt_hi (c:Int) (w:World) (h1:127≤c) (h2:c≤255) (h3:(c == 34)=false) (h4:(c == 92)=false) (h5:(c == 10)=false):Calls Tryz.prog 112 #[.int .u8 c] w fun e w'=>e = .returned (.string (btX c))∧Ext w w':=by
 have h6:32≤c:=by omega
 have h7 : ¬c≤126:=by omega
 go_enter Tryz.func112,Tryz.ntmps112
 go_wp2_with fail
 refine wp_region_ext (by kernel_rfl) (by kernel_rfl) ?_
 repeat (go_big_quiet_step (fail))
 refine wpQuiet_nil ?_
 intro _ hx'
 obtain ⟨z,rfl⟩:=hx'
 go_wp2_with fail
 go_ret
 exact ⟨rfl,z.ext⟩
theorem bt_lo (c:Int) (w:World) (h1:0≤c) (h2:c<32) (h3:(c == 34)=false) (h4:(c == 92)=false) (h5:(c == 10)=false):Calls Tryz.prog 112 #[.int .u8 c] w fun e w'=>e = .returned (.string (btX c))∧Ext w w':=by
 have h6 : ¬32≤c:=by omega
 go_enter Tryz.func112,Tryz.ntmps112
 go_wp2_with fail
 refine wp_region_ext (by kernel_rfl) (by kernel_rfl) ?_
 repeat (go_big_quiet_step (fail))
 refine wpQuiet_nil ?_
 intro _ hx'
 obtain ⟨z,rfl⟩:=hx'
 go_wp2_with fail
 go_ret
 exact ⟨rfl,z.ext⟩
theorem le_bt (c:Int) (w:World) (h0:0≤c) (h1:c≤255):Calls Tryz.prog 112 #[.int .u8 c] w fun e w'=>e = .returned (.string (btS c))∧Ext w w':=by
 by_cases a1:c=34
 ·subst a1;exact bt_34 w
 by_cases a2:c=92
 ·subst a2;exact bt_92 w
 by_cases a3:c=10
 ·subst a3;exact bt_10 w
 have b1:(c == 34)=false:=by simpa using a1
 have b2:(c == 92)=false:=by simpa using a2
 have b3:(c == 10)=false:=by simpa using a3
 unfold btS
 rw [if_neg (by omega),if_neg a3]
 by_cases a4:32≤c∧c≤126
 ·rw [if_pos a4];exact bt_mid c w a4.1 a4.2 b1 b2 b3
 ·rw [if_neg a4]
  by_cases a5:c<32
  ·exact bt_lo c w h0 a5 b1 b2 b3
  ·exact bt_hi c w (by omega) h1 b1 b2 b3
def TabW (w:World):Prop:=Lib.TabIs Tryz.prog w "internal/strconv.uint64pow10" .u64 Lib.pow10Tab
theorem TabW.keep {w w':World} (h:TabW w) (hk : ∀ k,k<w.heap.size→w'.heap[k]?=w.heap[k]?):TabW w':=by
 unfold TabW Lib.TabIs World.var? at *
 cases hg:Tryz.prog.globalNamed "internal/strconv.uint64pow10" with
 | none=>rw [hg] at h;cases h
 | some g=>
  rw [hg] at h
  simp only [Option.bind_some] at h ⊢
  have hlt:g<w.heap.size:=by
   rcases Nat.lt_or_ge g w.heap.size with h1|h1
   ·exact h1
   ·rw [Array.getElem?_eq_none h1] at h;cases h
  rw [hk g hlt]
  exact h
theorem TabW.ext {w w':World} (h:TabW w) (e:Ext w w'):TabW w':=h.keep fun k hk=>e.block k hk
open Go.Sort in
theorem holds_zero0 (w:World) (T:TypeId) (nd:Nat) (hs:nd≤24):Holds (fun (b:UInt8)=>Value.int .u8 (b.toNat:Int)) (w.alloc (.cells Lib.zeros24 T)) w.heap.size 0 (Array.replicate nd (0:UInt8)):=fun j hj=>by
 have hj':j<nd:=by simpa using hj
 refine ⟨?_,World.frozen?_alloc_new _ _ _ _⟩
 rw [World.cell?_alloc_new,Lib.zeros24_at _ (by omega),getElem!_pos _ j hj]
 simp
open Go.Sort in
theorem iu_fmt (u:Nat) (hu64:u<18446744073709551616) (w:World) (htab:TabW w):Calls Tryz.prog 139 #[.int .u64 u,.int .i64 10] w fun e w'=>e = .returned (.string ⟨(Lib.decDigits u).toArray⟩)∧Ext w w':=by
 by_cases hs:u<100
 ·have hs':(u:Int)<100:=by omega
  have hs2:=zd hs
  go_enter Tryz.func139,Tryz.ntmps139
  go_wp2_with (go_at_call 161;refine (sh_internal_strconv_small u hs2.out _).mono ?_;rintro e w' ⟨rfl,rfl⟩)
  go_ret
  exact ⟨rfl,zR⟩
 ·have hs' : ¬(u:Int)<100:=by omega
  have hu1:1≤u:=by omega
  have hnd20:Lib.nDigits u≤20:=by have:=Lib.numDigits_eq u hu1 hu64;split at this<;>omega
  have hb3:Lib.nDigits u≤24:=by omega
  have hal:Tryz.prog.arrayLen 212=24:=by simp [Program.arrayLen,zu212]
  have hsl1 : ∀ W,(Instr.sliceAt 212 (.pointer (some ⟨w.heap.size,0,none⟩)) none (some (.int .i64 (Lib.nDigits u:Int))) none).run Tryz.prog W = .ok (.slice (some ⟨w.heap.size,0,none⟩) (Lib.nDigits u) 24) W:=fun W=>by
   rw [run_sliceAt_array_h W 212 ⟨w.heap.size,0,none⟩ (by simp [Program.arrayLen,Program.elem,zu212]) .i64 (Lib.nDigits u:Int) (by omega) (by rw [hal];omega)]
   go_simp
  have hH0:=holds_zero0 w 212 (Lib.nDigits u) (by omega)
  have hfmt:=sh_internal_strconv_formatBase10 w.heap.size 0 24 u (Array.replicate (Lib.nDigits u) 0) (w.alloc (.cells Lib.zeros24 212)) hH0 (by rw [Array.size_replicate];exact Lib.lt_pow_nDigits u) hu64 (by rw [Array.size_replicate];omega)
  rw [Array.size_replicate] at hfmt
  have HH0:=zd hH0
  have HT:=zd htab
  have HU1:=zd hu1
  have HU64:=zd hu64
  clear hH0 hal htab hu1 hu64
  go_enter Tryz.func139,Tryz.ntmps139
  go_wp2_with (first
   | (go_at_call 162;refine (sh_internal_strconv_numDigits u HU1.out HU64.out _ (Lib.tabIs_alloc HT.out _)).mono ?_;rintro e w' ⟨rfl,rfl⟩))
  go_at_call 163
  refine hfmt.mono ?_
  rintro e w' ⟨rfl,k,v',dk,rfl,hF⟩
  have hcv:(convert 164 9 (.slice (some ⟨w.heap.size,0,none⟩) (Lib.nDigits u) 24)).run Tryz.prog ((putRow (fun (b:UInt8)=>Value.int .u8 (b.toNat:Int)) (w.alloc (.cells Lib.zeros24 212)) w.heap.size 0 dk).drewN k) = .ok (.string ⟨(Lib.decDigits u).toArray⟩) ((putRow (fun (b:UInt8)=>Value.int .u8 (b.toNat:Int)) (w.alloc (.cells Lib.zeros24 212)) w.heap.size 0 dk).drewN k):=by
   have h:=run_convert_bytes_back (P:=Tryz.prog) ((putRow (fun (b:UInt8)=>Value.int .u8 (b.toNat:Int)) (w.alloc (.cells Lib.zeros24 212)) w.heap.size 0 dk).drewN k) 164 9 5 ⟨w.heap.size,0,none⟩ 24 (Lib.decDigits u) zu164 zu5 zu9 (fun j hj=>by
    rw [Lib.row_is_numeral hF j hj,Lib.add_plain,World.cell?_drewN]
    exact cell?_putRow (fun (b:UInt8)=>Value.int .u8 (b.toNat:Int)) _ w.heap.size 0 _ dk HH0.out (by rw [hF.size,Array.size_replicate]) j (by rw [hF.size];rw [Lib.decDigits_length] at hj;exact hj))
   rw [Lib.decDigits_length] at h
   exact h
  go_wp2
  go_ret
  refine ⟨rfl,?_⟩
  rw [Go.Sort.alloc_eq_grow]
  obtain ⟨os',_,e⟩:=putRow_grow_new (fun (b:UInt8)=>Value.int .u8 (b.toNat:Int)) w #[.cells Lib.zeros24 212] w.heap.size 0 dk zN
  rw [e]
  exact Lib.below_grow w.heap.size w zN k os'
theorem su_fmt (u:Nat) (hu64:u<18446744073709551616) (w:World) (htab:TabW w):Calls Tryz.prog 111 #[.int .u64 u,.int .i64 10] w fun e w'=>e = .returned (.string ⟨(Lib.decDigits u).toArray⟩)∧Ext w w':=by
 have hf:=iu_fmt u hu64 w htab
 have HF:=zd hf
 clear hf htab hu64
 go_enter Tryz.func111,Tryz.ntmps111
 go_wp2_with (go_at_call 139;refine HF.out.mono ?_;rintro e w' ⟨rfl,hx⟩;have HX:=zd hx;clear hx)
 go_ret
 exact ⟨rfl,HX.out⟩
theorem dec_size (u:Nat) (hu64:u<18446744073709551616):(⟨(Lib.decDigits u).toArray⟩:ByteArray).size≤20:=by
 show (Lib.decDigits u).toArray.size≤20
 rw [List.size_toArray,Lib.decDigits_length]
 by_cases h:1≤u
 ·have:=Lib.numDigits_eq u h hu64
  split at this<;>omega
 ·rw [show u=0 by omega,Lib.nDigits_small (by omega)]
  omega
end Go.Proofs.YtlnmhocehgmbbaaGreatDoor
namespace Go.Proofs.YtlnmhocehgmbbaaGreatDoor
open Go.RowKit
attribute [local go_sem ↓] eql_lEq eql_sEq eql_eEq eql_oEq neq_lEq neq_sEq neq_eEq neq_oEq eql_vEq neq_vEq eql_nil
attribute [local go_sem] ExtOf.cell ExtOf.frozen ExtOf.lt ExtOf.le
attribute [local go_sem high] ExtOf.cell2 ExtOf.frozen2 ExtOf.lt2 ExtOf.cell3 ExtOf.frozen3 ExtOf.lt3
def frK (k:Int):Bool:=k == 1 || k == 2 || k == 4
def txK (k:Int):Bool:=k == 1 || k == 2 || k == 4 || k == 6
def fkK (k:Int):Bool:=k == 1 || k == 4
def wdK (k:Int):ByteArray:=if k=1 then { data:=#[112,114,111,109,105,115,101] } else if k=2 then { data:=#[115,105,103,110] } else if k=3 then { data:=#[97,98,111,114,116] } else if k=4 then { data:=#[114,101,115,111,108,118,101] } else if k=5 then { data:=#[116,111,107,101,110] } else if k=6 then { data:=#[105,110,115,116,101,97,100] } else { data:=#[102,117,108,108] }
theorem idxK (k:Int) (h1:1≤k) (h7:k≤7) (w:World):(Instr.index 161 (.agg kindsC) (.int .i64 k)).run Tryz.prog w = .ok (.agg #[.bool (frK k),.bool (txK k),.bool (fkK k),.string (wdK k)]) w:=by
 obtain rfl|rfl|rfl|rfl|rfl|rfl|rfl:k=1∨k=2∨k=3∨k=4∨k=5∨k=6∨k=7:=by omega
 ·exact idx1 w
 ·exact idx2 w
 ·exact idx3 w
 ·exact idx4 w
 ·exact idx5 w
 ·exact idx6 w
 ·exact idx7 w
theorem wdK_size (k:Int):(wdK k).size≤100:=by
 unfold wdK
 repeat' split
 all_goals decide
def preL (k:Int) (b:Bool) (f c:Nat):List UInt8:=(wdK k).data.toList++(if b=true then [33] else [])++(if frK k=true then 32::Lib.decDigits f else [])++(32::Lib.decDigits c)
def txtL (l:List UInt8):List UInt8:=l.flatMap fun b=>(btS (b.toNat:Int)).data.toList
def lnS (k:Int) (b:Bool) (f c:Nat) (t:ByteArray):ByteArray:=⟨(preL k b f c++(if txK k=true then [32,34]++txtL t.data.toList++[34] else [])).toArray⟩
def lineS (l:Lt):ByteArray:=if lchk l=0 then lnS l.k l.b l.f.toNat l.c.toNat l.t else { data:=#[] }
def Bld (gb N:Nat) (L:List UInt8) (w:World):Prop:=Lib.IsBuilder 166 5 gb gb (Lib.byteCells L) w∧L.length≤N
theorem Bld.lt {gb N:Nat} {L:List UInt8} {w:World} (h:Bld gb N L w):gb<w.heap.size:=h.1.elim (·.lt) (·.lt)
theorem bat_ext {gb:Nat} {p:Value} {bs:List Value} {w w':World} (h:Lib.BuilderAt 166 5 gb gb p bs w) (e:Ext w w'):Lib.BuilderAt 166 5 gb gb p bs w':=by
 obtain ⟨h1,v,h2,h3,h4⟩:=h
 exact ⟨h1,v,heap_ext h2 e,own_ext h3 e,h4⟩
theorem Bld.ext {gb N:Nat} {L:List UInt8} {w w':World} (h:Bld gb N L w) (e:Ext w w'):Bld gb N L w':=⟨h.1.imp (bat_ext · e) (bat_ext · e),h.2⟩
section
variable {W2:World}
def WrP (W2:World) (v:Value) (N:Nat) (L:List UInt8) (e:Ending) (w':World):Prop:=∃ z:ExtOf W2,w'=z.val∧e = .returned v∧Hid (Bld W2.heap.size N L z.val)
theorem wr_str (N m:Nat) (L:List UInt8) (s:ByteArray) (y:ExtOf W2) (h:Hid (Bld W2.heap.size N L y.val)) (hs:s.size≤m) (hN:N+m≤100000) :
 Calls Tryz.prog 108 #[.pointer (some ⟨W2.heap.size,0,none⟩),.string s] y.val (WrP W2 (.tuple #[.int .i64 s.size,.nilIface]) (N+m) (L++s.data.toList)):=by
 have h0:=h.out
 refine (sh_Builder_WriteString W2.heap.size W2.heap.size _ s y.val h0.1 (by rw [Lib.byteCells_length];have:=h0.2;omega) y.ext.size).mono ?_
 rintro e w' ⟨rfl,hb,hx⟩
 refine ⟨⟨w',Below.trans y.ext hx⟩,rfl,rfl,zd ⟨.inr ?_,?_⟩⟩
 ·rw [Lib.byteCells_append];exact hb
 ·rw [List.length_append]
  have h1:=h0.2
  have h2:s.data.toList.length=s.size:=by rw [Array.length_toList];rfl
  omega
theorem wr_byte (N:Nat) (L:List UInt8) (c:UInt8) (c':Int) (hc:c'=(c.toNat:Int)) (y:ExtOf W2) (h:Hid (Bld W2.heap.size N L y.val)) (hN:N+1≤100000) :
 Calls Tryz.prog 109 #[.pointer (some ⟨W2.heap.size,0,none⟩),.int .u8 c'] y.val (WrP W2 .nilIface (N+1) (L++[c])):=by
 have h0:=h.out
 subst hc
 refine (sh_Builder_WriteByte W2.heap.size W2.heap.size _ _ y.val h0.1 (by rw [Lib.byteCells_length];have:=h0.2;omega) y.ext.size).mono ?_
 rintro e w' ⟨rfl,hb,hx⟩
 refine ⟨⟨w',Below.trans y.ext hx⟩,rfl,rfl,zd ⟨.inr ?_,?_⟩⟩
 ·rw [Lib.byteCells_append];exact hb
 ·rw [List.length_append]
  have h1:=h0.2
  simp only [List.length_cons,List.length_nil]
  omega
theorem wr_num (N:Nat) (L:List UInt8) (u:Nat) (hu:u<18446744073709551616) (y:ExtOf W2) (h:Hid (Bld W2.heap.size N L y.val)) (hT:Hid (TabW W2)) :
 Calls Tryz.prog 111 #[.int .u64 u,.int .i64 10] y.val (WrP W2 (.string ⟨(Lib.decDigits u).toArray⟩) N L):=by
 refine (su_fmt u hu y.val (hT.out.ext y.ext)).mono ?_
 rintro e w' ⟨rfl,hx⟩
 exact ⟨⟨w',y.ext.trans hx⟩,rfl,rfl,zd (h.out.ext hx)⟩
theorem wr_bt (N:Nat) (L:List UInt8) (c:Int) (h0:0≤c) (h1:c≤255) (y:ExtOf W2) (h:Hid (Bld W2.heap.size N L y.val)) :
 Calls Tryz.prog 112 #[.int .u8 c] y.val (WrP W2 (.string (btS c)) N L):=by
 refine (le_bt c y.val h0 h1).mono ?_
 rintro e w' ⟨rfl,hx⟩
 exact ⟨⟨w',y.ext.trans hx⟩,rfl,rfl,zd (h.out.ext hx)⟩
theorem wr_end (N:Nat) (L:List UInt8) (y:ExtOf W2) (h:Hid (Bld W2.heap.size N L y.val)) :
 Calls Tryz.prog 113 #[.pointer (some ⟨W2.heap.size,0,none⟩)] y.val fun e w'=>e = .returned (.string ⟨L.toArray⟩)∧∃ z:ExtOf W2,w'=z.val:=by
 refine (sh_Builder_String_any W2.heap.size W2.heap.size L y.val h.out.1 y.ext.size).mono ?_
 rintro e w' ⟨rfl,hx⟩
 exact ⟨rfl,⟨w',Below.trans y.ext hx⟩,rfl⟩
end
theorem cat32 (l:List UInt8):(({ data:=#[32] } : ByteArray)++⟨l.toArray⟩).data.toList=32::l:=by simp
theorem dec_len (u:Nat) (hu64:u<18446744073709551616):(Lib.decDigits u).length≤20:=by
 have:=dec_size u hu64
 rw [show (⟨(Lib.decDigits u).toArray⟩:ByteArray).size=(Lib.decDigits u).toArray.size from rfl,List.size_toArray] at this
 exact this
theorem cat32_size (l:List UInt8) (h:l.length≤20):(({ data:=#[32] } : ByteArray)++⟨l.toArray⟩).size≤100:=by
 rw [ByteArray.size_append]
 show 1+l.toArray.size≤100
 rw [List.size_toArray]
 omega
theorem pr_no (l:Lt) (w:World) (h:lchk l≠0):Calls Tryz.prog 78 #[.agg #[.int .i64 l.k,.int .i64 l.f,.int .u64 l.c,.string l.t,.bool l.b]] w fun e w'=>e = .returned (.string (lineS l))∧Ext w w':=by
 have hne:(lchk l != 0)=true:=by simpa using h
 have HL:Hid (lineS l = { data:=#[] }):=zd (by unfold lineS;rw [if_neg h])
 clear h
 go_enter Tryz.func78,Tryz.ntmps78
 go_wp2_with (go_at_call 89;refine (le_check l _).mono ?_;rintro e w2 ⟨rfl,hx⟩;have HX:=zd hx;clear hx)
 go_ret
 exact ⟨by rw [HL.out];rfl,(zR.alloc _).trans HX.out⟩
theorem pr_ok (k:Int) (fn cn:Nat) (t:ByteArray) (b:Bool) (w:World) (hl:lchk ⟨k,fn,cn,t,b⟩=0) (hc:cn<18446744073709551616) (hT:TabW w) :
 Calls Tryz.prog 78 #[.agg #[.int .i64 k,.int .i64 fn,.int .u64 cn,.string t,.bool b]] w fun e w'=>e = .returned (.string (lnS k b fn cn t))∧Ext w w':=by
 have hsz:=lchk_size hl
 simp only at hsz
 have hchk:=fun w=>le_check ⟨k,fn,cn,t,b⟩ w
 simp only [hl] at hchk
 have HCH:=zd hchk
 have HT:=zd hT
 have HF:Hid (fn<100):=zd (by omega)
 have HC:=zd hc
 have HS:Hid (t.size≤64):=zd hsz.1
 have HK:Hid (1≤k∧k≤7):=zd ⟨hsz.2.2.1,hsz.2.2.2.1⟩
 have hkd:=le_kinds
 unfold kindsC at hkd
 have hix:=idxK k HK.out.1 HK.out.2
 unfold kindsC at hix
 have HKD:=zd hkd
 clear hkd hchk hT hl hsz hc
 go_enter Tryz.func78,Tryz.ntmps78
 go_upto_region 3 with (go_at_call 89;refine (HCH.out _).mono ?_;rintro e w2 ⟨rfl,hx⟩;have h1:=heap_ext (heap_new (w:=w) rfl) hx;have HX:=zd (((Ext.refl w).alloc _).trans hx);have H1:=zd h1;clear hx h1)
 have c1:=zQ H1.out
 have l1:w.heap.size<w2.heap.size:=zL H1.out
 refine wp_region_mixF (af:=?af) #[.bool false,.bool false,.bool false,.string { data:=#[] }] 160 [true,true,true,true,false,false] [false,false,false,false,false,false] 49 0 (C:=Ext w2) (by kernel_rfl) rfl (by kernel_rfl) (fun _ _ h e=>Ext.trans h e) zR.drew ?q ?r
 case q=>
  intro w' hw'
  obtain ⟨y,rfl⟩:=ext_of hw'
  simp only [pickT,if_true,if_false,Bool.false_eq_true]
  repeat (go_big_quiet_step ((go_at_call 107;exact calls_ext (HKD.out _))))
  exact rfl
 case r=>
  simp only [restL,if_true,if_false,Bool.false_eq_true]
  refine ⟨fun a w=>by simp [go_sem],?_⟩
  intro x1 gT hgT hzT
  intro x3
  go_wp2_with (refine wpList_store_row rfl 160 _ _ rfl gT _ rfl rfl 160 _ (heap_ext hzT x3.ext) info_kind rfl (by simp [Value.oneCell']) ?_)
  refine ⟨(((Ext.refl w2).drew.val x1).val x3).setRow hgT _,?_⟩
  intro x2
  have e1:x2.val.heap[gT]?=some (.cells #[.bool (frK k),.bool (txK k),.bool (fkK k),.string (wdK k)] 160 (0,0)):=heap_ext (setRow_heap _ _ _ _ _ _ (heap_ext hzT x3.ext)) x2.ext
  have eX:Ext w2 x2.val:=(((Ext.refl w2).drew.val x1).val x3).setRow hgT _ |>.val x2
  have e2:=heap_ext H1.out eX
  have EX:=zd (HX.out.trans eX)
  generalize x2.val=W2 at e1 e2 EX ⊢
  clear eX x2 hzT x3 x1 c1 l1 H1 HKD hix HCH HX
  have c1:=zQ e1
  have c2:=zQ e2
  have l1:gT<W2.heap.size:=zL e1
  have l2:w.heap.size<W2.heap.size:=zL e2
  clear e1 e2
  have HTW:Hid (TabW W2):=zd (HT.out.ext EX.out)
  clear hgT
  go_upto_region 5 with fail
  refine wp_forget (fun w'=>∃ y0:ExtOf W2,w'=y0.val∧Hid (Bld W2.heap.size 0 [] y0.val)) ⟨⟨_,zR.alloc _⟩,rfl,zd ⟨Lib.fresh_isBuilder 166 5 W2,by simp⟩⟩ ?_
  rintro _ ⟨y0,rfl,hb⟩
  have hs1:=wdK_size k
  have hs4:=dec_len fn (by have:=HF.out;omega)
  have hs5:=dec_len cn HC.out
  have hs2:=cat32_size (Lib.decDigits fn) hs4
  have hs3:=cat32_size (Lib.decDigits cn) hs5
  obtain ⟨bb,hbb⟩ : ∃ bb,bb=b:=⟨_,rfl⟩
  have HBB:=zd hbb
  clear hbb
  rcases htx:txK k
  ·rcases b<;>rcases hfr:frK k
   all_goals
    have HE:Hid (frK k=_):=zd hfr
    have HT2:Hid (txK k=_):=zd htx
    rw [hfr,htx] at c1
    clear hfr htx
    go_wp2_with (first|(go_at_call 108;refine (wr_str _ 100 _ _ _ (by assumption) (by first|assumption|decide) (by decide)).mono ?_;rintro e _ ⟨z,rfl,rfl,hb⟩)|(go_at_call 109;refine (wr_byte _ _ 33 33 rfl _ (by assumption) (by decide)).mono ?_;rintro e _ ⟨z,rfl,rfl,hb⟩)|(go_at_call 110;refine (sh_strconv_Itoa_small fn HF.out _).mono ?_;rintro e w' ⟨rfl,rfl⟩)|(go_at_call 111;refine (wr_num _ _ cn HC.out _ (by assumption) HTW).mono ?_;rintro e _ ⟨z,rfl,rfl,hb⟩)|(go_at_call 113;refine (wr_end _ _ _ (by assumption)).mono ?_;rintro e _ ⟨rfl,z9,rfl⟩))
    go_ret
    exact ⟨by unfold lnS;rw [if_neg (by rw [HT2.out];simp)];simp [preL,HE.out,cat32],EX.out.val z9⟩
  ·rcases b<;>rcases hfr:frK k
   all_goals
    have HE:Hid (frK k=_):=zd hfr
    have HT2:Hid (txK k=_):=zd htx
    rw [hfr,htx] at c1
    clear hfr htx
    go_upto_region 12 with (first|(go_at_call 108;refine (wr_str _ 100 _ _ _ (by assumption) (by first|assumption|decide) (by decide)).mono ?_;rintro e _ ⟨z,rfl,rfl,hb⟩)|(go_at_call 109;refine (wr_byte _ _ 33 33 rfl _ (by assumption) (by decide)).mono ?_;rintro e _ ⟨z,rfl,rfl,hb⟩)|(go_at_call 110;refine (sh_strconv_Itoa_small fn HF.out _).mono ?_;rintro e w' ⟨rfl,rfl⟩)|(go_at_call 111;refine (wr_num _ _ cn HC.out _ (by assumption) HTW).mono ?_;rintro e _ ⟨z,rfl,rfl,hb⟩)|(go_at_call 113;refine (wr_end _ _ _ (by assumption)).mono ?_;rintro e _ ⟨rfl,z9,rfl⟩))
    go_upto_region 14 with (go_at_call 108;refine (wr_str _ 100 _ _ _ (by assumption) (by first|assumption|decide) (by decide)).mono ?_;rintro e _ ⟨z5,rfl,rfl,hb5⟩)
    obtain ⟨N5,L5,hN5,HL5,HB5⟩ : ∃ N5 L5,N5≤1000∧Hid (L5=preL k bb fn cn++[32,34])∧Hid (Bld W2.heap.size N5 L5 z5.val):=⟨_,_,by decide,zd (by rw [HBB.out];simp [preL,HE.out,cat32]),hb5⟩
    clear hs1 hs2 hs3 hs4 hs5
    go_loopg [37] t.size (fun g ii wr=>∃ (n:Nat) (z:ExtOf W2),ii = .int .i64 (n:Int)∧n+g=t.size∧wr=z.val∧Hid (Bld W2.heap.size (1000+5*n) (L5++txtL (t.data.toList.take n)) z.val))
    case atStart=>exact ⟨0,z5,rfl,by omega,rfl,zd ⟨by simpa [txtL] using HB5.out.1,by have:=HB5.out.2;simp [txtL];omega⟩⟩
    case round=>
     obtain ⟨n,z,rfl,hg,rfl,HB⟩:=hrel
     by_cases hlt:n<t.size
     ·have hlt':(n:Int)<(t.size:Int):=by omega
      have hb8:(t[n]).toNat<256:=UInt8.toNat_lt _
      have hsb:=btS_size ((t[n]).toNat:Int) (by omega)
      have ht64:=HS.out
      go_wp2_with (first|(go_at_call 112;refine (wr_bt _ _ _ (by omega) (by omega) _ (by assumption)).mono ?_;rintro e _ ⟨z,rfl,rfl,hb⟩)|(go_at_call 108;refine (wr_str _ 5 _ _ _ (by assumption) (by assumption) (by omega)).mono ?_;rintro e _ ⟨z6,rfl,rfl,hb6⟩))
      go_roundg (gk - 1)
      case rel=>
       refine ⟨n+1,z6,rfl,by omega,rfl,zd ?_⟩
       have e1:t.data.toList.take (n+1)=t.data.toList.take n++[t[n]]:=by
        rw [List.take_succ_eq_append_getElem (by simpa using hlt)];rfl
       have h6:=hb6.out
       rw [e1,txtL,List.flatMap_append,←List.append_assoc,←txtL]
       rw [show 1000+5*(n+1)=1000+5*n+5 by omega]
       simpa using h6
      case measure=>omega
     ·have hge:(t.size:Int)≤(n:Int):=by omega
      have ht64:=HS.out
      go_wp2_with (first|(go_at_call 109;refine (wr_byte _ _ 34 34 rfl _ (by assumption) (by omega)).mono ?_;rintro e _ ⟨z,rfl,rfl,hb⟩)|(go_at_call 113;refine (wr_end _ _ _ (by assumption)).mono ?_;rintro e _ ⟨rfl,z9,rfl⟩))
      go_ret
      refine ⟨?_,EX.out.val z9⟩
      unfold lnS
      rw [if_pos HT2.out,HL5.out,HBB.out,List.take_of_length_le (by rw [Array.length_toList];show t.size≤n;omega)]
      simp
def U64 (c:Int):Prop:=0≤c∧c<18446744073709551616
theorem le_print (l:Lt) (w:World) (hc:U64 l.c) (hT:TabW w):Calls Tryz.prog 78 #[.agg #[.int .i64 l.k,.int .i64 l.f,.int .u64 l.c,.string l.t,.bool l.b]] w fun e w'=>e = .returned (.string (lineS l))∧Ext w w':=by
 by_cases h:lchk l=0
 ·obtain ⟨k,f,c,t,b⟩:=l
  have hf:=(lchk_size h).2.1
  simp only [U64] at hf hc ⊢
  obtain ⟨fn,rfl⟩ : ∃ fn:Nat,f=(fn:Int):=⟨f.toNat,by omega⟩
  obtain ⟨cn,rfl⟩ : ∃ cn:Nat,c=(cn:Int):=⟨c.toNat,by omega⟩
  have e:lineS ⟨k,fn,cn,t,b⟩=lnS k b fn cn t:=by unfold lineS;rw [if_pos h];simp
  rw [e]
  exact pr_ok k fn cn t b w h (by omega) hT
 ·exact pr_no l w h
theorem txtL_len : ∀ l:List UInt8,(txtL l).length≤5*l.length
 | []=>by simp [txtL]
 | b::l=>by
  have h1:=txtL_len l
  have h2:=btS_size (b.toNat:Int) (by omega)
  have h3:(btS (b.toNat:Int)).data.toList.length=(btS (b.toNat:Int)).size:=by rw [Array.length_toList];rfl
  unfold txtL at h1 ⊢
  rw [List.flatMap_cons,List.length_append,List.length_cons]
  omega
theorem lineS_size (l:Lt) (hc:U64 l.c):(lineS l).data.toList.length≤600:=by
 unfold lineS
 by_cases h:lchk l=0
 ·rw [if_pos h]
  have hl:=lchk_size h
  unfold lnS preL
  simp only [U64] at hc
  have h1:=wdK_size l.k
  have h2:(wdK l.k).data.toList.length=(wdK l.k).size:=by rw [Array.length_toList];rfl
  have h3:=dec_len l.f.toNat (by have:=hl.2.1;omega)
  have h4:=dec_len l.c.toNat (by omega)
  have h5:=txtL_len l.t.data.toList
  have h6:l.t.data.toList.length=l.t.size:=by rw [Array.length_toList];rfl
  have h7:=hl.1
  simp only [List.length_append,List.length_cons,List.length_nil]
  have h8 : ∀ (p:Bool) (a:List UInt8),(if p=true then a else []).length≤a.length:=fun p a=>by cases p<;>simp
  have h9:=h8 l.b [33]
  have h10:=h8 (frK l.k) (32::Lib.decDigits l.f.toNat)
  have h11:=h8 (txK l.k) ([32,34]++txtL l.t.data.toList++[34])
  simp only [List.length_append,List.length_cons,List.length_nil] at h9 h10 h11
  omega
 ·rw [if_neg h];simp
end Go.Proofs.YtlnmhocehgmbbaaGreatDoor

/- No condition. -/
import Derived.Test.YtlnmhocehgmbbaaGreatDoorWY20
import Derived.Deep.CutRange
set_option linter.all false
set_option maxRecDepth 100000
set_option maxHeartbeats 6400000
namespace Go.Proofs.YtlnmhocehgmbbaaGreatDoor
open Go.RowKit
attribute [local go_sem ↓] eql_lEq eql_sEq eql_eEq eql_oEq neq_lEq neq_sEq neq_eEq neq_oEq eql_vEq neq_vEq eql_nil
attribute [local go_sem] ExtOf.cell ExtOf.frozen ExtOf.lt ExtOf.le
attribute [local go_sem high] ExtOf.cell2 ExtOf.frozen2 ExtOf.lt2 ExtOf.cell3 ExtOf.frozen3 ExtOf.lt3
def mostR (r:Rg):Nat:=(min (max r.m 1) 20000).toNat
def OkF (n:Nat) (x:Ex):Prop:=RngX x∧x.h.length≤n
def FHL (b:Nat) (w:World) (p:Fd×Value):Prop:=∃ B : {n // b≤n},Own w B.1 p.1.x.h p.2
theorem FH.lo {w:World} {p:Fd×Value} {b:Nat} (h:FH w p) (hl : ∀ g∈rowB p.2,b≤g):FHL b w p:=by
 obtain ⟨B,o1,o2⟩:=h
 refine ⟨⟨b,Nat.le_refl _⟩,o1,o2.imp id ?_⟩
 rintro ⟨g,cap,cur,hv,hb,r⟩
 exact ⟨g,cap,cur,hv,hl g (by rw [hv];simp [rowB,Value.ownBlock]),r⟩
def GoP (w:World) (R:List Fd×Int×Bool) (e:Ending) (w':World):Prop:=
 ∃ (L:List (Fd×Value)) (lv:Value),L.map (·.1)=R.1∧e = .returned (.tuple #[lv,.int .i64 R.2.1,.bool R.2.2])∧FRow w' w.heap.size L lv∧(∀ p∈L,FHL w.heap.size w' p∧OkF 300 p.1.x)∧Ext w w'
theorem info_range:(Tryz.prog.info? 36).map (·.size)=some 4:=by kernel_rfl
theorem own9_exts {w w':World} {L:List Mv} {v:Value} (h : ∃ B,Own9 w B L v) (e:Ext w w') : ∃ B,Own9 w' B L v:=h.imp fun _ o=>o.ext e
theorem key_one (x:Ex):(keyArr x).all (·.oneCell')=true:=by
 simp [keyArr,Value.oneCell']
theorem look_ints {w:World} {gm:Nat} {S:List (Ky×Value)} (h:MapH kyV gm S w) (k:Ky):(Instr.lookup 109 (.map (some gm)) (kyV k) false).run Tryz.prog w = .ok ((getM S k).getD (.slice none 0 0)) w:=by
 rw [run_lookupG keys_ky zu109 zero_ints h.g k false]
 unfold lookG
 cases getM S k<;>rfl
theorem GoAt.ints {wS:World} {gl gm gr:Nat} {r:Rg} {tv:Value} {L:List (Fd×Value)} {lv:Value} {S:List (Ky×Value)} {N:Ky→List Nat} {w:World} (h:GoAt wS gl gm gr r tv L lv S N w) (k:Ky):Row w 1 ((getM S k).getD (.slice none 0 0)) (N k).length (intsC (N k)):=by
 have:=h.im k
 cases hk:getM S k with
 | none=>
  rw [hk] at this
  simp only at this
  rw [this]
  exact ⟨rfl,.inl ⟨rfl,none,0,rfl⟩⟩
 | some v=>rw [hk] at this;exact Row.of_own this
theorem keeps_setB {w:World} {b:Nat} {ob:Obj} : Keeps [b] w (setB w b ob):=⟨rfl,rfl,rfl,by simp [setB],fun k _ hx=>setB_other (by simpa using hx)⟩
section
variable {wS:World} {gl gm gr:Nat} {r:Rg} {tv:Value} {L:List (Fd×Value)} {lv:Value} {S:List (Ky×Value)} {N:Ky→List Nat} {w:World}
theorem GoAt.gm_not (h:GoAt wS gl gm gr r tv L lv S N w) (k:Ky):gm∉rowB ((getM S k).getD (.slice none 0 0)):=by
 have:=h.im k
 cases hk:getM S k with
 | none=>simp [rowB,Value.ownBlock]
 | some v=>
  rw [hk] at this
  intro hm
  obtain ⟨cur,hc⟩:=row_tag this hm
  exact h.nmap hc rfl
theorem GoAt.int_own (h:GoAt wS gl gm gr r tv L lv S N w) (k:Ky) (ob:Obj):(setB w gm ob).ownsRow wS.heap.size 3 1 ((getM S k).getD (.slice none 0 0)) (N k).length (intsC (N k)):=by
 have hn:=h.gm_not k
 have:=h.im k
 cases hk:getM S k with
 | none=>
  rw [hk] at this
  simp only at this
  rw [this]
  exact World.ownsRow_nil _ _ _ _
 | some v=>
  rw [hk] at this hn
  exact own_at this fun b hb=>setB_other fun e=>hn (e ▸ hb)
theorem GoAt.gm_kept (h:GoAt wS gl gm gr r tv L lv S N w) {k:Ky} {ob:Obj} {w3:World} (g3:(setB w gm ob).grownBy w3 ((getM S k).getD (.slice none 0 0)).ownBlock):w3.heap[gm]?=some ob:=
 kept_grown (setB_same h.mp.lt) g3 (h.gm_not k)
end
theorem info_intI:(Tryz.prog.info? 3).map (fun i=>(i.zero,i.size,i.bytes))=some (some (.int .i64 0),1,8):=by kernel_rfl
def fdZ:Value:=.agg #[.int .u64 0,.int .i64 0,.int .u64 0,.string { data:=#[] },.int .i64 0,.int .i64 0,.int .i64 0,.int .u64 0,.string { data:=#[] },.bool false,.int .i64 0,.int .u64 0,.string { data:=#[] },.int .i64 0,.int .i64 0,.int .i64 0,.int .u64 0,.string { data:=#[] },.bool false,.int .u64 0,.int .i64 0,.string { data:=#[] },.bool false,.bool false,.bool false,.slice none 0 0,
 .int .i64 0,.int .i64 0,.int .i64 0,.string { data:=#[] },.int .i64 0,.int .i64 0,.int .u64 0,.string { data:=#[] },.bool false,.bool false]
theorem info_foundZ:(Tryz.prog.info? 88).map (fun i=>(i.zero,i.size,i.bytes))=some (some fdZ,36,344):=by kernel_rfl
theorem fv_one (p:Fd×Value) (h:p.2.oneCell'=true) : ∀ u∈fvC p,u.oneCell'=true:=by
 intro u hu
 simp [fvC,Ex.arr,Mv.cs] at hu
 rcases hu with h1|h1|h1|h1|h1|h1|h1|h1|h1|h1|h1|h1|h1|h1|h1|h1|h1|h1|h1|h1|h1|h1|h1|h1|h1|h1|h1|h1|h1|h1|h1|h1|h1|h1|h1|h1
 all_goals (subst h1;first|rfl|exact h)
theorem ints_one (I:List Nat) (n:Nat):intsC (I++[n])=intsC I++[.int .i64 (n:Int)]:=by simp [intsC]
theorem frow_one {w:World} {B:Nat} {L:List (Fd×Value)} {p:Fd×Value} {v:Value} {n:Nat} {xs:List Value} (h:w.ownsRow B 88 36 v n xs) (hn:n=L.length+1) (hx:xs=L.flatMap fvC++fvC p):FRow w B (L++[p]) v:=by
 subst hn hx
 unfold FRow
 rw [List.length_append,List.flatMap_append]
 simpa using h
theorem own_sl {w:World} {B:Nat} {e:TypeId} {size n:Nat} {v:Value} {xs:List Value} (h:w.ownsRow B e size v n xs) : ∃ a cap,v = .slice a n cap:=by
 rcases h.2 with ⟨h1,h2⟩|⟨g,cap,cur,h1,_⟩
 ·exact ⟨none,0,by rw [h1,h2]⟩
 ·exact ⟨_,_,h1⟩
def AskG (stop:Ex→Bool) (fid:FuncId) (cap:Array Value) (w:World):Prop:=
 (∀ (args:Array Value) (w:World),(callFunc fid args).run Tryz.prog w = .ok (.enter fid args) w)∧∀ (x:Ex) (v:Value) (w':World),Ext w w'→Hrd w' x v→x.h.length≤300→Calls Tryz.prog fid (#[.agg (x.arr v)]++cap) w' fun e w''=>e = .returned (.bool (stop x))∧Ext w' w''
theorem go_gen (stop:Ex→Bool) (fid:FuncId) (cap:Array Value) (x:Ex) (v:Value) (B0:Nat) (r:Rg) (tv:Value) (w:World) (hst:AskG stop fid cap w) (hO:Own w B0 x.h v) (hn:x.h.length≤100) (hT:Row w 1 tv r.t.length (r.t.map Value.string)) (hTn:r.t.length≤1000) (hm:r.m≤100) (hx:RngX x) (htab:TabW w) :
 Calls Tryz.prog 28 #[.agg (x.arr v),.agg (r.arr tv),.func (.func fid) #[] cap] w (GoP w (goG (mostR r) stop (movesR evsS · r) x)):=by
 have HST:=zd hst
 have HO:=zd hO
 have HT:=zd hT
 have HX:=zd hx
 have HTAB:=zd htab
 obtain ⟨R,hR⟩ : ∃ R,R=goG (mostR r) stop (movesR evsS · r) x:=⟨_,rfl⟩
 rw [←hR]
 have HR:=zd hR
 obtain ⟨most,hmost⟩ : ∃ most,mostR r=most:=⟨_,rfl⟩
 have HMO:=zd hmost
 have hm1:min (max r.m 1) 20000=(most:Int):=by
  rw [←hmost]
  unfold mostR
  omega
 have hml:1≤most∧most≤100:=by omega
 have HML:=zd hml
 have HM1:=zd hm1
 clear hst hO hT hx htab hR hmost hm1 hml
 go_enter Tryz.func28,Tryz.ntmps28
 go_upto_region 1 with fail
 refine wp_forget (fun w'=>∃ gx gr,gx=w.heap.size∧gr=w.heap.size+1∧ExAt w' gx x v∧RgAt w' gr r tv∧Ext w w') ⟨_,_,rfl,rfl,(two_new zR).1,(two_new zR).2.1,(two_new zR).2.2⟩ ?_
 rintro W1 ⟨gx,gr,hgx,hgr,h1,h2,x1⟩
 rw [←hgr,←hgx]
 have HGX:Hid (w.heap.size≤gx∧w.heap.size≤gr∧gx≠gr):=zd (by omega)
 clear hgr hgx
 have HX1:=zd h1
 have HR1:=zd h2
 have HE1:=zd x1
 unfold RgAt Rg.arr at h2
 have qr3:=zQ h2 3
 have lr1:gr<W1.heap.size:=zL h2
 clear h1 h2 x1
 have hm1:=HM1.out
 go_upto_region 2 with fail
 clear hm1 HM1
 have hxa:=HX1.out
 unfold ExAt Ex.arr at hxa
 have q25:=zQ hxa 25
 have lx1:gx<W1.heap.size:=zL hxa
 clear hxa qr3
 go_upto_region 3 with (go_at_call 51;refine (sl_clone _ B0 x.h _ (HO.out.ext HE1.out) (by omega)).mono ?_;rintro e w2 ⟨v1,rfl,hv1,hx2⟩;have HV1:Hid (Own w2 W1.heap.size x.h v1):=zd hv1;have HX2:=zd hx2;have hxb:=heap_ext HX1.out hx2;have HXB:=zd hxb;unfold Ex.arr at hxb;have qb:=zQ hxb 25;have fb:=zF hxb 25;have lxb:gx<w2.heap.size:=(zL hxb);have hone:v1.oneCell'=true:=Own.one hv1;obtain ⟨va,vn,vc,rfl⟩:=own_slice hv1;clear hv1 hx2 hxb)
 refine wp_forget (fun w'=>∃ v2,Hid (v2=Value.slice va vn vc)∧Hid (ExAt w' gx x v2∧RgAt w' gr r tv∧Own w' W1.heap.size x.h v2∧Ext w w')) ⟨_,zd rfl,zd ⟨?f1,?f2,?f3,?f4⟩⟩ ?_
 case f1=>
  have:=heap_setCell_same _ _ 25 _ _ (Value.slice va vn vc) HXB.out
  exact this
 case f2=>exact (cell_other (by have:=HGX.out.2.2;exact this.symm)).trans (HR1.out.ext HX2.out)
 case f3=>exact own_same HV1.out fun k hk _=>cell_other (by have h1:gx<W1.heap.size:=(zL HX1.out);omega)
 case f4=>exact (HE1.out.trans HX2.out).setCell (by exact HGX.out.1) _
 have HW1s:=zd HE1.out.size
 clear q25 lx1 lr1 HX1 HR1 HE1 HV1 HX2 HXB qb fb lxb hone
 rintro W2 ⟨v2,HV2,HW2⟩
 go_upto_region 4 with (((with_reducible refine wpList_load_rowG ?_ 33 (.tmp 3) ?_ gx ?_ 33 #[.int .u64 x.c,.int .i64 x.s0.r,.int .u64 x.s0.c,.string x.s0.t,.int .i64 x.s0.ph,.int .i64 x.s0.p.k,.int .i64 x.s0.p.f,.int .u64 x.s0.p.c,.string x.s0.p.t,.bool x.s0.p.b,.int .i64 x.s1.r,.int .u64 x.s1.c,.string x.s1.t,.int .i64 x.s1.ph,.int .i64 x.s1.p.k,.int .i64 x.s1.p.f,.int .u64 x.s1.p.c,.string x.s1.p.t,.bool x.s1.p.b,.int .u64 x.v.c,.int .i64 x.v.k,.string x.v.t,.bool x.b0,.bool x.b1,.bool x.full,v2] (0,0) _ ?_ zu33 ?_ ?_ ?_);(·rfl);(·rfl);(·rfl);(·exact HW2.out.1);(·rfl);(·exact info_ex)))
 refine wp_forget (fun w'=>∃ gb gl,Hid (gb=W2.heap.size∧gl=W2.heap.size+1)∧w'.heap[gl]?=some (.cells #[.slice (some ⟨gb,0,none⟩) 1 1] 83 (0,0))∧w'.heap[gb]?=some (.cells (fvC (⟨x,-1,m0⟩,v2)).toArray 88 (0,0))∧Ext W2 w') ⟨W2.heap.size,W2.heap.size+1,zd ⟨rfl,rfl⟩,(two_new zR).2.1,(two_new zR).1,(two_new zR).2.2⟩ ?_
 rintro W3 ⟨gb,gl,HG3,h31,h32,x3⟩
 rw [←HG3.out.2]
 have HL3:=zd h31
 have HB3:=zd h32
 have HX3:=zd x3
 clear h31 h32 x3
 rcases hb0:stop x
 case true=>
  have HB0:=zd hb0
  go_upto_region 5 with (first|((with_reducible refine wpList_load_rowG ?_ 33 (.tmp 3) ?_ gx ?_ 33 (x.arr v2) (0,0) _ ?_ zu33 ?_ ?_ ?_);(·rfl);(·rfl);(·rfl);(·exact (heap_ext HW2.out.1 HX3.out));(·rfl);(·exact info_ex))|(rw [HST.out.1,Oper.upon_enter];refine (HST.out.2 x v2 _ (HW2.out.2.2.2.trans HX3.out) (Row.of_own (own_ext HW2.out.2.2.1 HX3.out)) (by omega)).mono ?_;rintro e w4 ⟨rfl,hx4⟩;try rw [hb0]))
  have hl4:=heap_ext HL3.out hx4
  have ql:=zQ hl4 0
  have ll:gl<w4.heap.size:=zL hl4
  clear hl4
  go_wp2_with fail
  refine ⟨rfl,.tuple #[.slice (some ⟨gb,0,none⟩) 1 1,.int .i64 0,.bool true],by simp [results,go_sem],?_⟩
  have h1:=HR.out
  rw [HMO.out] at h1
  unfold goG at h1
  rw [if_pos HB0.out] at h1
  rw [h1]
  have e4:=HX3.out.trans hx4
  have s2:=HW2.out.2.2.2.size
  have hg3:=HG3.out
  have hb4:=heap_ext HB3.out hx4
  refine ⟨[(⟨x,-1,m0⟩,v2)],_,rfl,rfl,?_,fun q hq=>?_,HW2.out.2.2.2.trans e4⟩
  ·exact ⟨by simp [fvC_len],.inr ⟨gb,1,_,rfl,by omega,hb4,Nat.le_refl _,by decide,by simp [fvC_len],by
    rw [List.take_of_length_le (by simp [fvC_len])]
    simp⟩⟩
  ·rw [List.mem_singleton.1 hq]
   exact ⟨⟨⟨_,HW1s.out⟩,own_ext HW2.out.2.2.1 e4⟩,HX.out,by show x.h.length≤300;omega⟩
 have HSX:=zd hb0
 go_upto_region 6 with (first|((with_reducible refine wpList_load_rowG ?_ 33 (.tmp 3) ?_ gx ?_ 33 (x.arr v2) (0,0) _ ?_ zu33 ?_ ?_ ?_);(·rfl);(·rfl);(·rfl);(·exact (heap_ext HW2.out.1 HX3.out));(·rfl);(·exact info_ex))|(rw [HST.out.1,Oper.upon_enter];refine (HST.out.2 x v2 _ (HW2.out.2.2.2.trans HX3.out) (Row.of_own (own_ext HW2.out.2.2.1 HX3.out)) (by omega)).mono ?_;rintro e w4 ⟨rfl,hx4⟩;try rw [hb0]))
 clear hb0
 have HX4:=zd (HX3.out.trans hx4)
 have HL4:=zd (heap_ext HL3.out hx4)
 have HB4:=zd (heap_ext HB3.out hx4)
 clear hx4 HL3 HB3
 have hmm:=@run_makeMap Tryz.prog
 go_upto_region 7 with (first|((with_reducible refine wpList_load_rowG ?_ 33 (.tmp 3) ?_ gx ?_ 33 (x.arr v2) (0,0) _ ?_ zu33 ?_ ?_ ?_);(·rfl);(·rfl);(·rfl);(·exact (heap_ext HW2.out.1 (HX4.out.trans (zR.alloc _))));(·rfl);(·exact info_ex))|(go_at_call 52;refine (ex_key x v2 _ (Row.ext (Row.of_own HW2.out.2.2.1) (HX4.out.trans (zR.alloc _))) (by omega) HX.out.h (HTAB.out.ext ((HW2.out.2.2.2.trans HX4.out).trans (zR.alloc _)))).mono ?_;rintro e w5 ⟨rfl,hx5⟩;have HX5:=zd hx5;clear hx5)|(refine wpList_ins rfl 109 _ _ _ rfl _ _ _ rfl rfl rfl (run_updateH keys_ky zu109 (keyK x) _ (heap_ext (heap_ext (heap_new rfl) HX5.out) (zR.alloc _))).1 ?_))
 refine wp_forget (fun w'=>∃ gm lv S,Hid (gm=w4.heap.size)∧Hid (GoAt w gl gm gr r tv [(⟨x,-1,m0⟩,v2)] lv S (numsK [(⟨x,-1,m0⟩,v2)]) w')) ⟨w4.heap.size,_,_,zd rfl,zd (GoAt.start (gb:=gb) (gi:=w5.heap.size) ?e1 ?e2 ?e3 ?e4 ?e5 ?e6 ?e7 ?e8 ?e9 ?e10 ?e11)⟩ ?_
 case e11=>exact fun g hg=>zT HW1s.out (own_rowB HW2.out.2.2.1 g hg).1
 case e1=>exact ext_setB (((HW2.out.2.2.2.trans HX4.out).trans ((zR.alloc _).trans HX5.out)).alloc _) (zT HW2.out.2.2.2.size HX4.out.size)
 case e2=>
  have h1:=HW2.out.2.2.2.size
  have h2:=HX4.out.size
  have h3:=HG3.out
  exact ⟨by omega,by omega⟩
 case e3=>exact RgAt.ext HW2.out.2.1 (ext_setB ((HX4.out.trans ((zR.alloc _).trans HX5.out)).alloc _) HX4.out.size)
 case e4=>exact heap_ext HL4.out (ext_setB (((zR.alloc _).trans HX5.out).alloc _) zN)
 case e5=>exact heap_ext HB4.out (ext_setB (((zR.alloc _).trans HX5.out).alloc _) zN)
 case e6=>
  have h1:=HW2.out.2.2.2.size
  have h3:=HG3.out
  omega
 case e7=>exact (run_updateH keys_ky zu109 (keyK x) _ (heap_ext (heap_ext (heap_new rfl) HX5.out) (zR.alloc _))).2
 case e8=>
  have h1:=HX5.out.size
  have h2:(w4.alloc (.map #[] 0)).heap.size=w4.heap.size+1:=by simp
  exact (setB_other (by omega)).trans (heap_new rfl)
 case e9=>
  have h1:=HW2.out.2.2.2.size
  have h2:=HX4.out.size
  have h3:=HX5.out.size
  have h4:(w4.alloc (.map #[] 0)).heap.size=w4.heap.size+1:=by simp
  omega
 case e10=>exact ⟨_,Own.ext HW2.out.2.2.1 (ext_setB ((HX4.out.trans ((zR.alloc _).trans HX5.out)).alloc _) HX4.out.size)⟩
 rintro W6 ⟨gm,lv,S,HGM,K6⟩
 rw [←HGM.out]
 have HR2:Hid (R=outG most stop (movesR evsS · r) (most+1) 0 [⟨x,-1,m0⟩]):=zd (by
  have:=HR.out
  rw [HMO.out] at this
  rw [this]
  unfold goG
  rw [if_neg (by rw [HSX.out];simp)])
 clear HX5 HL4 HB4 HX4 hmm HGM HG3 HW2 HX3 HR HMO
 have hml:=HML.out
 go_cut [12] from 18 (fun s12 wc=>s12 = .int .i64 0∧wc=W6)
 case first=>
  go_wp2_with fail
  go_meet
  exact ⟨rfl,rfl⟩
 case rest=>
 obtain ⟨rfl,rfl⟩:=hcut
 rename World=>W6
 go_wp2_with fail
 go_loopg [12] (most+1) (fun g ii wr=>∃ (k:Nat) (L:List (Fd×Value)) (lv:Value) (S:List (Ky×Value)),ii = .int .i64 (k:Int)∧k+g=most+1∧k≤L.length∧L.length≤most∧Hid (GoAt w gl gm gr r tv L lv S (numsK L) wr)∧Hid (∀ p∈L,RngX p.1.x∧p.1.x.h.length≤100+L.length)∧Hid (R=outG most stop (movesR evsS · r) g k (L.map (·.1))))
 case atStart=>exact ⟨0,[(⟨x,-1,m0⟩,v2)],lv,S,rfl,by omega,Nat.zero_le _,by simp;omega,K6,zd (fun p hp=>by rw [List.mem_singleton.1 hp];exact ⟨HX.out,by simp;omega⟩),HR2⟩
 case round=>
  clear K6 HR2 S lv
  obtain ⟨k,L,lv,S,rfl,hg,hkL,hLm,HK,HOK,HRk⟩:=hrel
  rename World=>Wr
  obtain ⟨ga,gcap,hlv⟩:=own_sl HK.out.lr
  subst hlv
  have hlc:=HK.out.lc
  have ql:=zQ hlc 0
  have ll:gl<Wr.heap.size:=zL hlc
  clear hlc
  by_cases hlt:k<L.length
  case neg=>
   have i1 : ¬(k:Int)<(L.length:Int):=by omega
   go_wp2_with fail
   refine ⟨rfl,.tuple #[.slice ga L.length gcap,.int .i64 (-1),.bool true],by simp [results,go_sem],?_⟩
   have h1:=HRk.out
   rw [out_none (List.getElem?_eq_none (by rw [List.length_map];omega))] at h1
   rw [h1]
   exact ⟨L,_,rfl,rfl,HK.out.lr,fun p hp=>⟨(HK.out.hh p hp).lo (HK.out.lw p hp),(HOK.out p hp).1,by have:=(HOK.out p hp).2;omega⟩,HK.out.ext⟩
  have i1:(k:Int)<(L.length:Int):=by omega
  obtain ⟨p,hp⟩ : ∃ p,L[k]?=some p:=⟨_,zG hlt⟩
  obtain ⟨g0,cap,hv,hb,hgl,hmx,hrg⟩:=frow_x HK.out.lr hp
  cases hv
  unfold maxLen at hmx
  obtain ⟨Bp,hop⟩:=HK.out.hh p (zE hp)
  have hpx:=HOK.out p (zE hp)
  have hM:=fun w' (hw:Ext Wr w')=>ex_moves p.1.x p.2 r tv w' Bp (own_ext hop hw) (by omega) (Row.ext HT.out (HK.out.ext.trans hw)) hTn
  have HM:=zd hM
  have HP:=zd hp
  have HOP:=zd hop
  have HRG:=zd hrg
  clear hM hop hrg hb hp
  go_upto_region 10 with fail
  refine wp_region_mixE (af:=?af) [true,true,true,true,true,true,false,false,true] 105 (by kernel_rfl) rfl (by kernel_rfl) ?q ?r
  case q=>
   intro y
   simp only [pickT,if_true,if_false,Bool.false_eq_true]
   repeat (go_big_quiet_step (fail))
   (go_big_quiet_want;refine quiet_load_midA 33 _ rfl g0 (k*36) rfl (p.1.x.arr p.2) (.struct _) (fun j v hj=>cell_keep (HRG.out j v hj) y.ext) zu33 rfl info_ex ?_;go_big_quiet_on;simp only [Act.put,List.setIfInBounds_toArray,List.set_cons_succ,List.set_cons_zero])
   (go_big_quiet_want;refine quiet_load_rowX 36 _ rfl _ rfl _ _ (0,0) _ (HK.out.rg.ext y.ext) zu36 rfl info_range ?_;go_big_quiet_on;simp only [Act.put,List.setIfInBounds_toArray,List.set_cons_succ,List.set_cons_zero])
   repeat (go_big_quiet_step (fail))
   exact rfl
  case r=>
   simp only [pickF,if_true,if_false,Bool.false_eq_true]
   intro x1
   go_wp2_with fail
   refine (HM.out _ ((Ext.refl Wr).drew.val x1)).mono ?_
   rintro e w7 ⟨mv,rfl,ho7,hx7⟩
   have e7:Ext Wr w7:=((Ext.refl Wr).drew.val x1).trans hx7
   obtain ⟨va7,vc7,rfl⟩:=own_sl ho7
   go_wp2_with fail
   refine ⟨e7,?_⟩
   intro x2
   go_wp2_with fail
   refine ⟨e7.val x2,?_⟩
   intro x3
   have k8:=HK.out.ext' ((e7.val x2).val x3)
   have r8 : ∃ B,Own9 x3.val B (movesR evsS p.1.x r) _:=⟨_,own_ext (own_ext ho7 x2.ext) x3.ext⟩
   have HR8:Hid (R=midG most stop (movesR evsS · r) (most - k) k p.1.x (movesR evsS p.1.x r) (L.map (·.1))):=zd (by
    have h1:=HRk.out
    rw [show gk=(most - k)+1 by omega,out_some (d:=p.1) (by rw [List.getElem?_map,HP.out];rfl)] at h1
    exact h1)
   generalize movesR evsS p.1.x r=ms at r8 HR8
   generalize x3.val=W8 at k8 r8
   have K8:=zd k8
   have R8:=zd r8
   clear k8 r8 x3 x2 e7 ho7 hx7 x1 HRG HM HOP HK ql ll hgl HRk
   have hkL:=hlt
   have hPn:Hid (L[k]?=some p):=HP
   go_wp2_with fail
   go_loopg [52] ms.length (fun g jj wr=>∃ (j:Nat) (L2:List (Fd×Value)) (lv2:Value) (S2:List (Ky×Value)),jj = .int .i64 (j:Int)∧j+g=ms.length∧k<L2.length∧L2.length≤most∧Hid (L2[k]?=some p)∧Hid (GoAt w gl gm gr r tv L2 lv2 S2 (numsK L2) wr)∧Hid (∀ p∈L2,RngX p.1.x∧p.1.x.h.length≤100+L2.length)∧Hid (∃ B,Own9 wr B ms (.slice va7 ms.length vc7))∧Hid (R=midG most stop (movesR evsS · r) (most - k) k p.1.x (ms.drop j) (L2.map (·.1))))
   case atStart=>exact ⟨0,L,_,S,rfl,by omega,hlt,hLm,HP,K8,HOK,R8,HR8⟩
   case round=>
    clear K8 R8 HR8 HP hPn HOK hLm hkL hlt hmx i1 hpx
    obtain ⟨j,L2,lv2,S2,rfl,hg2,hkL,hLm,HP,HK,HOK,R9,HRk⟩:=hrel
    rename World=>Wr
    by_cases hj:j<ms.length
    case neg=>
     have i1 : ¬(j:Int)<(ms.length:Int):=by omega
     go_wp2_with fail
     go_roundg (most - k)
     case rel=>
      refine ⟨k+1,L2,lv2,S2,rfl,by omega,hkL,hLm,HK,HOK,zd ?_⟩
      have h1:=HRk.out
      rw [List.drop_eq_nil_of_le (by omega),mid_nil] at h1
      exact h1
     case measure=>omega
    have i1:(j:Int)<(ms.length:Int):=by omega
    obtain ⟨m,hm0⟩ : ∃ m,ms[j]?=some m:=⟨_,zG hj⟩
    obtain ⟨B9,hr9⟩:=R9.out
    obtain ⟨a9,c9,hv9,hm9,hvw9⟩:=row_view (Row.of_own hr9)
    cases hv9
    obtain ⟨g9,o9,rfl,hg9,hc9⟩:=hvw9 (by omega)
    have hg9:=hg9 (by omega)
    obtain ⟨q0,q1,q2,q3,q4,q5,q6,q7,q8⟩:=mv_cells hc9 hm0
    have HRD:Hid (ms.drop j=m::ms.drop (j+1)):=zd (by
     obtain ⟨h1,h2⟩:=List.getElem?_eq_some_iff.1 hm0
     rw [List.drop_eq_getElem_cons h1,h2])
    unfold maxLen at hm9
    clear hc9 hr9 hm0
    go_upto_region 13 with fail
    refine wp_forget (fun w'=>∃ gv,Hid (gv=Wr.heap.size)∧w'.heap[gv]?=some (.cells m.arr 52 (0,0))∧Ext Wr w') ⟨Wr.heap.size,zd rfl,(one_new zR).1,(one_new zR).2⟩ ?_
    rintro W9 ⟨gv,HGV,hv9,x9⟩
    rw [←HGV.out]
    have K9:=zd (HK.out.ext' x9)
    have R99:=zd (own9_exts R9.out x9)
    have HV9:=zd hv9
    have lgv:gv<W9.heap.size:=zL hv9
    unfold Mv.arr at hv9
    have qv:=zQ hv9
    clear q0 q1 q2 q3 q4 q5 q6 q7 q8 hg9 HGV x9 hv9 HK R9
    obtain ⟨g0,cap,hlv,hb,hgl,hmx,hrg⟩:=frow_x K9.out.lr HP.out
    subst hlv
    unfold maxLen at hmx
    have hlc:=K9.out.lc
    have ql:=zQ hlc 0
    have ll:gl<W9.heap.size:=zL hlc
    obtain ⟨Bp,hop⟩:=K9.out.hh p (zE HP.out)
    have hpx:=HOK.out p (zE HP.out)
    have hS:=fun w' (hw:Ext W9 w')=>mo_Step p.1.x p.2 m w' Bp (own_ext hop hw) (by omega)
    have HYR:=zd (hpx.1.step m)
    have hyl:=zT (step_len p.1.x m) (Nat.succ_le_succ hpx.2)
    obtain ⟨y,hy⟩ : ∃ y,(stepX p.1.x m).1=y:=⟨_,rfl⟩
    obtain ⟨ok,hok⟩ : ∃ ok,(stepX p.1.x m).2=ok:=⟨_,rfl⟩
    rw [hy,hok] at hS
    rw [hy] at HYR hyl
    have HY:=zd hy
    have HOKB:=zd hok
    have HS:=zd hS
    have HRG:=zd hrg
    have i2:(k:Int)<(L2.length:Int):=by omega
    clear hlc hop hS hy hok hrg hb hpx
    refine wp_region_mixF (af:=?af2) #[.int .u64 0,.int .i64 0,.int .u64 0,.string { data:=#[] },.int .i64 0,.int .i64 0,.int .i64 0,.int .u64 0,.string { data:=#[] },.bool false,.int .i64 0,.int .u64 0,.string { data:=#[] },.int .i64 0,.int .i64 0,.int .i64 0,.int .u64 0,.string { data:=#[] },.bool false,.int .u64 0,.int .i64 0,.string { data:=#[] },.bool false,.bool false,.bool false,.slice none 0 0] 33 [true,true,true,true,true,true,false,false,false,false,false,false,false] [false,false,false,false,false,false,false,true,true,true,false,false,true] 105 4 (C:=Ext W9) (by kernel_rfl) rfl (by kernel_rfl) (fun _ _ h e=>Ext.trans h e) zR.drew ?q ?r
    case q=>
     intro w' hw'
     obtain ⟨y1,rfl⟩:=ext_of hw'
     simp only [pickT,if_true,if_false,Bool.false_eq_true]
     repeat (go_big_quiet_step (fail))
     (go_big_quiet_want;refine quiet_load_midA 33 _ rfl g0 (k*36) rfl (p.1.x.arr p.2) (.struct _) (fun j v hj=>cell_keep (HRG.out j v hj) y1.ext) zu33 rfl info_ex ?_;go_big_quiet_on;simp only [Act.put,List.setIfInBounds_toArray,List.set_cons_succ,List.set_cons_zero])
     (go_big_quiet_want;refine quiet_load_rowX 52 _ rfl _ rfl _ _ (0,0) _ (heap_ext HV9.out y1.ext) zu52 rfl (info_mv9 m) ?_;go_big_quiet_on;simp only [Act.put,List.setIfInBounds_toArray,List.set_cons_succ,List.set_cons_zero])
     refine wpQuiet_nil ?_
     exact rfl
    case r=>
     simp only [restL,if_true,if_false,Bool.false_eq_true]
     refine ⟨fun a w=>by simp [go_sem],?_⟩
     intro x1
     go_wp2_with fail
     refine (HS.out _ ((Ext.refl W9).drew.val x1)).mono ?_
     rintro e w4 ⟨v',rfl,hO',hx4⟩
     have hgy:W9.heap.size≤x1.val.heap.size:=((Ext.refl W9).drew.val x1).size
     go_wp2_with fail
     refine ⟨hx4,?_⟩
     refine ⟨.tuple #[.agg (y.arr v'),.bool ok],.inl ⟨rfl,fun w _=>⟨rfl,rfl⟩⟩,?_⟩
     refine ⟨.agg (y.arr v'),.inl ⟨rfl,fun w _=>⟨rfl,rfl⟩⟩,?_⟩
     refine ⟨.bool ok,.inl ⟨rfl,fun w _=>⟨rfl,rfl⟩⟩,?_⟩
     intro x2 gT hgT hzT
     have e2:Ext W9 x2.val:=(((Ext.refl W9).drew.val x1).trans hx4).val x2
     have hv'1:v'.oneCell'=true:=by obtain ⟨sa,sn,hsv⟩:=own_sl hO';rw [hsv];rfl
     intro x3
     go_wp2_with (refine wpList_store_row rfl 33 _ _ rfl gT _ rfl rfl 33 _ (heap_ext hzT x3.ext) info_ex rfl (arr_one y hv'1) ?_)
     refine ⟨(e2.val x3).setRow hgT _,?_⟩
     refine ⟨.bool ok,.inl ⟨rfl,fun w _=>⟨rfl,rfl⟩⟩,?_⟩
     intro x4
     have eT:ExAt x4.val gT y v':=heap_ext (setRow_heap _ _ _ _ _ _ (heap_ext hzT x3.ext)) x4.ext
     have eX:Ext W9 x4.val:=((e2.val x3).setRow hgT _).val x4
     have eO : ∃ B : {n // w.heap.size≤n},Own x4.val B.1 y.h v':=⟨⟨_,zT K9.out.ext.size hgy⟩,own_ext (own_setRow (own_ext hO' (x2.ext.trans x3.ext)) (heap_ext hzT x3.ext) (by decide) _) x4.ext⟩
     have k10:=K9.out.ext' eX
     have r10:=own9_exts R99.out eX
     have hv10:=heap_ext HV9.out eX
     generalize x4.val=W10 at eT eO k10 r10 hv10 ⊢
     have K10:=zd k10
     have R10:=zd r10
     have HV10:=zd hv10
     have HT10:=zd eT
     have HO10:=zd eO
     clear k10 r10 hv10 eT eO eX x4 x3 hzT hgT e2 x2 hx4 hO' x1 hgy HRG HV9 R99 K9 HS ql qv ll lgv hgl
     rcases ok
     case false=>
      go_wp2_with fail
      go_roundg (gk - 1)
      case rel=>
       refine ⟨j+1,L2,_,S2,rfl,by omega,hkL,hLm,HP,K10,HOK,R10,zd ?_⟩
       have h1:=HRk.out
       rw [HRD.out,mid_no HOKB.out] at h1
       exact h1
      case measure=>omega
     obtain ⟨⟨By,hBy⟩,hoy⟩:=HO10.out
     simp only at hoy
     have HBy:=zd hBy
     clear hBy
     have HOY:=zd hoy
     clear hoy
     go_upto_region 16 with (first|((with_reducible refine wpList_load_rowG ?_ 33 (.tmp 15) ?_ gT ?_ 33 (y.arr v') (0,0) _ ?_ zu33 ?_ ?_ ?_);(·rfl);(·rfl);(·rfl);(·exact HT10.out);(·rfl);(·exact info_ex))|(go_at_call 52;refine (ex_key y v' _ (Row.of_own HOY.out) (by omega) HYR.out.h (HTAB.out.ext K10.out.ext)).mono ?_;rintro e w11 ⟨rfl,hx11⟩)|(refine wpList_store_row rfl 107 _ _ rfl w11.heap.size _ rfl rfl 107 _ (heap_new rfl) (info_key y) rfl (key_one y) ?_))
     have x12:Ext W10 _:=((hx11.alloc _).setRow (by exact hx11.size) (keyArr y):Ext W10 ((w11.alloc (.cells keyZ 107)).setRow w11.heap.size (keyArr y)))
     refine wp_forget (fun w'=>∃ gq,Hid (gq=w11.heap.size)∧w'.heap[gq]?=some (.cells (keyArr y) 107 (0,0))∧Ext W10 w') ⟨w11.heap.size,zd rfl,setRow_heap _ _ _ _ _ _ (heap_new rfl),x12⟩ ?_
     rintro W12 ⟨gq,HGQ,hq,y12⟩
     rw [←HGQ.out]
     have HQ:=zd hq
     have K12:=zd (K10.out.ext' y12)
     have R12:=zd (own9_exts R10.out y12)
     have HV12:=zd (heap_ext HV10.out y12)
     have HT12:=zd (heap_ext HT10.out y12)
     have HO12:=zd (own_ext HOY.out y12)
     clear x12 hx11 HGQ hq y12 HOY HO10 HT10 HV10 R10 K10
     have hG:=gc_has L2 _ w.heap.size gl gT By (numsK L2 (keyK y)) _ y v' W12 (K12.out.ints (keyK y)) (fun i hi=>idx_lt hi) K12.out.lc K12.out.lr K12.out.hh HT12.out HO12.out (by omega)
     rw [idx_any] at hG
     have HG:=zd hG
     have hlc:=K12.out.lc
     have ql:=zQ hlc 0
     have ll:gl<W12.heap.size:=zL hlc
     clear hG hlc
     have HB0:Hid (((L2.map (·.1)).any fun f=>sameX f.x y)=((L2.map (·.1)).any fun f=>sameX f.x y)):=zd rfl
     generalize hb:((L2.map (·.1)).any fun f=>sameX f.x y)=has at HG
     have HB:=zd hb
     clear hb HB0
     rcases has
     case true=>
      go_wp2_with (first|((with_reducible refine wpList_load_rowG ?_ 107 (.tmp 17) ?_ gq ?_ 107 (keyArr y) (0,0) _ ?_ zu107 ?_ ?_ ?_);(·rfl);(·rfl);(·rfl);(·exact HQ.out);(·rfl);(·exact info_key y))|(refine wpList_look rfl 109 _ _ _ rfl _ _ _ rfl rfl (look_ints K12.out.mp (keyK y)) ?_)|(go_at_call 53;refine HG.out.mono ?_;rintro e w13 ⟨rfl,hx13⟩))
      go_roundg (gk - 1)
      case rel=>
       refine ⟨j+1,L2,_,S2,by simp,by omega,hkL,hLm,HP,zd (K12.out.ext' hx13),HOK,zd (own9_exts R12.out hx13),zd ?_⟩
       have h1:=HRk.out
       rw [HRD.out,mid_old HOKB.out (by rw [HY.out];exact HB.out)] at h1
       exact h1
      case measure=>omega
     go_upto_region 17 with (first|((with_reducible refine wpList_load_rowG ?_ 107 (.tmp 17) ?_ gq ?_ 107 (keyArr y) (0,0) _ ?_ zu107 ?_ ?_ ?_);(·rfl);(·rfl);(·rfl);(·exact HQ.out);(·rfl);(·exact info_key y))|(refine wpList_look rfl 109 _ _ _ rfl _ _ _ rfl rfl (look_ints K12.out.mp (keyK y)) ?_)|(go_at_call 53;refine HG.out.mono ?_;rintro e w13 ⟨rfl,hx13⟩))
     have K13:=zd (K12.out.ext' hx13)
     have R13:=zd (own9_exts R12.out hx13)
     have HV13:=zd (heap_ext HV12.out hx13)
     have HT13:=zd (heap_ext HT12.out hx13)
     have HO13:=zd (own_ext HO12.out hx13)
     have HQ13:=zd (heap_ext HQ.out hx13)
     clear HG HV12 HT12 HO12 R12 HQ K12 ql ll hx13
     have hlc:=K13.out.lc
     have ql:=zQ hlc 0
     have ll:gl<w13.heap.size:=zL hlc
     clear hlc
     by_cases hful:L2.length=most
     case pos=>
      have hful':(L2.length:Int)=(most:Int):=by omega
      go_wp2_with fail
      refine ⟨rfl,.tuple #[.slice (some ⟨g0,0,none⟩) L2.length cap,.int .i64 (-1),.bool false],by (simp [results,go_sem];try omega),?_⟩
      have h1:=HRk.out
      rw [HRD.out,mid_full HOKB.out (by rw [HY.out];exact HB.out) (by rw [List.length_map];exact hful)] at h1
      rw [h1]
      exact ⟨L2,_,rfl,rfl,K13.out.lr,fun p hp=>⟨(K13.out.hh p hp).lo (K13.out.lw p hp),(HOK.out p hp).1,by have:=(HOK.out p hp).2;omega⟩,K13.out.ext⟩
     have hful' : ¬(L2.length:Int)=(most:Int):=by omega
     go_upto_region 19 with fail
     obtain ⟨i0,hi,hz0,hz1,hz2⟩:=info_parts info_intI
     have KA:=zd (K13.out.ext' ((Ext.refl w13).alloc (.cells #[.int .i64 (L2.length:Int)] 3)))
     obtain ⟨st,ob,hme,hes⟩:=run_mapEntryH keys_ky zu109 zero_ints KA.out.mp (keyK y)
     have HME:=zd hme
     have HES:=zd hes
     have HIO:=zd (KA.out.int_own (keyK y) ob)
     have HNL:Hid ((numsK L2 (keyK y)).length≤100):=zd (by
      have h1:(numsK L2 (keyK y)).length≤(List.range L2.length).length:=List.length_filter_le _ _
      rw [List.length_range] at h1
      omega)
     have HA1:Hid (w.heap.size≤(setB (w13.alloc (.cells #[.int .i64 (L2.length:Int)] 3)) gm ob).heap.size):=zd (zT KA.out.ext.size (by simp [setB]))
     have HA2:Hid ((setB (w13.alloc (.cells #[.int .i64 (L2.length:Int)] 3)) gm ob).heap[w13.heap.size]?=some (.cells #[.int .i64 (L2.length:Int)] 3 (0,0))):=zd ((setB_other (by have:=K13.out.mp.lt;omega)).trans (heap_new rfl))
     clear hme hes
     go_upto_region 20 with (first|((with_reducible refine wpList_load_rowG ?_ 107 (.tmp 17) ?_ gq ?_ 107 (keyArr y) (0,0) _ ?_ zu107 ?_ ?_ ?_);(·rfl);(·rfl);(·rfl);(·exact HQ13.out);(·rfl);(·exact info_key y))|(refine wpList_ment rfl 109 _ _ rfl _ _ _ rfl rfl HME.out ?_)|(at_builtin;refine wpList_app6 w.heap.size 95 3 i0 _ 1 8 zu95 hi hz0 hz1 hz2 rfl (by decide) rfl _ _ rfl ((getM S2 (keyK y)).getD (.slice none 0 0)) (numsK L2 (keyK y)).length _ rfl HIO.out HA1.out w13.heap.size 1 1 _ (by omega) rfl HA2.out rfl (by simp [Value.oneCell']) (by have:=HNL.out;unfold maxLen;omega) (by have:=HNL.out;omega) ?_;intro v3 w3 o3 b3 g3 nw3;obtain ⟨ob',hes',mp'⟩:=HES.out w3 v3 (KA.out.gm_kept g3);have HES':=zd hes';clear hes')|(refine wpList_esto rfl 109 _ _ _ rfl _ _ _ rfl rfl rfl HES'.out ?_))
     have k20:=KA.out.put (n:=L2.length) keeps_setB (by rw [ints_one];exact o3) g3 nw3 mp'
     have HV20:=zd (KA.out.put_tag (ob':=ob') keeps_setB g3 (heap_ext HV13.out (zR.alloc _)) (by decide))
     have HT20:=zd (KA.out.put_tag (ob':=ob') keeps_setB g3 (heap_ext HT13.out (zR.alloc _)) (by decide))
     have HO20:=zd (KA.out.put_row (ob':=ob') keeps_setB g3 (own_ext HO13.out (zR.alloc _)) (by decide))
     have R20:Hid (∃ B,Own9 (setB w3 gm ob') B ms _):=zd (R13.out.imp fun B o=>KA.out.put_row (ob':=ob') keeps_setB g3 (own_ext o (zR.alloc _)) (by decide))
     have HN':Hid ((fun q=>if q=keyK y then numsK L2 q++[L2.length] else numsK L2 q)=numsK (L2++[(⟨y,(k:Int),m⟩,v')])):=zd (by
      funext q
      rw [idx_add]
      by_cases hq:q=keyK y
      ·rw [if_pos hq,if_pos hq.symm]
      ·rw [if_neg hq,if_neg fun e=>hq e.symm])
     rw [HN'.out] at k20
     generalize setB w3 gm ob'=W20 at k20 HV20 HT20 HO20 R20 ⊢
     have K20:=zd k20
     clear k20 HES' o3 b3 g3 nw3 mp' HA1 HA2 HIO HNL HME HES KA HV13 HT13 HO13 R13 HQ13 K13 ql ll hi hz0 hz1 hz2 HN'
     obtain ⟨i1,hi,hz0,hz1,hz2⟩:=info_parts info_foundZ
     have hv'1:v'.oneCell'=true:=by obtain ⟨sa,sn,hsv⟩:=own_sl HO20.out;rw [hsv];rfl
     have hlc:=K20.out.lc
     have ql:=zQ hlc 0
     have ll:gl<W20.heap.size:=zL hlc
     clear hlc
     go_upto_region 21 with (first|((with_reducible refine wpList_load_rowG ?_ 33 (.tmp 15) ?_ gT ?_ 33 #[.int .u64 y.c,.int .i64 y.s0.r,.int .u64 y.s0.c,.string y.s0.t,.int .i64 y.s0.ph,.int .i64 y.s0.p.k,.int .i64 y.s0.p.f,.int .u64 y.s0.p.c,.string y.s0.p.t,.bool y.s0.p.b,.int .i64 y.s1.r,.int .u64 y.s1.c,.string y.s1.t,.int .i64 y.s1.ph,.int .i64 y.s1.p.k,.int .i64 y.s1.p.f,.int .u64 y.s1.p.c,.string y.s1.p.t,.bool y.s1.p.b,.int .u64 y.v.c,.int .i64 y.v.k,.string y.v.t,.bool y.b0,.bool y.b1,.bool y.full,v'] (0,0) _ ?_ zu33 ?_ ?_ ?_);(·rfl);(·rfl);(·rfl);(·exact HT20.out);(·rfl);(·exact info_ex))|((with_reducible refine wpList_load_rowG ?_ 52 (.tmp 14) ?_ gv ?_ 52 #[.int .i64 m.k,.int .i64 m.who,.string m.t,.int .i64 m.l.k,.int .i64 m.l.f,.int .u64 m.l.c,.string m.l.t,.bool m.l.b,.bool m.lost] (0,0) _ ?_ zu52 ?_ ?_ ?_);(·rfl);(·rfl);(·rfl);(·exact HV20.out);(·rfl);(·exact info_mv9 m))|(at_builtin;refine wpList_app6 w.heap.size 83 88 i1 _ 36 344 zu83 hi hz0 hz1 hz2 rfl (by decide) rfl _ _ rfl (.slice (some ⟨g0,0,none⟩) L2.length cap) L2.length _ rfl (own_ext K20.out.lr (zR.alloc _)) (zT K20.out.ext.size (zR.alloc _).size) W20.heap.size 1 1 _ (by omega) rfl (heap_new rfl) rfl (fv_one (⟨y,(k:Int),m⟩,v') hv'1) (by unfold maxLen;omega) (by omega) ?_;intro lv' w21 o21 b21 g21 nw21;have KB:=K20.out.ext' ((Ext.refl W20).alloc (.cells (fvC (⟨y,(k:Int),m⟩,v')).toArray 88));have hl21:=kept_grown KB.lc g21 (tag_ne KB.lr KB.lc (by decide));have ql21:=zQ hl21 0;have qf21:=zF hl21 0;have ll21:gl<w21.heap.size:=(zL hl21);obtain ⟨la,lcc,hla⟩:=own_sl o21;subst hla;clear hl21))
     have KB:=zd (K20.out.ext' ((Ext.refl W20).alloc (.cells (fvC (⟨y,(k:Int),m⟩,v')).toArray 88)))
     have k21:=KB.out.add (p:=(⟨y,(k:Int),m⟩,v')) (frow_one o21 rfl rfl) g21 nw21 ⟨By,own_ext HO20.out (zR.alloc _)⟩ (fun g hg=>zT HBy.out (own_rowB HO20.out g hg).1) rfl
     have hgT:gT≠gl:=fun e=>by
      have h1:=HT20.out
      rw [e,K20.out.lc] at h1
      simp only [Option.some.injEq,Obj.cells.injEq] at h1
      exact absurd h1.2.1 (by decide)
     have HT21:=zd (KB.out.add_tag (lv':=.slice la (L2.length+1) lcc) g21 (heap_ext HT20.out (zR.alloc _)) (by decide) hgT)
     have R21:Hid (∃ B,Own9 (w21.setCell ⟨gl,0,none⟩ (.slice la (L2.length+1) lcc)) B ms _):=zd (R20.out.imp fun B o=>KB.out.add_row g21 (own_ext o (zR.alloc _)) (by decide) (by decide))
     have HO21:=zd (KB.out.add_row (lv':=.slice la (L2.length+1) lcc) g21 (own_ext HO20.out (zR.alloc _)) (by decide) (by decide))
     generalize w21.setCell ⟨gl,0,none⟩ (.slice la (L2.length+1) lcc)=W21 at k21 HT21 R21 HO21 ⊢
     have K21:=zd k21
     clear k21 KB o21 b21 g21 nw21 ql21 qf21 ll21 ql ll hi hz0 hz1 hz2 HV20 HT20 HO20 R20 K20 hgT
     rcases hb1:stop y
     case true=>
      have HB1:=zd hb1
      go_upto_region 22 with (first|((with_reducible refine wpList_load_rowG ?_ 33 (.tmp 15) ?_ gT ?_ 33 (y.arr v') (0,0) _ ?_ zu33 ?_ ?_ ?_);(·rfl);(·rfl);(·rfl);(·exact HT21.out);(·rfl);(·exact info_ex))|(rw [HST.out.1,Oper.upon_enter];refine (HST.out.2 y v' _ K21.out.ext (Row.of_own HO21.out) (by omega)).mono ?_;rintro e w22 ⟨rfl,hx22⟩;try rw [hb1]))
      rename_i K5 hK5
      have K22:=zd (K21.out.ext' hx22)
      have hlc:=K22.out.lc
      have ql:=zQ hlc 0
      have ll:gl<w22.heap.size:=zL hlc
      clear hlc
      refine wp_region_ext (by kernel_rfl) (by kernel_rfl) ?_
      repeat (go_big_quiet_step (fail))
      refine wpQuiet_nil ?_
      rintro w23 ⟨x23,rfl⟩
      refine hK5 _ _ ?_
      go_wp2_with fail
      refine ⟨rfl,.tuple #[.slice la (L2.length+1) lcc,.int .i64 (L2.length:Int),.bool true],by (simp [results,go_sem];try omega),?_⟩
      have h1:=HRk.out
      rw [HRD.out,mid_hit HOKB.out (by rw [HY.out];exact HB.out) (by rw [List.length_map];exact hful) (by rw [HY.out];exact HB1.out),HY.out] at h1
      rw [h1]
      have k23:=K22.out.ext' x23.ext
      refine ⟨L2++[(⟨y,(k:Int),m⟩,v')],_,by simp,by rw [List.length_map],k23.lr,fun q hq=>⟨(k23.hh q hq).lo (k23.lw q hq),?_⟩,k23.ext⟩
      rcases List.mem_append.1 hq with hq|hq
      ·exact ⟨(HOK.out q hq).1,by have:=(HOK.out q hq).2;omega⟩
      ·rw [List.mem_singleton.1 hq]
       exact ⟨HYR.out,by show y.h.length≤300;omega⟩
     have HB1:=zd hb1
     go_wp2_with (first|((with_reducible refine wpList_load_rowG ?_ 33 (.tmp 15) ?_ gT ?_ 33 (y.arr v') (0,0) _ ?_ zu33 ?_ ?_ ?_);(·rfl);(·rfl);(·rfl);(·exact HT21.out);(·rfl);(·exact info_ex))|(rw [HST.out.1,Oper.upon_enter];refine (HST.out.2 y v' _ K21.out.ext (Row.of_own HO21.out) (by omega)).mono ?_;rintro e w22 ⟨rfl,hx22⟩;try rw [hb1]))
     go_roundg (gk - 1)
     case rel=>
      refine ⟨j+1,L2++[(⟨y,(k:Int),m⟩,v')],_,_,by simp,by omega,by simp;omega,by simp;omega,?_,zd (K21.out.ext' hx22),?_,zd (own9_exts R21.out hx22),?_⟩
      ·refine zd ?_
       rw [List.getElem?_append_left hkL]
       exact HP.out
      ·refine zd fun q hq=>?_
       rw [List.length_append]
       rcases List.mem_append.1 hq with hq|hq
       ·have:=HOK.out q hq
        exact ⟨this.1,by simp;omega⟩
       ·rw [List.mem_singleton.1 hq]
        exact ⟨HYR.out,by simp;omega⟩
      ·refine zd ?_
       have h1:=HRk.out
       rw [HRD.out,mid_new HOKB.out (by rw [HY.out];exact HB.out) (by rw [List.length_map];exact hful) (by rw [HY.out];exact HB1.out),HY.out] at h1
       rw [h1,List.map_append]
       rfl
     case measure=>omega
theorem go_all (x:Ex) (v:Value) (B0:Nat) (r:Rg) (tv:Value) (w:World) (hO:Own w B0 x.h v) (hn:x.h.length≤100) (hT:Row w 1 tv r.t.length (r.t.map Value.string)) (hTn:r.t.length≤1000) (hm:r.m≤100) (hx:RngX x) (htab:TabW w) :
 Calls Tryz.prog 28 #[.agg (x.arr v),.agg (r.arr tv),.func (.func 29) #[] #[]] w (GoP w (goG (mostR r) never (movesR evsS · r) x)):=by
 exact go_gen never _ #[] x v B0 r tv w ⟨fun _ _=>by simp [go_sem],fun y u w' _ _ _=>ex_never _ _ _⟩ hO hn hT hTn hm hx htab
end Go.Proofs.YtlnmhocehgmbbaaGreatDoor

/- No condition. -/
import Derived.Test.YtlnmhocehgmbbaaGreatDoorWY32
import Derived.Test.YtlnmhocehgmbbaaGreatDoorWY35
import Derived.Test.YtlnmhocehgmbbaaGreatDoorWY36
import Derived.Test.YtlnmhocehgmbbaaGreatDoorWY37
import Derived.Laws.MakeOwn
set_option linter.all false
set_option maxRecDepth 100000
set_option maxHeartbeats 6400000
namespace Go.Proofs.YtlnmhocehgmbbaaGreatDoor
theorem in_pref (most:Nat) (stop:Ex→Bool) (x:Ex) (k:Nat) : ∀ (ms:List Mv) (L:List Fd),L <+: (inG most stop x k ms L).1
 | [],L=>List.prefix_refl L
 | m::ms,L=>by
  have ih:=in_pref most stop x k ms
  unfold inG
  split
  ·exact ih L
  split
  ·exact ih L
  split
  ·exact List.prefix_refl L
  split
  ·exact List.prefix_append _ _
  ·exact (List.prefix_append _ _).trans (ih _)
theorem out_pref (most:Nat) (stop:Ex→Bool) (mv:Ex→List Mv) : ∀ (f k:Nat) (L:List Fd),L <+: (outG most stop mv f k L).1
 | 0,_,L=>List.prefix_refl L
 | f+1,k,L=>by
  unfold outG
  split
  ·exact List.prefix_refl L
  ·rename_i d hd
   have h2:=in_pref most stop d.x k (mv d.x) L
   split
   ·rename_i he
    rw [he] at h2
    exact h2
   ·rename_i he
    rw [he] at h2
    exact h2.trans (out_pref most stop mv f (k+1) _)
theorem in_cut (most:Nat) (stop:Ex→Bool) (x:Ex) (k:Nat) : ∀ (ms:List Mv) (L:List Fd),(∀ d∈L,stop d.x=false)→
 ((∀ d∈(inG most never x k ms L).1,stop d.x=false)∧inG most stop x k ms L=inG most never x k ms L)∨
 ∃ n d,(inG most never x k ms L).1[n]?=some d∧stop d.x=true∧(∀ d∈(inG most never x k ms L).1.take n,stop d.x=false)∧inG most stop x k ms L=((inG most never x k ms L).1.take (n+1),some ((n:Int),true))
 | [],L,h=>.inl ⟨h,rfl⟩
 | m::ms,L,h=>by
  have ih:=in_cut most stop x k ms
  unfold inG
  by_cases h1:(stepX x m).2=false
  ·rw [if_pos h1,if_pos h1];exact ih L h
  rw [if_neg h1,if_neg h1]
  by_cases h2:(L.any fun f=>sameX f.x (stepX x m).1)=true
  ·rw [if_pos h2,if_pos h2];exact ih L h
  rw [if_neg h2,if_neg h2]
  by_cases h3:L.length=most
  ·rw [if_pos h3,if_pos h3];exact .inl ⟨h,rfl⟩
  rw [if_neg h3,if_neg h3,if_neg (show ¬never (stepX x m).1=true by simp [never])]
  by_cases h4:stop (stepX x m).1=true
  ·rw [if_pos h4]
   obtain ⟨E,hE⟩:=in_pref most never x k ms (L++[⟨(stepX x m).1,(k:Int),m⟩])
   refine .inr ⟨L.length,⟨(stepX x m).1,(k:Int),m⟩,?_,h4,?_,?_⟩
   ·rw [←hE];simp
   ·rw [←hE];simpa using h
   ·rw [←hE]
    congr 1
    rw [List.take_left' (by simp)]
  ·rw [if_neg h4]
   refine ih _ fun d hd=>?_
   rcases List.mem_append.1 hd with hd|hd
   ·exact h d hd
   ·rw [List.mem_singleton.1 hd]
    simpa using h4
theorem out_cut (most:Nat) (stop:Ex→Bool) (mv:Ex→List Mv) : ∀ (f k:Nat) (L:List Fd),(∀ d∈L,stop d.x=false)→
 ((∀ d∈(outG most never mv f k L).1,stop d.x=false)∧outG most stop mv f k L=outG most never mv f k L)∨
 ∃ n d,(outG most never mv f k L).1[n]?=some d∧stop d.x=true∧(∀ d∈(outG most never mv f k L).1.take n,stop d.x=false)∧outG most stop mv f k L=((outG most never mv f k L).1.take (n+1),(n:Int),true)
 | 0,k,L,h=>.inl ⟨h,rfl⟩
 | f+1,k,L,h=>by
  unfold outG
  cases hk:L[k]? with
  | none=>exact .inl ⟨h,rfl⟩
  | some d=>
   simp only
   rcases in_cut most stop d.x k (mv d.x) L h with ⟨hn,he⟩|⟨n,z,hz,hs,hl,he⟩
   ·rw [he]
    rcases hI:inG most never d.x k (mv d.x) L with ⟨L',_|r⟩
    ·rw [hI] at hn
     exact out_cut most stop mv f (k+1) L' hn
    ·rw [hI] at hn
     exact .inl ⟨hn,rfl⟩
   ·rw [he]
    rcases hI:inG most never d.x k (mv d.x) L with ⟨L',_|r⟩
    ·rw [hI] at hz hl
     simp only at hz hl ⊢
     obtain ⟨E,hE⟩:=out_pref most never mv f (k+1) L'
     have hlt:n<L'.length:=zM hz
     refine .inr ⟨n,z,?_,hs,?_,?_⟩
     ·rw [←hE,List.getElem?_append_left hlt];exact hz
     ·rw [←hE,List.take_append_of_le_length (by omega)];exact hl
     ·rw [←hE,List.take_append_of_le_length (by omega)]
    ·rw [hI] at hz hl
     exact .inr ⟨n,z,hz,hs,hl,rfl⟩
theorem way_take {L:List Fd} (hp:PreG L) {j:Nat} : ∀ (f i:Nat),i<j→wayN (L.take j) f i=wayN L f i
 | 0,_,_=>rfl
 | f+1,i,h=>by
  unfold wayN
  rw [List.getElem?_take_of_lt h]
  cases hd:L[i]? with
  | none=>rfl
  | some d=>
   simp only
   by_cases h0:0≤d.p
   ·rw [if_pos h0,if_pos h0,way_take hp f _ (by rcases hp i d hd with h|⟨_,h⟩<;>omega)]
   ·rw [if_neg h0,if_neg h0]
def wayD (stop:Ex→Bool) (L:List Fd) (done:Bool):List Mv×Int:=match L.findIdx? (fun d=>stop d.x) with|some n=>(wayN L (n+1) n,0)|none=>([],if done=true then 1 else 2)
theorem wayD_hit {stop:Ex→Bool} {L:List Fd} {done:Bool} {n:Nat} {d:Fd} (h:L[n]?=some d) (hs:stop d.x=true) (hl : ∀ d∈L.take n,stop d.x=false):wayD stop L done=(wayN L (n+1) n,0):=by
 obtain ⟨h1,h2⟩:=List.getElem?_eq_some_iff.1 h
 have:L.findIdx? (fun d=>stop d.x)=some n:=by
  rw [List.findIdx?_eq_some_iff_getElem]
  refine ⟨h1,by rw [h2];exact hs,fun j hj=>?_⟩
  rw [hl _ (zE (i:=j) (by rw [List.getElem?_take_of_lt hj];exact zG _))]
  simp
 unfold wayD
 rw [this]
theorem wayD_no {stop:Ex→Bool} {L:List Fd} {done:Bool} (hl : ∀ d∈L,stop d.x=false):wayD stop L done=([],if done=true then 1 else 2):=by
 have:L.findIdx? (fun d=>stop d.x)=none:=by
  rw [List.findIdx?_eq_none_iff]
  exact fun d hd=>by simpa using hl d hd
 unfold wayD
 rw [this]
theorem way_doc (most:Nat) (stop:Ex→Bool) (mv:Ex→List Mv) (x:Ex):wayS (goG most stop mv x)=wayD stop (goG most never mv x).1 (goG most never mv x).2.2:=by
 have hn:goG most never mv x=outG most never mv (most+1) 0 [⟨x,-1,m0⟩]:=by unfold goG;rw [if_neg (by simp [never])]
 have hp:=go_pre most never mv x
 have hm:=congrArg Prod.fst (go_never most mv x).2
 by_cases hx:stop x=true
 ·have hg:goG most stop mv x=([⟨x,-1,m0⟩],0,true):=by unfold goG;rw [if_pos hx]
  obtain ⟨E,hE⟩:=out_pref most never mv (most+1) 0 [⟨x,-1,m0⟩]
  rw [hg,hn,wayD_hit (n:=0) (d:=⟨x,-1,m0⟩) (by rw [←hE];rfl) hx (by simp),way_no (d:=⟨x,-1,m0⟩) (by rw [←hE];rfl) (by show ¬(0:Int)≤-1;decide)]
  rfl
 ·have hg:goG most stop mv x=outG most stop mv (most+1) 0 [⟨x,-1,m0⟩]:=by unfold goG;rw [if_neg hx]
  rcases out_cut most stop mv (most+1) 0 [⟨x,-1,m0⟩] (fun d hd=>by rw [List.mem_singleton.1 hd];simpa using hx) with ⟨h1,h2⟩|⟨n,d,h1,h2,h3,h4⟩
  ·rw [←hn] at h1 h2
   rw [hg,h2,wayD_no h1]
   unfold wayS
   rw [if_pos (by rw [hm];show (-1:Int)<0;decide)]
  ·rw [←hn] at h1 h3 h4
   rw [hg,h4,wayD_hit h1 h2 h3]
   unfold wayS
   rw [if_neg (by simp),List.length_take,Int.toNat_natCast,way_take hp _ _ (by omega)]
   have:=zM h1
   rw [way_fuel hp n _ (n+1) (by omega) (by omega)]
end Go.Proofs.YtlnmhocehgmbbaaGreatDoor
namespace Go.Proofs.YtlnmhocehgmbbaaGreatDoor
open Go.RowKit
attribute [local go_sem ↓] eql_lEq eql_sEq eql_eEq eql_oEq neq_lEq neq_sEq neq_eEq neq_oEq eql_vEq neq_vEq eql_nil
attribute [local go_sem] ExtOf.cell ExtOf.frozen ExtOf.lt ExtOf.le
attribute [local go_sem high] ExtOf.cell2 ExtOf.frozen2 ExtOf.lt2 ExtOf.cell3 ExtOf.frozen3 ExtOf.lt3
theorem Ext.setCs {a:World} {g:Nat} (hg:a.heap.size≤g) : ∀ (vs:List Value) (w:World) (o:Nat),Ext a w→Ext a (w.setCells g o vs)
 | [],_,_,h=>h
 | v::vs,w,o,h=>Ext.setCs hg vs _ _ (h.setCell (p:=⟨g,o,none⟩) hg v)
theorem heap_setCs {g:Nat} {t:TypeId} {fr:Nat×Nat} : ∀ (vs:List Value) (w:World) (o:Nat) (cur:Array Value),w.heap[g]?=some (.cells cur t fr)→∃ cur',(w.setCells g o vs).heap[g]?=some (.cells cur' t fr)∧cur'.size=cur.size
 | [],_,_,cur,h=>⟨cur,h,rfl⟩
 | v::vs,w,o,cur,h=>by
  obtain ⟨c',h1,h2⟩:=heap_setCs vs (w.setCell ⟨g,o,none⟩ v) (o+1) _ (setCell_row h v)
  exact ⟨c',h1,by rw [h2];simp⟩
structure WyAt (w wr:World) (gS N n:Nat) (S:List Mv):Prop where
 e:Ext w wr
 hs : ∃ cur,wr.heap[gS]?=some (.cells cur 52 (0,0))∧cur.size=N*9
 hr:wr.rangeAt gS (n*9) (S.flatMap Mv.cs)
 hn:n+S.length=N
theorem WyAt.there {w wr:World} {gS N n:Nat} {S:List Mv} (h:WyAt w wr gS N (n+1) S):wr.there gS (n*9) 9:=fun j hj=>by
 obtain ⟨cur,h1,h2⟩:=h.hs
 have:=h.hn
 rw [zQ h1 _,zF h1 _]
 refine ⟨?_,rfl⟩
 rw [Array.getElem?_eq_getElem (by omega)]
 rfl
theorem WyAt.set {w wr:World} {gS N n:Nat} {S:List Mv} (h:WyAt w wr gS N (n+1) S) (hg:w.heap.size≤gS) (m:Mv):WyAt w (wr.setCells gS (n*9) m.arr.toList) gS N n (m::S):=by
 obtain ⟨cur,h1,h2⟩:=h.hs
 obtain ⟨cur',h3,h4⟩:=heap_setCs m.arr.toList wr (n*9) cur h1
 refine ⟨Ext.setCs hg _ _ _ h.e,⟨cur',h3,h4.trans h2⟩,?_,by have:=h.hn;simp;omega⟩
 have ha:=World.rangeAt_setCells_same wr gS (n*9) m.arr.toList h.there
 have hb:=World.rangeAt_setCells_apart h.hr gS (n*9) m.arr.toList (.inr (.inr (by show n*9+9≤(n+1)*9;omega)))
 intro j v hj
 rw [List.flatMap_cons] at hj
 by_cases hl:j<9
 ·rw [List.getElem?_append_left (by exact hl)] at hj
  exact ha j v hj
 ·rw [List.getElem?_append_right (by show 9≤j;omega)] at hj
  have h5:=hb (j - 9) v hj
  rw [show (n+1)*9+(j - 9)=n*9+j by omega] at h5
  exact h5
theorem WyAt.own {w wr:World} {gS N:Nat} {S:List Mv} (h:WyAt w wr gS N 0 S) (hg:w.heap.size≤gS) (hN:N≤1000):Own9 wr w.heap.size S (.slice (some ⟨gS,0,none⟩) N N):=by
 obtain ⟨cur,h1,h2⟩:=h.hs
 have hn:=h.hn
 have hl:(S.flatMap Mv.cs).length=N*9:=by rw [has_all_len];omega
 unfold Own9
 rw [show S.length=N by omega]
 refine ⟨hl,.inr ⟨gS,N,cur,rfl,hg,h1,Nat.le_refl _,by unfold maxLen;omega,h2,?_⟩⟩
 apply List.ext_getElem?
 intro j
 by_cases hj:j<N*9
 ·obtain ⟨u,hu⟩ : ∃ u,(S.flatMap Mv.cs)[j]?=some u:=⟨_,zG (by omega)⟩
  have h5:=h.hr j u hu
  rw [zQ h1 _] at h5
  rw [hu,List.getElem?_take_of_lt hj]
  simpa using h5
 ·rw [List.getElem?_eq_none (by simp;omega),List.getElem?_eq_none (by omega)]
theorem fv_p (p:Fd×Value):(fvC p)[26]?=some (.int .i64 p.1.p):=rfl
theorem rr_way (L:List (Fd×Value)) (lv:Value) (B:Nat) (d:Bool) (q:Wi) (w:World) (hL:DRow w B L lv) (hH : ∀ p∈L,Hrd w p.1.x p.2∧p.1.x.h.length≤300) (hLn:L.length≤100) (hp:PreG (L.map (·.1))) :
 Calls Tryz.prog 20 #[lv,.bool d,.agg q.arr] w fun e w'=>∃ v,e = .returned (.tuple #[v,.int .i64 (wayD (meetS q) (L.map (·.1)) d).2])∧Own9 w' w.heap.size (wayD (meetS q) (L.map (·.1)) d).1 v∧Ext w w':=by
 obtain ⟨la,lc,rfl⟩:=own_sl hL
 have HL:=zd hL
 have HH:=zd hH
 have HP:=zd hp
 have hLF : ∀ (i:Nat) (p:Fd×Value),L[i]?=some p→(L.map (·.1))[i]?=some p.1:=fun i p h=>by rw [List.getElem?_map,h];rfl
 have HLF:=zd hLF
 obtain ⟨LF,hlf⟩ : ∃ LF,LF=L.map (·.1):=⟨_,rfl⟩
 rw [←hlf] at HP HLF ⊢
 have HLE:Hid (LF.length=L.length):=zd (by rw [hlf,List.length_map])
 obtain ⟨i0,hi,hz0,hz1,hz2⟩:=info_parts info_move
 have hmk : ∀ (n:Nat),n≤1000→∀ (w:World),∃ cs:Array Value,cs.size=n*9∧(Instr.makeSlice 48 (.int .i64 (n:Int)) (.int .i64 (n:Int))).run Tryz.prog w = .ok (.slice (some ⟨w.heap.size,0,none⟩) n n) (w.alloc (.cells cs 52)):=fun n hn w=>by
  have hr:=run_make (P:=Tryz.prog) w 48 52 i0 _ zu48 hi hz0 .i64 .i64 (n:Int) (n:Int) (by omega) (by omega) (by rw [hz2];omega) (by omega)
  simp only [Int.toNat_natCast] at hr
  exact ⟨_,by rw [size_madeCells,hz1],hr⟩
 have HMK:=zd hmk
 clear hL hH hp hLF hlf hi hz0 hz1 hz2 hmk
 go_enter Tryz.func20,Tryz.ntmps20
 go_upto_region 1 with fail
 refine wp_forget (fun w'=>∃ gq,Hid (gq=w.heap.size)∧Hid (w'.heap[gq]?=some (.cells q.arr 62 (0,0)))∧Hid (Ext w w')) ⟨_,zd rfl,zd (one_new zR).1,zd (one_new zR).2⟩ ?_
 rintro W1 ⟨gq,hgq,HQ1,HE1⟩
 rw [←hgq.out]
 clear hgq
 go_wp2_with fail
 go_loopg [8] L.length (fun g ii wr=>∃ (i:Nat) (z:ExtOf W1),ii = .int .i64 (i:Int)∧i+g=L.length∧wr=z.val∧Hid (∀ f∈LF.take i,meetS q f.x=false))
 case atStart=>exact ⟨0,⟨W1,zR⟩,rfl,by omega,rfl,zd fun f hf=>by simp at hf⟩
 case round=>
  obtain ⟨i,z,rfl,hg,rfl,HN⟩:=hrel
  by_cases hlt:i<L.length
  case neg=>
   have i1 : ¬(i:Int)<(L.length:Int):=by omega
   have HNO:Hid (wayD (meetS q) LF d=([],if d=true then 1 else 2)):=zd (wayD_no fun f hf=>HN.out f (by rw [List.take_of_length_le (by rw [HLE.out];omega)];exact hf))
   rcases d
   ·go_wp2_with fail
    refine ⟨rfl,.tuple #[.slice none 0 0,.int .i64 2],by simp [results,go_sem],?_⟩
    rw [HNO.out]
    exact ⟨_,rfl,World.ownsRow_nil _ _ _ _,HE1.out.trans z.ext⟩
   ·go_wp2_with fail
    refine ⟨rfl,.tuple #[.slice none 0 0,.int .i64 1],by simp [results,go_sem],?_⟩
    rw [HNO.out]
    exact ⟨_,rfl,World.ownsRow_nil _ _ _ _,HE1.out.trans z.ext⟩
  have i1:(i:Int)<(L.length:Int):=by omega
  obtain ⟨p,hp⟩ : ∃ p,L[i]?=some p:=⟨_,zG hlt⟩
  obtain ⟨g0,cap,hlv,hgl,hmx,hrg⟩:=drow_f (HL.out.ext (HE1.out.trans z.ext)) hp
  cases hlv
  unfold maxLen at hmx
  have HRG:=zd (drow_x hrg)
  obtain ⟨hop,hpx⟩:=HH.out p (zE hp)
  have hme:=fun u:ExtOf z.val=>rx_meets p.1.x p.2 q u.val (hop.ext ((HE1.out.trans z.ext).trans u.ext)) (by omega)
  generalize hb:meetS q p.1.x=b at hme
  have HB:=zd hb
  have HME:=zd hme
  have HPI:=zd (HLF.out i p hp)
  clear hme hb hop hrg hp
  go_upto_region 4 with fail
  refine wp_region_ext (by kernel_rfl) (by kernel_rfl) ?_
  repeat (go_big_quiet_step (fail))
  (go_big_quiet_want;refine quiet_load_midA 33 _ rfl g0 (i*36) rfl (p.1.x.arr p.2) (.struct _) (fun j v hj=>HRG.out j v hj) zu33 rfl info_ex ?_;go_big_quiet_on;simp only [Act.put,List.setIfInBounds_toArray,List.set_cons_succ,List.set_cons_zero])
  (go_big_quiet_want;refine quiet_load_rowX 62 _ rfl _ rfl _ q.arr (0,0) _ (heap_ext HQ1.out z.ext) zu62 rfl (info_wish q) ?_;go_big_quiet_on;simp only [Act.put,List.setIfInBounds_toArray,List.set_cons_succ,List.set_cons_zero])
  repeat (go_big_quiet_step ((go_at_call 24;exact calls_ext (HME.out _))))
  refine wpQuiet_nil ?_
  rintro _ ⟨u,rfl⟩
  rcases b
  case false=>
   go_wp2_with fail
   go_roundg (gk - 1)
   case rel=>
    refine ⟨i+1,⟨_,z.ext.val u⟩,rfl,by omega,rfl,zd fun f hf=>?_⟩
    rw [List.take_add_one,HPI.out] at hf
    rcases List.mem_append.1 hf with h|h
    ·exact HN.out f h
    ·simp only [Option.toList_some,List.mem_singleton] at h
     rw [h];exact HB.out
   case measure=>omega
  have HW:Hid (wayD (meetS q) LF d=(wayN LF (i+1) i,0)):=zd (wayD_hit HPI.out HB.out HN.out)
  have HE5:Hid (Ext w u.val):=zd (HE1.out.trans (z.ext.val u))
  generalize u.val=W5 at HE5 ⊢
  clear HME HRG HB HN hg hgl
  have i100:i<100:=by omega
  have HRD:Hid (∀ (k:Nat) (p:Fd×Value) (w':World),L[k]?=some p→Ext W5 w'→w'.cell? ⟨g0,k*36+26,none⟩=some (.int .i64 p.1.p)∧g0<w'.heap.size∧w'.rangeAt g0 (k*36+27) p.1.m.arr.toList):=zd (fun k p w' hk he=>by
   obtain ⟨g1,c1,h1,h2,_,h3⟩:=drow_f (HL.out.ext (HE5.out.trans he)) hk
   cases h1
   refine ⟨h3 26 _ (fv_p p),h2,fun j v hj=>?_⟩
   rw [Nat.add_assoc]
   exact h3 (27+j) v (fv_mv p j v hj))
  go_upto_region 6 with fail
  go_wp2_with fail
  go_loopg [9,10] i (fun g nn kk wr=>∃ n:Nat,nn = .int .i64 (n:Int)∧kk = .int .i64 (g:Int)∧g≤i∧n≤101∧Hid (n+depN LF g=depN LF i)∧wr=W5)
  case atStart=>exact ⟨0,rfl,rfl,Nat.le_refl _,by omega,zd (by omega),rfl⟩
  case round=>
   obtain ⟨n,rfl,rfl,hgi,hn101,HD,rfl⟩:=hrel
   rename World=>W5
   obtain ⟨pk,hpk⟩ : ∃ p,L[gk]?=some p:=⟨_,zG (by omega)⟩
   have hpl:=HP.out gk pk.1 (HLF.out gk pk hpk)
   have hrd:=HRD.out gk pk W5 hpk zR
   have HPK:=zd hpk
   have k1:(gk:Int)<(L.length:Int):=by omega
   obtain ⟨q26,l26,_⟩:=hrd
   rcases hpl with hm1|⟨h0,hlt2⟩
   case inr=>
    obtain ⟨k',hk'⟩ : ∃ k':Nat,pk.1.p=(k':Int):=⟨pk.1.p.toNat,by omega⟩
    rw [hk'] at q26 hlt2
    have HK':=zd hk'
    have HLT2:=zd hlt2
    have n0:(0:Int)≤(k':Int):=by omega
    clear hpk hk' h0 hlt2
    go_wp2_with fail
    go_roundg k'
    case rel=>
     have h1:=dep_up HP.out (HLF.out gk pk HPK.out) (by rw [HK'.out];omega)
     have h5:=wayN_len LF (i+1) i
     have h6:depN LF i=(wayN LF (i+1) i).length:=rfl
     refine ⟨n+1,by simp,rfl,by have:=HLT2.out;omega,by have:=HD.out;omega,zd ?_,rfl⟩
     rw [HK'.out,Int.toNat_natCast] at h1
     have:=HD.out
     omega
    case measure=>have:=HLT2.out;omega
   rw [hm1] at q26
   have hd0:=dep_no (HLF.out gk pk hpk) (by rw [hm1];decide)
   have hnn:n=depN LF i:=by have:=HD.out;omega
   have HNN:=zd hnn
   have hn100:n≤101:=by
    have h1:=wayN_len LF (i+1) i
    unfold depN at hnn
    omega
   clear hpk hm1 hd0 HD hnn
   obtain ⟨cs,hcs,hmk⟩:=HMK.out n (by omega) W5
   have HCS:=zd hcs
   clear hcs
   go_upto_region 11 with fail
   refine wp_forget (fun w'=>∃ gS,Hid (gS=W5.heap.size)∧Hid (WyAt W5 w' gS n n [])) ⟨_,zd rfl,zd ⟨zR.alloc _,⟨cs,heap_new rfl,HCS.out⟩,fun j v hj=>by simp at hj,by simp⟩⟩ ?_
   rintro W6 ⟨gS,hgS,HW6⟩
   rw [←hgS.out]
   have HGS:Hid (W5.heap.size≤gS):=zd (by have:=hgS.out;omega)
   clear hgS hmk q26 l26
   go_wp2_with fail
   go_loopg [9,12] i (fun g nn kk wr=>∃ (m:Nat) (S:List Mv),nn = .int .i64 (m:Int)∧kk = .int .i64 (g:Int)∧g≤i∧Hid (m=depN LF g)∧Hid (wayN LF (i+1) i=wayN LF (g+1) g++S)∧Hid (WyAt W5 wr gS n m S))
   case atStart=>exact ⟨n,[],rfl,rfl,Nat.le_refl _,HNN,zd (by simp),HW6⟩
   case round=>
    clear HW6 HPK
    obtain ⟨m,S,rfl,rfl,hgi2,HM,HS,HY⟩:=hrel
    rename World=>Wr
    obtain ⟨pk,hpk⟩ : ∃ p,L[gk]?=some p:=⟨_,zG (by omega)⟩
    have hpl:=HP.out gk pk.1 (HLF.out gk pk hpk)
    have hrd:=HRD.out gk pk Wr hpk HY.out.e
    have HPK:=zd hpk
    have k1:(gk:Int)<(L.length:Int):=by omega
    obtain ⟨q26,l26,hrm⟩:=hrd
    have HRM:=zd hrm
    clear hrm
    rcases hpl with hm1|⟨h0,hlt2⟩
    case inr=>
     obtain ⟨k',hk'⟩ : ∃ k':Nat,pk.1.p=(k':Int):=⟨pk.1.p.toNat,by omega⟩
     have h1:=dep_up HP.out (HLF.out gk pk hpk) h0
     have h2:=way_yes (f:=gk) (HLF.out gk pk hpk) h0
     rw [hk',Int.toNat_natCast] at h1 h2
     rw [way_fuel HP.out k' gk (k'+1) (by omega) (by omega)] at h2
     obtain ⟨m2,hm2⟩ : ∃ m2,m=m2+1:=⟨depN LF k',by rw [HM.out,h1]⟩
     subst hm2
     have HM2:Hid (m2=depN LF k'):=zd (by have:=HM.out;omega)
     have HW2:=zd h2
     have HK':=zd hk'
     have hmn:m2<n:=by have:=HY.out.hn;omega
     rw [hk'] at q26 hlt2
     have HLT2:=zd hlt2
     have n0:(0:Int)≤(k':Int):=by omega
     have e1:((m2+1:Nat):Int) - 1=(m2:Int):=by omega
     have e2:(m2:Int)+1 - 1=(m2:Int):=by omega
     have b1:(m2:Int)<(n:Int):=by omega
     have HTH:=zd HY.out.there
     have ls:gS<Wr.heap.size:=by
      obtain ⟨cur,hc,_⟩:=HY.out.hs
      exact (zL hc)
     clear hpk hk' h0 hlt2 h1 h2 HM
     go_upto_region 13 with (first|((with_reducible refine wpList_load_midG 52 (.tmp 62) ?_ g0 (gk*36+27) ?_ ?_ pk.1.m.arr.toList _ ?_ zu52 ?_ ?_ ?_);(·rfl);(·rfl);(·kernel_rfl);(·exact HRM.out);(·rfl);(·exact info_mv))|(refine wpList_store_mid rfl 52 (.tmp 64) (.tmp 63) rfl gS (m2*9) pk.1.m.arr.toList.toArray ?_ ?_ ?_ ?_ ?_ ?_;(·rfl);(·rfl);(·exact HTH.out);(·exact info_mv);(·simp [Mv.arr,Value.oneCell'])))
     have HY2:=zd (HY.out.set HGS.out pk.1.m)
     refine wp_forget (fun w'=>Hid (WyAt W5 w' gS n m2 (pk.1.m::S))) HY2 ?_
     rintro W7 HY7
     have hrd7:=HRD.out gk pk W7 HPK.out HY7.out.e
     obtain ⟨q27,l27,_⟩:=hrd7
     rw [HK'.out] at q27
     clear q26 l26 HTH ls HRM HY
     go_wp2_with fail
     go_roundg k'
     case rel=>exact ⟨m2,pk.1.m::S,rfl,rfl,by have:=HLT2.out;omega,HM2,zd (by rw [HS.out,HW2.out,List.append_assoc];rfl),HY7⟩
     case measure=>have:=HLT2.out;omega
    rw [hm1] at q26
    have hm0:m=0:=by rw [HM.out];exact dep_no (HLF.out gk pk hpk) (by rw [hm1];decide)
    subst hm0
    have HSW:Hid (wayN LF (i+1) i=S):=zd (by rw [HS.out,way_no (HLF.out gk pk hpk) (by rw [hm1];decide)];rfl)
    clear hpk hm1 HRM
    go_wp2_with fail
    refine ⟨rfl,.tuple #[.slice (some ⟨gS,0,none⟩) n n,.int .i64 0],by simp [results,go_sem],?_⟩
    rw [HW.out]
    refine ⟨_,rfl,?_,HE5.out.trans HY.out.e⟩
    rw [HSW.out]
    exact own_base (HY.out.own HGS.out (by omega)) HE5.out.size
end Go.Proofs.YtlnmhocehgmbbaaGreatDoor
namespace Go.Proofs.YtlnmhocehgmbbaaGreatDoor
open Go.RowKit
attribute [local go_sem ↓] eql_lEq eql_sEq eql_eEq eql_oEq neq_lEq neq_sEq neq_eEq neq_oEq eql_vEq neq_vEq eql_nil eql_mEq
attribute [local go_sem] ExtOf.cell ExtOf.frozen ExtOf.lt ExtOf.le
attribute [local go_sem high] ExtOf.cell2 ExtOf.frozen2 ExtOf.lt2 ExtOf.cell3 ExtOf.frozen3 ExtOf.lt3
theorem mv_neq (m:Mv) (w:World):(binOp .neq 52 (.agg m.arr) (.agg m.arr)).run Tryz.prog w = .ok (.bool false) w:=by
 unfold Mv.arr
 simp [go_sem,toList_beq]
attribute [local go_sem ↓] mv_neq
theorem lw_moves (L:List Mv) (v v':Value) (w:World) (hR:Row w 9 v L.length (L.flatMap Mv.cs)) (hR':Row w 9 v' L.length (L.flatMap Mv.cs)) :
 Calls Tryz.prog 13 #[v,v'] w fun e w'=>e = .returned (.bool true)∧Ext w w':=by
 obtain ⟨a,cap,rfl,hm,hvw⟩:=row_view hR
 obtain ⟨a',cap',rfl,_,hvw'⟩:=row_view hR'
 have HV:=zd hvw
 have HV':=zd hvw'
 clear hvw hvw' hR hR'
 unfold maxLen at hm
 go_enter Tryz.func13,Tryz.ntmps13
 go_wp2_with fail
 go_loopg [5] L.length (fun g ii wr=>∃ (n:Nat) (y:ExtOf w),ii = .int .i64 (n:Int)∧n+g=L.length∧wr=y.val)
 case atStart=>exact ⟨0,⟨w,zR⟩,rfl,by omega,rfl⟩
 case round=>
  obtain ⟨n,y,rfl,hg,rfl⟩:=hrel
  by_cases hlt:n<L.length
  case neg=>
   have hge : ¬(n:Int)<(L.length:Int):=by omega
   go_wp2_with fail
   go_ret
   exact ⟨rfl,y.ext⟩
  have hlt':(n:Int)<(L.length:Int):=by omega
  obtain ⟨g,off,rfl,hgl,hc⟩:=HV.out (by omega)
  obtain ⟨g',off',rfl,hgl',hc'⟩:=HV'.out (by omega)
  have hgl:=hgl (by omega)
  have hgl':=hgl' (by omega)
  obtain ⟨m,hm0⟩ : ∃ m,L[n]?=some m:=⟨_,zG hlt⟩
  have HM1:=zd (fun (z:World) (e:Ext w z)=>mv_range (fun j u hj=>cell_keep (hc j u hj) e) hm0)
  have HM2:=zd (fun (z:World) (e:Ext w z)=>mv_range (fun j u hj=>cell_keep (hc' j u hj) e) hm0)
  clear hc hc' hm0
  go_upto_region 6 with fail
  refine wp_region_ext (by kernel_rfl) (by kernel_rfl) ?_
  repeat (go_big_quiet_step (fail))
  (go_big_quiet_want;refine quiet_load_midA 52 _ rfl g (off+n*9) rfl m.arr (.struct _) (HM1.out _ y.ext) zu52 rfl info_mv ?_;go_big_quiet_on;simp only [Act.put,List.setIfInBounds_toArray,List.set_cons_succ,List.set_cons_zero])
  repeat (go_big_quiet_step (fail))
  (go_big_quiet_want;refine quiet_load_midA 52 _ rfl g' (off'+n*9) rfl m.arr (.struct _) (HM2.out _ y.ext) zu52 rfl info_mv ?_;go_big_quiet_on;simp only [Act.put,List.setIfInBounds_toArray,List.set_cons_succ,List.set_cons_zero])
  repeat (go_big_quiet_step (fail))
  refine wpQuiet_nil ?_
  rintro _ ⟨u,rfl⟩
  go_wp2_with fail
  go_roundg (gk - 1)
  case rel=>exact ⟨n+1,⟨_,y.ext.val u⟩,rfl,by omega,rfl⟩
  case measure=>omega
section
variable {P:Program} {md:Region.Mode} {ops:Array Oper}
theorem wpAnyT_allocs3 {t n i1 i2 i3:Nat} {o1 o2 o3:Oper} {C:World→Prop} {Q:Exit→Act→World→Prop} {l L3:Array Bool} {a:Act} {w:World} (t1 t2 t3:TypeId) (z1 z2 z3:Array Value) (d1 d2 d3:Tmp) (h12:d1≠d2) (h13:d1≠d3) (h23:d2≠d3)
 (hr:Region.ready md ops l=[i1,i2,i3])
 (r1:Region.ready md ops (l.setIfInBounds i1 true)=[i2,i3]) (r2:Region.ready md ops (l.setIfInBounds i2 true)=[i1,i3]) (r3:Region.ready md ops (l.setIfInBounds i3 true)=[i1,i2])
 (r12:Region.ready md ops ((l.setIfInBounds i1 true).setIfInBounds i2 true)=[i3]) (r13:Region.ready md ops ((l.setIfInBounds i1 true).setIfInBounds i3 true)=[i2])
 (r21:Region.ready md ops ((l.setIfInBounds i2 true).setIfInBounds i1 true)=[i3]) (r23:Region.ready md ops ((l.setIfInBounds i2 true).setIfInBounds i3 true)=[i1])
 (r31:Region.ready md ops ((l.setIfInBounds i3 true).setIfInBounds i1 true)=[i2]) (r32:Region.ready md ops ((l.setIfInBounds i3 true).setIfInBounds i2 true)=[i1])
 (l1:((l.setIfInBounds i1 true).setIfInBounds i2 true).setIfInBounds i3 true=L3) (l1':((l.setIfInBounds i1 true).setIfInBounds i3 true).setIfInBounds i2 true=L3)
 (l2:((l.setIfInBounds i2 true).setIfInBounds i1 true).setIfInBounds i3 true=L3) (l2':((l.setIfInBounds i2 true).setIfInBounds i3 true).setIfInBounds i1 true=L3)
 (l3:((l.setIfInBounds i3 true).setIfInBounds i1 true).setIfInBounds i2 true=L3) (l3':((l.setIfInBounds i3 true).setIfInBounds i2 true).setIfInBounds i1 true=L3)
 (ho1:ops[i1]?=some o1) (ho2:ops[i2]?=some o2) (ho3:ops[i3]?=some o3) (hg1:o1.guard=none) (hg2:o2.guard=none) (hg3:o3.guard=none) (hd1:o1.dst=some d1) (hd2:o2.dst=some d2) (hd3:o3.dst=some d3)
 (e1 : ∀ (a:Act) (w:World),(execOp a.eval o1).run P w = .ok (.value (.pointer (some ⟨w.heap.size,0,none⟩))) (w.alloc (.cells z1 t1)))
 (e2 : ∀ (a:Act) (w:World),(execOp a.eval o2).run P w = .ok (.value (.pointer (some ⟨w.heap.size,0,none⟩))) (w.alloc (.cells z2 t2)))
 (e3 : ∀ (a:Act) (w:World),(execOp a.eval o3).run P w = .ok (.value (.pointer (some ⟨w.heap.size,0,none⟩))) (w.alloc (.cells z3 t3)))
 (hC : ∀ w',Ext w w'→C w')
 (h : ∀ g1 g2 g3 w',w.heap.size≤g1→w.heap.size≤g2→w.heap.size≤g3→g1≠g2→g1≠g3→g2≠g3→w'.heap[g1]?=some (.cells z1 t1 (0,0))→w'.heap[g2]?=some (.cells z2 t2 (0,0))→w'.heap[g3]?=some (.cells z3 t3 (0,0))→Ext w w'→
   wpAnyT P md ops t C Q n L3 (((a.put (some d1) (.pointer (some ⟨g1,0,none⟩))).put (some d2) (.pointer (some ⟨g2,0,none⟩))).put (some d3) (.pointer (some ⟨g3,0,none⟩))) w'):wpAnyT P md ops t C Q (n+3) l a w:=by
 intro wx hwx
 refine ⟨fun h=>absurd (hr.symm.trans h) (by simp),fun j hj=>?_⟩
 rw [hr] at hj
 have fst : ∀ {w1 w2:World} {z:Array Value} {ty:TypeId} {g:Nat},Ext w w1→(w1.alloc (.cells z ty)).heap.size≤g→w.heap.size≤w1.heap.size∧w.heap.size≤g∧w1.heap.size≠g:=fun e hg=>by
  have:=e.size
  simp at hg
  omega
 rcases List.mem_cons.1 hj with rfl|hj
 ·refine wpOp_of_list ho1 (wpList_alloc1 hg1 e1 ⟨fun _=>hC _ (hwx.alloc _),?_⟩)
  refine wpAnyT_allocs t2 t3 z2 z3 d2 d3 h23 r1 r12 r13 l1 l1' ho2 ho3 hg2 hg3 hd2 hd3 e2 e3 (fun w' e=>hC _ ((hwx.alloc _).trans e)) ?_
  intro g2 g3 w' a2 a3 hne k2 k3 e
  rw [hd1]
  have f2:=fst (w2:=w') hwx a2
  have f3:=fst (w2:=w') hwx a3
  exact h _ g2 g3 w' f2.1 f2.2.1 f3.2.1 f2.2.2 f3.2.2 hne (heap_ext (heap_new rfl) e) k2 k3 ((hwx.alloc _).trans e)
 rcases List.mem_cons.1 hj with rfl|hj
 ·refine wpOp_of_list ho2 (wpList_alloc1 hg2 e2 ⟨fun _=>hC _ (hwx.alloc _),?_⟩)
  refine wpAnyT_allocs t1 t3 z1 z3 d1 d3 h13 r2 r21 r23 l2 l2' ho1 ho3 hg1 hg3 hd1 hd3 e1 e3 (fun w' e=>hC _ ((hwx.alloc _).trans e)) ?_
  intro g1 g3 w' a1 a3 hne k1 k3 e
  rw [hd2,put_comm a d2 d1 _ _ (Ne.symm h12)]
  have f1:=fst (w2:=w') hwx a1
  have f3:=fst (w2:=w') hwx a3
  exact h g1 _ g3 w' f1.2.1 f1.1 f3.2.1 (Ne.symm f1.2.2) hne f3.2.2 k1 (heap_ext (heap_new rfl) e) k3 ((hwx.alloc _).trans e)
 ·rw [List.mem_singleton] at hj
  subst hj
  refine wpOp_of_list ho3 (wpList_alloc1 hg3 e3 ⟨fun _=>hC _ (hwx.alloc _),?_⟩)
  refine wpAnyT_allocs t1 t2 z1 z2 d1 d2 h12 r3 r31 r32 l3 l3' ho1 ho2 hg1 hg2 hd1 hd2 e1 e2 (fun w' e=>hC _ ((hwx.alloc _).trans e)) ?_
  intro g1 g2 w' a1 a2 hne k1 k2 e
  rw [hd3,put_comm a d3 d1 _ _ (Ne.symm h13),put_comm _ d3 d2 _ _ (Ne.symm h23)]
  have f1:=fst (w2:=w') hwx a1
  have f2:=fst (w2:=w') hwx a2
  exact h g1 g2 _ w' f1.2.1 f2.2.1 f1.1 hne (Ne.symm f1.2.2) (Ne.symm f2.2.2) k1 k2 (heap_ext (heap_new rfl) e) ((hwx.alloc _).trans e)
end
def seA (x:Ex) (v:Value) (r:Rg) (tv:Value) (q:Wi) (mv:Value):Array Value:=((x.arr v).toList++((r.arr tv).toList++(q.arr.toList++([mv]:List Value)))).toArray
theorem se_range {w:World} {g:Nat} {x:Ex} {v:Value} {r:Rg} {tv:Value} {q:Wi} {mv:Value} (h:w.heap[g]?=some (.cells (seA x v r tv q mv) 64 (0,0))) :
 w.rangeAt g 0 (x.arr v).toList∧w.rangeAt g 26 (r.arr tv).toList∧w.rangeAt g 30 q.arr.toList∧w.cell? ⟨g,35,none⟩=some mv∧g<w.heap.size:=
 ⟨range_of_row h 0 26 _ rfl,range_of_row h 26 4 _ rfl,range_of_row h 30 5 _ rfl,zQ h 35,(zL h)⟩
theorem info_rgA (r:Rg) (tv:Value):(Tryz.prog.info? 36).map (·.size)=some (r.arr tv).size:=by
 rw [show (r.arr tv).size=4 from rfl]
 kernel_rfl
def wiZ:Array Value:=#[.int .i64 0,.int .i64 0,.int .i64 0,.int .i64 0,.int .i64 0]
theorem wi_one (q:Wi):q.arr.all (·.oneCell')=true:=by simp [Wi.arr,Value.oneCell']
theorem moves_ok {evs:St→List Ev} {x:Ex} {r:Rg} {m:Mv} (h:m∈movesR evs x r):(stepX x m).2=true:=by
 unfold movesR at h
 obtain ⟨c,_,hz⟩:=mem_moves.1 (List.mem_filter.1 h).1
 rcases hz with ⟨rfl,he⟩|⟨_,rfl,he⟩
 ·exact he.1
 ·exact he.1
end Go.Proofs.YtlnmhocehgmbbaaGreatDoor

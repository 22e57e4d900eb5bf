/- No condition. -/
import Derived.Test.YtlnmhocehgmbbaaGreatDoorWY25
set_option linter.all false
set_option maxRecDepth 100000
set_option maxHeartbeats 6400000
namespace Go.Proofs.YtlnmhocehgmbbaaGreatDoor
open Go.RowKit
attribute [local go_sem ↓] eql_lEq eql_sEq eql_eEq eql_oEq neq_lEq neq_sEq neq_eEq neq_oEq eql_vEq neq_vEq eql_nil
attribute [local go_sem] ExtOf.cell ExtOf.frozen ExtOf.lt ExtOf.le
attribute [local go_sem high] ExtOf.cell2 ExtOf.frozen2 ExtOf.lt2 ExtOf.cell3 ExtOf.frozen3 ExtOf.lt3
def finB (i j:Int) (y:Ex):Bool:=(finX y 0 && finX y 1) && (decide (y.s0.ph=i) && decide (y.s1.ph=j))
structure Cn (r:Rg) (L:List Ex) (a b00 b01 b10 b11 k:Nat):Prop where
 a:a=(L.map fun y=>(movesR evsS y r).length).sum
 b00:b00=L.countP (finB 6 6)
 b01:b01=L.countP (finB 6 7)
 b10:b10=L.countP (finB 7 6)
 b11:b11=L.countP (finB 7 7)
 k:k=L.countP (fun y=>!okX y)
def cenA (n:Nat) (t:Bool) (a b00 b01 b10 b11 k:Nat):Array Value:=#[.int .i64 (n:Int),.int .i64 (a:Int),.bool t,.int .i64 (b00:Int),.int .i64 (b01:Int),.int .i64 (b10:Int),.int .i64 (b11:Int),.int .i64 (k:Int)]
theorem info_cen:(Tryz.prog.info? 58).map (·.size)=some 8:=by kernel_rfl
theorem fx_range {w:World} {gf:Nat} {p:Fd×Value} (h:w.heap[gf]?=some (.cells (fvC p).toArray 88 (0,0))):w.rangeAt gf 0 (p.1.x.arr p.2).toList:=fun j v hj=>by
 rw [Nat.zero_add,zQ h j]
 have hjl:j<26:=zM hj
 rw [List.getElem?_toArray]
 unfold fvC
 rw [List.getElem?_append_left (by exact hjl)]
 exact hj
theorem Cn.step {r:Rg} {L:List Ex} {a b00 b01 b10 b11 k:Nat} (h:Cn r L a b00 b01 b10 b11 k) (y:Ex) :
 Cn r (L++[y]) (a+(movesR evsS y r).length) (b00+if finB 6 6 y=true then 1 else 0) (b01+if finB 6 7 y=true then 1 else 0) (b10+if finB 7 6 y=true then 1 else 0) (b11+if finB 7 7 y=true then 1 else 0) (k+if okX y=true then 0 else 1):=by
 refine ⟨?_,?_,?_,?_,?_,?_⟩
 ·rw [h.a];simp
 ·rw [h.b00,List.countP_append,List.countP_singleton]
 ·rw [h.b01,List.countP_append,List.countP_singleton]
 ·rw [h.b10,List.countP_append,List.countP_singleton]
 ·rw [h.b11,List.countP_append,List.countP_singleton]
 ·rw [h.k,List.countP_append,List.countP_singleton]
  cases okX y<;>simp
theorem finB_no0 {y:Ex} (h:finX y 0=false) (i j:Int):finB i j y=false:=by simp [finB,h]
theorem finB_no1 {y:Ex} (h:finX y 1=false) (i j:Int):finB i j y=false:=by simp [finB,h]
theorem finB_of {y:Ex} (h0:finX y 0=true) (h1:finX y 1=true) {u v:Int} (hu:y.s0.ph=u) (hv:y.s1.ph=v) (i j:Int):finB i j y=(decide (u=i) && decide (v=j)):=by simp [finB,h0,h1,hu,hv]
theorem fin_ph {y:Ex} (h0:finX y 0=true) (h1:finX y 1=true):(y.s0.ph=6∨y.s0.ph=7)∧(y.s1.ph=6∨y.s1.ph=7):=by
 simp [finX,finS,finA] at h0 h1
 exact ⟨h0.2,h1.2⟩
def CenP (w:World) (r:Rg) (x:Ex) (e:Ending) (w':World):Prop:=
 ∃ a b00 b01 b10 b11 k:Nat,Cn r (allX (mostR r) (movesR evsS · r) x).1 a b00 b01 b10 b11 k∧e = .returned (.agg (cenA (allX (mostR r) (movesR evsS · r) x).1.length (allX (mostR r) (movesR evsS · r) x).2 a b00 b01 b10 b11 k))∧Ext w w'
theorem ex_census (x:Ex) (v:Value) (B0:Nat) (r:Rg) (tv:Value) (w:World) (hO:Own w B0 x.h v) (hn:x.h.length≤100) (hT:Row w 1 tv r.t.length (r.t.map Value.string)) (hTn:r.t.length≤1000) (hm:r.m≤100) (hx:RngX x) (htab:TabW w) :
 Calls Tryz.prog 17 #[.agg (x.arr v),.agg (r.arr tv)] w (CenP w r x):=by
 have hG:=fun w' (hw:Ext w w')=>go_all x v B0 r tv w' (hO.ext hw) hn (hT.ext hw) hTn hm hx (htab.ext hw)
 have HG:=zd hG
 have HT:=zd hT
 clear hG hO hT hx htab
 go_enter Tryz.func17,Tryz.ntmps17
 go_upto_region 1 with fail
 refine wp_forget (fun w'=>∃ gx gr gz,Hid (gx=w.heap.size∧gr=w.heap.size+1∧gz=w.heap.size+1+1)∧ExAt w' gx x v∧RgAt w' gr r tv∧w'.heap[gz]?=some (.cells (cenA 0 false 0 0 0 0 0 0) 58 (0,0))∧Ext w w') ⟨_,_,_,zd ⟨rfl,rfl,rfl⟩,?g1,?g2,?g3,?g4⟩ ?_
 case g1=>exact heap_ext (two_new zR).1 (zR.alloc _)
 case g2=>exact heap_ext (two_new zR).2.1 (zR.alloc _)
 case g3=>exact heap_new (by simp)
 case g4=>exact ((zR.alloc _).alloc _).alloc _
 rintro W1 ⟨gx,gr,gz,hgx,h1,h2,h3,x1⟩
 rw [←hgx.out.2.2,←hgx.out.2.1,←hgx.out.1]
 have HGZ:Hid (w.heap.size≤gz∧gz<W1.heap.size∧w.heap.size≤gr∧gr<gz):=zd (by have h4:=(zL h3);have h5:=hgx.out;omega)
 have HX1:=zd h1
 have HR1:=zd h2
 have HZ1:=zd h3
 have HE1:=zd x1
 clear hgx h1 h2 h3 x1
 go_upto_region 2 with (first|((with_reducible refine wpList_load_rowG ?_ 33 (.tmp 2) ?_ gx ?_ 33 (x.arr v) (0,0) _ ?_ zu33 ?_ ?_ ?_);(·rfl);(·rfl);(·rfl);(·exact HX1.out);(·rfl);(·exact info_ex))|((with_reducible refine wpList_load_rowG ?_ 36 (.tmp 3) ?_ gr ?_ 36 (r.arr tv) (0,0) _ ?_ zu36 ?_ ?_ ?_);(·rfl);(·rfl);(·rfl);(·exact HR1.out);(·rfl);(·exact info_range))|(go_at_call 28;refine (HG.out _ HE1.out).mono ?_;rintro e w2 ⟨L,lv,hL,rfl,hfr,hok,hx2⟩))
 have hgn:=go_never (mostR r) (movesR evsS · r) x
 rw [←hL] at hgn
 rw [hgn.2]
 have HLM:Hid (L.map (·.1.x)=(allX (mostR r) (movesR evsS · r) x).1):=zd (by rw [←hgn.1];simp)
 have HFR:=zd hfr
 have HOK:=zd hok
 have HE2:=zd (HE1.out.trans hx2)
 have HR2:=zd (HR1.out.ext hx2)
 have HZ2:=zd (heap_ext HZ1.out hx2)
 have HW12:=zd hx2.size
 obtain ⟨la,lc,rfl⟩:=own_sl hfr
 have hLm:L.length≤100:=by
  have h1:=all_le1 (mv:=(movesR evsS · r)) (x:=x) (mostR_le hm).1
  rw [←HLM.out,List.length_map] at h1
  exact zT h1 (mostR_le hm).2
 obtain ⟨told,htold⟩ : ∃ t,(allX (mostR r) (movesR evsS · r) x).2=t:=⟨_,rfl⟩
 have HTD:=zd htold
 clear hL hfr hok hx2 hgn HX1 HR1 HZ1
 rw [htold]
 clear htold
 go_upto_region 3 with fail
 refine wp_forget (fun w'=>∃ gC,Hid (gC=w2.heap.size)∧w'.heap[gC]?=some (.cells (cenA L.length told 0 0 0 0 0 0) 58 (0,0))∧Ext w2 w') ⟨w2.heap.size,zd rfl,heap_new rfl,zR.alloc _⟩ ?_
 rintro W3 ⟨gC,HGC,h3,x3⟩
 rw [←HGC.out]
 have HC3:=zd h3
 have HE3:=zd x3
 clear h3 x3
 go_wp2_with fail
 go_loopg [24] L.length (fun g ii wr=>∃ (i:Nat) (z:ExtOf w2) (a b00 b01 b10 b11 k:Nat),ii = .int .i64 (i:Int)∧i+g=L.length∧wr=z.val∧Hid (wr.heap[gC]?=some (.cells (cenA L.length told a b00 b01 b10 b11 k) 58 (0,0)))∧Hid (Cn r ((L.take i).map (·.1.x)) a b00 b01 b10 b11 k)∧a≤i*10000∧b00≤i∧b01≤i∧b10≤i∧b11≤i∧k≤i)
 case atStart=>exact ⟨0,⟨W3,HE3.out⟩,0,0,0,0,0,0,rfl,by omega,rfl,HC3,zd ⟨rfl,rfl,rfl,rfl,rfl,rfl⟩,by omega,by omega,by omega,by omega,by omega,by omega⟩
 case round=>
  obtain ⟨i,z,a,b00,b01,b10,b11,k,rfl,hg,rfl,HC,HCn,ba,bb1,bb2,bb3,bb4,bk⟩:=hrel
  by_cases hlt:i<L.length
  case neg=>
   have i1 : ¬(i:Int)<(L.length:Int):=by omega
   go_wp2_with (first|((with_reducible refine wpList_load_rowG ?_ 58 (.tmp 8) ?_ gC ?_ 58 (cenA L.length told a b00 b01 b10 b11 k) (0,0) _ ?_ zu58 ?_ ?_ ?_);(·rfl);(·rfl);(·rfl);(·exact HC.out);(·rfl);(·exact info_cen))|((with_reducible refine wpList_store_row ?_ 58 (.tmp 4) (.tmp 75) ?_ gz (cenA L.length told a b00 b01 b10 b11 k) ?_ ?_ 58 (cenA 0 false 0 0 0 0 0 0) ?_ ?_ ?_ ?_ ?_);(·rfl);(·rfl);(·rfl);(·rfl);(·exact heap_ext HZ2.out z.ext);(·exact info_cen);(·rfl);(·simp [cenA,Value.oneCell'])))
   have hcn:=HCn.out
   rw [List.take_of_length_le (by omega),HLM.out] at hcn
   have hll:(allX (mostR r) (movesR evsS · r) x).1.length=L.length:=by rw [←HLM.out,List.length_map]
   refine bodyPost_ret (results_cell_row rfl _ _ _ _ _ (0,0) _ rfl (setRow_heap _ _ _ _ _ _ (heap_ext HZ2.out z.ext)) zu58 rfl info_cen) rfl ⟨a,b00,b01,b10,b11,k,hcn,?_,?_⟩
   ·rw [hll,HTD.out]
   ·exact Ext.setRow (HE2.out.trans z.ext) (HGZ.out.1) _
  have i1:(i:Int)<(L.length:Int):=by omega
  obtain ⟨p,hp⟩ : ∃ p,L[i]?=some p:=⟨_,zG hlt⟩
  obtain ⟨g0,cap,hlv,hgl,hmx,hrg⟩:=frow_f HFR.out hp
  cases hlv
  unfold maxLen at hmx
  obtain ⟨⟨Bp,hop⟩,hpx⟩:=HOK.out p (zE hp)
  have hp1:p.2.oneCell'=true:=by obtain ⟨sa,sn,hsv⟩:=own_sl hop;rw [hsv];rfl
  have HP:=zd hp
  have HRG:=zd hrg
  have HOP:=zd hop
  clear hrg hp hop
  go_upto_region 6 with (first|((with_reducible refine wpList_load_midG 88 (.tmp 26) ?_ g0 (i*36) ?_ ?_ (fvC p) _ ?_ zu88 ?_ ?_ ?_);(·rfl);(·rfl);(·kernel_rfl);(·exact fun j v hj=>cell_keep (HRG.out j v hj) z.ext);(·rfl);(·exact info_fdL p))|(refine wpList_store_row rfl 88 _ _ rfl z.val.heap.size _ rfl rfl 88 _ (heap_new rfl) (info_fdA p) rfl (fd_one p hp1) ?_))
  have x5:Ext z.val _:=(((Ext.refl z.val).alloc (.cells #[.int .u64 0,.int .i64 0,.int .u64 0,.string { data:=#[] },.int .i64 0,.int .i64 0,.int .i64 0,.int .u64 0,.string { data:=#[] },.bool false,.int .i64 0,.int .u64 0,.string { data:=#[] },.int .i64 0,.int .i64 0,.int .i64 0,.int .u64 0,.string { data:=#[] },.bool false,.int .u64 0,.int .i64 0,.string { data:=#[] },.bool false,.bool false,.bool false,.slice none 0 0,.int .i64 0,.int .i64 0,.int .i64 0,.string { data:=#[] },.int .i64 0,.int .i64 0,.int .u64 0,.string { data:=#[] },.bool false,.bool false] 88)).setRow zN (fvC p).toArray)
  refine wp_forget (fun w'=>∃ (gf:Nat) (y:ExtOf w2),Hid (gf=z.val.heap.size)∧w'=y.val∧Hid (w'.heap[gf]?=some (.cells (fvC p).toArray 88 (0,0))∧w'.heap[gC]?=some (.cells (cenA L.length told a b00 b01 b10 b11 k) 58 (0,0)))) ⟨z.val.heap.size,⟨_,z.ext.trans x5⟩,zd rfl,rfl,zd ⟨setRow_heap _ _ _ _ _ _ (heap_new rfl),heap_ext HC.out x5⟩⟩ ?_
  rintro W5 ⟨gf,y,HGF,rfl,H5⟩
  rw [←HGF.out]
  have HGFC:Hid (w2.heap.size≤gC):=zd (by have:=HGC.out;omega)
  have HGne:Hid (gf≠gC):=zd fun e=>by
   have h1:=H5.out.1
   rw [e,H5.out.2] at h1
   simp only [Option.some.injEq,Obj.cells.injEq] at h1
   exact absurd h1.2.1 (by decide)
  clear HGF x5 HRG HC hgl
  have hM:=fun w' (hw:Ext y.val w')=>ex_moves p.1.x p.2 r tv w' Bp (own_ext HOP.out (y.ext.trans hw)) (zT hpx.2 (by omega)) (Row.ext HT.out (HE2.out.trans (y.ext.trans hw))) hTn
  have hml:(movesR evsS p.1.x r).length≤10000:=by
   rw [movesR_eq]
   exact zT (List.length_filter_le _ _) (movesS_len _ _ hTn)
  have HMs:Hid ((movesR evsS p.1.x r).length=(movesR evsS p.1.x r).length):=zd rfl
  generalize hms:movesR evsS p.1.x r=ms at hM hml HMs
  have HMS:=zd hms
  have HM:=zd hM
  clear hms hM HMs
  have qc1:y.val.cell? ⟨gC,1,none⟩=some (.int .i64 (a:Int)):=zQ H5.out.2 1
  have lc1:gC<y.val.heap.size:=zL H5.out.2
  have HFX:=zd (fx_range H5.out.1)
  have HR5:=zd (HR2.out.ext y.ext)
  simp only [Act.put]
  refine wp_region_mixT (af:=?af) [true,true,true,true,true,false,false,false,false,false] 76 (Ext y.val) (by kernel_rfl) rfl (by kernel_rfl) (fun _ _ h e=>Ext.trans h e) zR.drew ?q6 ?r6
  case q6=>
   intro w' hw'
   obtain ⟨y1,rfl⟩:=ext_of hw'
   simp only [pickT,if_true,if_false,Bool.false_eq_true]
   repeat (go_big_quiet_step (fail))
   (go_big_quiet_want;refine quiet_load_midA 33 _ rfl gf (0) rfl (p.1.x.arr p.2) (.struct _) (fun j v hj=>cell_keep (HFX.out j v hj) y1.ext) zu33 rfl info_ex ?_;go_big_quiet_on;simp only [Act.put,List.setIfInBounds_toArray,List.set_cons_succ,List.set_cons_zero])
   (go_big_quiet_want;refine quiet_load_rowX 36 _ rfl _ rfl _ _ (0,0) _ (heap_ext HR5.out y1.ext) zu36 rfl info_range ?_;go_big_quiet_on;simp only [Act.put,List.setIfInBounds_toArray,List.set_cons_succ,List.set_cons_zero])
   repeat (go_big_quiet_step (fail))
   exact rfl
  case r6=>
   simp only [pickF,if_true,if_false,Bool.false_eq_true]
   intro x1
   go_wp2_with fail
   refine (HM.out _ ((Ext.refl y.val).drew.val x1)).mono ?_
   rintro e w7 ⟨mv,rfl,ho7,hx7⟩
   have e7:Ext y.val w7:=((Ext.refl y.val).drew.val x1).trans hx7
   obtain ⟨va7,vc7,rfl⟩:=own_sl ho7
   go_wp2_with fail
   refine ⟨fun _=>e7,?_⟩
   intro x2
   go_wp2_with fail
   refine ⟨fun _=>e7.val x2,?_⟩
   intro x3
   go_wp2_with fail
   refine ⟨fun _=>(e7.val x2).val x3,?_⟩
   intro x35
   go_wp2_with fail
   refine ⟨fun _=>((e7.val x2).val x3).val x35,?_⟩
   intro x4
   have e4:=(((e7.val x2).val x3).val x35).val x4
   have hC4:=heap_ext H5.out.2 e4
   have HF4:=zd (heap_ext H5.out.1 e4)
   have HE4:=zd (y.ext.trans e4)
   clear e4
   clear ho7 hx7
   have q4:x4.val.cell? ⟨gC,1,none⟩=some (.int .i64 (a:Int)):=zQ hC4 1
   have f4:=zF hC4 1
   have l4:gC<x4.val.heap.size:=zL hC4
   have HC4:=zd hC4
   clear hC4
   go_wp2_with fail
   refine ⟨fun h=>absurd rfl h,?_⟩
   intro x5
   have hC6:x5.val.heap[gC]?=some (.cells (cenA L.length told (a+ms.length) b00 b01 b10 b11 k) 58 (0,0)):=heap_ext (by
    have:=setCell_row HC4.out (o:=1) (.int .i64 ((a:Int)+(ms.length:Int)))
    rw [this]
    simp [cenA]) x5.ext
   have hF6:x5.val.heap[gf]?=some (.cells (fvC p).toArray 88 (0,0)):=heap_ext ((cell_other HGne.out).trans HF4.out) x5.ext
   have hE6:Ext w2 x5.val:=(HE4.out.setCell (by exact HGFC.out) _).val x5
   obtain ⟨y6,hy6⟩:=ext_of hE6
   rw [hy6] at hC6 hF6 ⊢
   have HC6:=zd hC6
   have HF6:=zd hF6
   clear hC6 hF6 hE6 hy6 HC4 HF4 HE4 q4 f4 l4 x5 x4 x35 x3 x2 e7 x1 HM HR5 qc1 lc1 H5 HFX
   have HFX6:=zd (fx_range HF6.out)
   rcases hf0:finX p.1.x 0
   case false=>
    go_upto_region 9 with (first|((with_reducible refine wpList_load_midG 33 (.tmp 37) ?_ gf (0) ?_ ?_ [.int .u64 p.1.x.c,.int .i64 p.1.x.s0.r,.int .u64 p.1.x.s0.c,.string p.1.x.s0.t,.int .i64 p.1.x.s0.ph,.int .i64 p.1.x.s0.p.k,.int .i64 p.1.x.s0.p.f,.int .u64 p.1.x.s0.p.c,.string p.1.x.s0.p.t,.bool p.1.x.s0.p.b,.int .i64 p.1.x.s1.r,.int .u64 p.1.x.s1.c,.string p.1.x.s1.t,.int .i64 p.1.x.s1.ph,.int .i64 p.1.x.s1.p.k,.int .i64 p.1.x.s1.p.f,.int .u64 p.1.x.s1.p.c,.string p.1.x.s1.p.t,.bool p.1.x.s1.p.b,.int .u64 p.1.x.v.c,.int .i64 p.1.x.v.k,.string p.1.x.v.t,.bool p.1.x.b0,.bool p.1.x.b1,.bool p.1.x.full,p.2] _ ?_ zu33 ?_ ?_ ?_);(·rfl);(·rfl);(·kernel_rfl);(·exact HFX6.out);(·rfl);(·exact info_exL p))|(go_at_call 36;refine (mo_final p.1.x p.2 0 _ (.inl rfl)).mono ?_;rintro e w81 ⟨rfl,hxw81⟩;rw [hf0]))
    have HC9:=zd (heap_ext HC6.out hxw81)
    have HF9:=zd (heap_ext HF6.out hxw81)
    have HE9:=zd (y6.ext.trans hxw81)
    have HFX9:=zd (fx_range HF9.out)
    have HBR:=zd (mo_broken p.1.x p.2 _ (Row.of_own (own_ext HOP.out HE9.out)) (zT hpx.2 (by omega)))
    rcases hko:okX p.1.x
    case false=>
     go_wp2_with (first|((with_reducible refine wpList_load_midG 33 (.tmp 65) ?_ gf (0) ?_ ?_ [.int .u64 p.1.x.c,.int .i64 p.1.x.s0.r,.int .u64 p.1.x.s0.c,.string p.1.x.s0.t,.int .i64 p.1.x.s0.ph,.int .i64 p.1.x.s0.p.k,.int .i64 p.1.x.s0.p.f,.int .u64 p.1.x.s0.p.c,.string p.1.x.s0.p.t,.bool p.1.x.s0.p.b,.int .i64 p.1.x.s1.r,.int .u64 p.1.x.s1.c,.string p.1.x.s1.t,.int .i64 p.1.x.s1.ph,.int .i64 p.1.x.s1.p.k,.int .i64 p.1.x.s1.p.f,.int .u64 p.1.x.s1.p.c,.string p.1.x.s1.p.t,.bool p.1.x.s1.p.b,.int .u64 p.1.x.v.c,.int .i64 p.1.x.v.k,.string p.1.x.v.t,.bool p.1.x.b0,.bool p.1.x.b1,.bool p.1.x.full,p.2] _ ?_ zu33 ?_ ?_ ?_);(·rfl);(·rfl);(·kernel_rfl);(·exact HFX9.out);(·rfl);(·exact info_exL p))|(go_at_call 37;refine HBR.out.mono ?_;rintro e w9 ⟨ba,bn,bc,rfl,hbn,hx9⟩;rw [hko] at hbn;have hbn1:(0:Int)<(bn:Int):=(by simp at hbn;omega);have hc9:=heap_ext HC9.out hx9;have q7:w9.cell? ⟨gC,7,none⟩=some (.int .i64 (k:Int)):=zQ hc9 7;have f7:=zF hc9 7;have l7:gC<w9.heap.size:=(zL hc9);have HC99:=zd hc9;clear hc9))
     go_roundg (gk - 1)
     case rel=>
      refine ⟨i+1,⟨_,(HE9.out.trans hx9).setCell HGFC.out _⟩,a+ms.length,b00,b01,b10,b11,k+1,by simp,by omega,rfl,zd ?_,zd ?_,by omega,by omega,by omega,by omega,by omega,by omega⟩
      ·show (w9.setCell ⟨gC,7,none⟩ _).heap[gC]?=_
       rw [setCell_row HC99.out (o:=7)]
       simp [cenA]
      ·have h1:=HCn.out.step p.1.x
       rw [HMS.out,finB_no0 hf0,finB_no0 hf0,finB_no0 hf0,finB_no0 hf0,hko] at h1
       simp at h1
       rw [take_map _ HP.out,List.map_take]
       exact h1
     case measure=>omega
    case true=>
     go_wp2_with (first|((with_reducible refine wpList_load_midG 33 (.tmp 65) ?_ gf (0) ?_ ?_ [.int .u64 p.1.x.c,.int .i64 p.1.x.s0.r,.int .u64 p.1.x.s0.c,.string p.1.x.s0.t,.int .i64 p.1.x.s0.ph,.int .i64 p.1.x.s0.p.k,.int .i64 p.1.x.s0.p.f,.int .u64 p.1.x.s0.p.c,.string p.1.x.s0.p.t,.bool p.1.x.s0.p.b,.int .i64 p.1.x.s1.r,.int .u64 p.1.x.s1.c,.string p.1.x.s1.t,.int .i64 p.1.x.s1.ph,.int .i64 p.1.x.s1.p.k,.int .i64 p.1.x.s1.p.f,.int .u64 p.1.x.s1.p.c,.string p.1.x.s1.p.t,.bool p.1.x.s1.p.b,.int .u64 p.1.x.v.c,.int .i64 p.1.x.v.k,.string p.1.x.v.t,.bool p.1.x.b0,.bool p.1.x.b1,.bool p.1.x.full,p.2] _ ?_ zu33 ?_ ?_ ?_);(·rfl);(·rfl);(·kernel_rfl);(·exact HFX9.out);(·rfl);(·exact info_exL p))|(go_at_call 37;refine HBR.out.mono ?_;rintro e w9 ⟨ba,bn,bc,rfl,hbn,hx9⟩;rw [hko] at hbn;have hbn1 : ¬(0:Int)<(bn:Int):=(by simp at hbn;omega)))
     go_roundg (gk - 1)
     case rel=>
      refine ⟨i+1,⟨w9,HE9.out.trans hx9⟩,a+ms.length,b00,b01,b10,b11,k,by simp,by omega,rfl,zd (heap_ext HC9.out hx9),zd ?_,by omega,by omega,by omega,by omega,by omega,by omega⟩
      have h1:=HCn.out.step p.1.x
      rw [HMS.out,finB_no0 hf0,finB_no0 hf0,finB_no0 hf0,finB_no0 hf0,hko] at h1
      simp at h1
      rw [take_map _ HP.out,List.map_take]
      exact h1
     case measure=>omega
   rcases hf1:finX p.1.x 1
   case false=>
    go_upto_region 9 with (first|((with_reducible refine wpList_load_midG 33 (.tmp 37) ?_ gf (0) ?_ ?_ [.int .u64 p.1.x.c,.int .i64 p.1.x.s0.r,.int .u64 p.1.x.s0.c,.string p.1.x.s0.t,.int .i64 p.1.x.s0.ph,.int .i64 p.1.x.s0.p.k,.int .i64 p.1.x.s0.p.f,.int .u64 p.1.x.s0.p.c,.string p.1.x.s0.p.t,.bool p.1.x.s0.p.b,.int .i64 p.1.x.s1.r,.int .u64 p.1.x.s1.c,.string p.1.x.s1.t,.int .i64 p.1.x.s1.ph,.int .i64 p.1.x.s1.p.k,.int .i64 p.1.x.s1.p.f,.int .u64 p.1.x.s1.p.c,.string p.1.x.s1.p.t,.bool p.1.x.s1.p.b,.int .u64 p.1.x.v.c,.int .i64 p.1.x.v.k,.string p.1.x.v.t,.bool p.1.x.b0,.bool p.1.x.b1,.bool p.1.x.full,p.2] _ ?_ zu33 ?_ ?_ ?_);(·rfl);(·rfl);(·kernel_rfl);(·exact HFX6.out);(·rfl);(·exact info_exL p))|((with_reducible refine wpList_load_midG 33 (.tmp 41) ?_ gf (0) ?_ ?_ [.int .u64 p.1.x.c,.int .i64 p.1.x.s0.r,.int .u64 p.1.x.s0.c,.string p.1.x.s0.t,.int .i64 p.1.x.s0.ph,.int .i64 p.1.x.s0.p.k,.int .i64 p.1.x.s0.p.f,.int .u64 p.1.x.s0.p.c,.string p.1.x.s0.p.t,.bool p.1.x.s0.p.b,.int .i64 p.1.x.s1.r,.int .u64 p.1.x.s1.c,.string p.1.x.s1.t,.int .i64 p.1.x.s1.ph,.int .i64 p.1.x.s1.p.k,.int .i64 p.1.x.s1.p.f,.int .u64 p.1.x.s1.p.c,.string p.1.x.s1.p.t,.bool p.1.x.s1.p.b,.int .u64 p.1.x.v.c,.int .i64 p.1.x.v.k,.string p.1.x.v.t,.bool p.1.x.b0,.bool p.1.x.b1,.bool p.1.x.full,p.2] _ ?_ zu33 ?_ ?_ ?_);(·rfl);(·rfl);(·kernel_rfl);(·exact (fun j v hj=>cell_keep (HFX6.out j v hj) hxA));(·rfl);(·exact info_exL p))|(go_at_call 36;refine (mo_final p.1.x p.2 _ _ (by first|exact Or.inl rfl|exact Or.inr rfl)).mono ?_;rintro e w8 ⟨rfl,hx8⟩;first|(have hxB:=hxA.trans hx8;rw [hf1])|(have hxA:=hx8;rw [hf0])))
    have hx82:=hxB
    have HC9:=zd (heap_ext HC6.out hx82)
    have HF9:=zd (heap_ext HF6.out hx82)
    have HE9:=zd (y6.ext.trans hx82)
    have HFX9:=zd (fx_range HF9.out)
    have HBR:=zd (mo_broken p.1.x p.2 _ (Row.of_own (own_ext HOP.out HE9.out)) (zT hpx.2 (by omega)))
    rcases hko:okX p.1.x
    case false=>
     go_wp2_with (first|((with_reducible refine wpList_load_midG 33 (.tmp 65) ?_ gf (0) ?_ ?_ [.int .u64 p.1.x.c,.int .i64 p.1.x.s0.r,.int .u64 p.1.x.s0.c,.string p.1.x.s0.t,.int .i64 p.1.x.s0.ph,.int .i64 p.1.x.s0.p.k,.int .i64 p.1.x.s0.p.f,.int .u64 p.1.x.s0.p.c,.string p.1.x.s0.p.t,.bool p.1.x.s0.p.b,.int .i64 p.1.x.s1.r,.int .u64 p.1.x.s1.c,.string p.1.x.s1.t,.int .i64 p.1.x.s1.ph,.int .i64 p.1.x.s1.p.k,.int .i64 p.1.x.s1.p.f,.int .u64 p.1.x.s1.p.c,.string p.1.x.s1.p.t,.bool p.1.x.s1.p.b,.int .u64 p.1.x.v.c,.int .i64 p.1.x.v.k,.string p.1.x.v.t,.bool p.1.x.b0,.bool p.1.x.b1,.bool p.1.x.full,p.2] _ ?_ zu33 ?_ ?_ ?_);(·rfl);(·rfl);(·kernel_rfl);(·exact HFX9.out);(·rfl);(·exact info_exL p))|(go_at_call 37;refine HBR.out.mono ?_;rintro e w9 ⟨ba,bn,bc,rfl,hbn,hx9⟩;rw [hko] at hbn;have hbn1:(0:Int)<(bn:Int):=(by simp at hbn;omega);have hc9:=heap_ext HC9.out hx9;have q7:w9.cell? ⟨gC,7,none⟩=some (.int .i64 (k:Int)):=zQ hc9 7;have f7:=zF hc9 7;have l7:gC<w9.heap.size:=(zL hc9);have HC99:=zd hc9;clear hc9))
     go_roundg (gk - 1)
     case rel=>
      refine ⟨i+1,⟨_,(HE9.out.trans hx9).setCell HGFC.out _⟩,a+ms.length,b00,b01,b10,b11,k+1,by simp,by omega,rfl,zd ?_,zd ?_,by omega,by omega,by omega,by omega,by omega,by omega⟩
      ·show (w9.setCell ⟨gC,7,none⟩ _).heap[gC]?=_
       rw [setCell_row HC99.out (o:=7)]
       simp [cenA]
      ·have h1:=HCn.out.step p.1.x
       rw [HMS.out,finB_no1 hf1,finB_no1 hf1,finB_no1 hf1,finB_no1 hf1,hko] at h1
       simp at h1
       rw [take_map _ HP.out,List.map_take]
       exact h1
     case measure=>omega
    case true=>
     go_wp2_with (first|((with_reducible refine wpList_load_midG 33 (.tmp 65) ?_ gf (0) ?_ ?_ [.int .u64 p.1.x.c,.int .i64 p.1.x.s0.r,.int .u64 p.1.x.s0.c,.string p.1.x.s0.t,.int .i64 p.1.x.s0.ph,.int .i64 p.1.x.s0.p.k,.int .i64 p.1.x.s0.p.f,.int .u64 p.1.x.s0.p.c,.string p.1.x.s0.p.t,.bool p.1.x.s0.p.b,.int .i64 p.1.x.s1.r,.int .u64 p.1.x.s1.c,.string p.1.x.s1.t,.int .i64 p.1.x.s1.ph,.int .i64 p.1.x.s1.p.k,.int .i64 p.1.x.s1.p.f,.int .u64 p.1.x.s1.p.c,.string p.1.x.s1.p.t,.bool p.1.x.s1.p.b,.int .u64 p.1.x.v.c,.int .i64 p.1.x.v.k,.string p.1.x.v.t,.bool p.1.x.b0,.bool p.1.x.b1,.bool p.1.x.full,p.2] _ ?_ zu33 ?_ ?_ ?_);(·rfl);(·rfl);(·kernel_rfl);(·exact HFX9.out);(·rfl);(·exact info_exL p))|(go_at_call 37;refine HBR.out.mono ?_;rintro e w9 ⟨ba,bn,bc,rfl,hbn,hx9⟩;rw [hko] at hbn;have hbn1 : ¬(0:Int)<(bn:Int):=(by simp at hbn;omega)))
     go_roundg (gk - 1)
     case rel=>
      refine ⟨i+1,⟨w9,HE9.out.trans hx9⟩,a+ms.length,b00,b01,b10,b11,k,by simp,by omega,rfl,zd (heap_ext HC9.out hx9),zd ?_,by omega,by omega,by omega,by omega,by omega,by omega⟩
      have h1:=HCn.out.step p.1.x
      rw [HMS.out,finB_no1 hf1,finB_no1 hf1,finB_no1 hf1,finB_no1 hf1,hko] at h1
      simp at h1
      rw [take_map _ HP.out,List.map_take]
      exact h1
     case measure=>omega
   go_upto_region 8 with (first|((with_reducible refine wpList_load_midG 33 (.tmp 37) ?_ gf (0) ?_ ?_ [.int .u64 p.1.x.c,.int .i64 p.1.x.s0.r,.int .u64 p.1.x.s0.c,.string p.1.x.s0.t,.int .i64 p.1.x.s0.ph,.int .i64 p.1.x.s0.p.k,.int .i64 p.1.x.s0.p.f,.int .u64 p.1.x.s0.p.c,.string p.1.x.s0.p.t,.bool p.1.x.s0.p.b,.int .i64 p.1.x.s1.r,.int .u64 p.1.x.s1.c,.string p.1.x.s1.t,.int .i64 p.1.x.s1.ph,.int .i64 p.1.x.s1.p.k,.int .i64 p.1.x.s1.p.f,.int .u64 p.1.x.s1.p.c,.string p.1.x.s1.p.t,.bool p.1.x.s1.p.b,.int .u64 p.1.x.v.c,.int .i64 p.1.x.v.k,.string p.1.x.v.t,.bool p.1.x.b0,.bool p.1.x.b1,.bool p.1.x.full,p.2] _ ?_ zu33 ?_ ?_ ?_);(·rfl);(·rfl);(·kernel_rfl);(·exact HFX6.out);(·rfl);(·exact info_exL p))|((with_reducible refine wpList_load_midG 33 (.tmp 41) ?_ gf (0) ?_ ?_ [.int .u64 p.1.x.c,.int .i64 p.1.x.s0.r,.int .u64 p.1.x.s0.c,.string p.1.x.s0.t,.int .i64 p.1.x.s0.ph,.int .i64 p.1.x.s0.p.k,.int .i64 p.1.x.s0.p.f,.int .u64 p.1.x.s0.p.c,.string p.1.x.s0.p.t,.bool p.1.x.s0.p.b,.int .i64 p.1.x.s1.r,.int .u64 p.1.x.s1.c,.string p.1.x.s1.t,.int .i64 p.1.x.s1.ph,.int .i64 p.1.x.s1.p.k,.int .i64 p.1.x.s1.p.f,.int .u64 p.1.x.s1.p.c,.string p.1.x.s1.p.t,.bool p.1.x.s1.p.b,.int .u64 p.1.x.v.c,.int .i64 p.1.x.v.k,.string p.1.x.v.t,.bool p.1.x.b0,.bool p.1.x.b1,.bool p.1.x.full,p.2] _ ?_ zu33 ?_ ?_ ?_);(·rfl);(·rfl);(·kernel_rfl);(·exact (fun j v hj=>cell_keep (HFX6.out j v hj) hxA));(·rfl);(·exact info_exL p))|(go_at_call 36;refine (mo_final p.1.x p.2 _ _ (by first|exact Or.inl rfl|exact Or.inr rfl)).mono ?_;rintro e w8 ⟨rfl,hx8⟩;first|(have hxB:=hxA.trans hx8;rw [hf1])|(have hxA:=hx8;rw [hf0])))
   have HC8:=zd (heap_ext HC6.out hxB)
   have HF8:=zd (heap_ext HF6.out hxB)
   have HE8:=zd (y6.ext.trans hxB)
   have lc8:gC<w8.heap.size:=zL HC8.out
   have lf8:gf<w8.heap.size:=zL HF8.out
   rcases fin_ph hf0 hf1 with ⟨hu|hu,hv|hv⟩
   ·skip
    have q4:w8.cell? ⟨gf,4,none⟩=some (.int .i64 6):=(zQ HF8.out 4).trans (congrArg (fun z=>some (Value.int .i64 z)) hu)
    have q13:w8.cell? ⟨gf,13,none⟩=some (.int .i64 6):=(zQ HF8.out 13).trans (congrArg (fun z=>some (Value.int .i64 z)) hv)
    have qc:w8.cell? ⟨gC,3,none⟩=some (.int .i64 (b00:Int)):=zQ HC8.out 3
    have HU:=zd hu
    have HV:=zd hv
    clear hu hv
    refine wp_region_mixT (af:=?af66) [true,true,true,true,true,true,true,true,true,true,true,true,true,true,true,true,true,false,false,false,false] 76 (Ext w8) (by kernel_rfl) rfl (by kernel_rfl) (fun _ _ h e=>Ext.trans h e) zR.drew ?q66 ?r66
    case q66=>
     intro w' hw'
     obtain ⟨y1,rfl⟩:=ext_of hw'
     simp only [pickT,if_true,if_false,Bool.false_eq_true]
     repeat (go_big_quiet_step (fail))
     exact rfl
    case r66=>
     simp only [pickF,if_true,if_false,Bool.false_eq_true]
     intro x11
     go_wp2_with fail
     refine ⟨fun _=>(Ext.refl w8).drew.val x11,?_⟩
     intro x12
     go_wp2_with fail
     refine ⟨fun _=>((Ext.refl w8).drew.val x11).val x12,?_⟩
     intro x13
     go_wp2_with fail
     refine ⟨fun _=>(((Ext.refl w8).drew.val x11).val x12).val x13,?_⟩
     intro x1
     have e1:=(((Ext.refl w8).drew.val x11).val x12).val x13 |>.val x1
     have hC1:=heap_ext HC8.out e1
     have HF1:=zd (heap_ext HF8.out e1)
     have HE1':=zd (HE8.out.trans e1)
     have q1:x1.val.cell? ⟨gC,3,none⟩=some (.int .i64 (b00:Int)):=zQ hC1 3
     have f1:=zF hC1 3
     have l1:gC<x1.val.heap.size:=zL hC1
     have HC1:=zd hC1
     clear hC1 e1 q4 q13 qc
     go_wp2_with fail
     refine ⟨fun h=>absurd rfl h,?_⟩
     intro x2
     have hC9:x2.val.heap[gC]?=some (.cells (cenA L.length told (a+ms.length) (b00+1) (b01) (b10) (b11) k) 58 (0,0)):=heap_ext (by
      have:=setCell_row HC1.out (o:=3) (.int .i64 ((b00:Int)+1))
      rw [this]
      simp [cenA]) x2.ext
     have HF9:=zd (heap_ext ((cell_other HGne.out).trans HF1.out) x2.ext:x2.val.heap[gf]?=some (.cells (fvC p).toArray 88 (0,0)))
     have HE9:Hid (Ext w2 x2.val):=zd ((HE1'.out.setCell (by exact HGFC.out) _).val x2)
     have HC9:=zd hC9
     clear hC9 q1 f1 l1 HC1 HF1 HE1' lc8 lf8 HC8 HF8 HE8
     generalize x2.val=W9 at HC9 HF9 HE9 ⊢
     clear x2 x1 x13 x12 x11
     go_upto_region 9 with fail
     have HFX9:=zd (fx_range HF9.out)
     have HBR:=zd (mo_broken p.1.x p.2 _ (Row.of_own (own_ext HOP.out HE9.out)) (zT hpx.2 (by omega)))
     rcases hko:okX p.1.x
     case false=>
      go_wp2_with (first|((with_reducible refine wpList_load_midG 33 (.tmp 65) ?_ gf (0) ?_ ?_ [.int .u64 p.1.x.c,.int .i64 p.1.x.s0.r,.int .u64 p.1.x.s0.c,.string p.1.x.s0.t,.int .i64 p.1.x.s0.ph,.int .i64 p.1.x.s0.p.k,.int .i64 p.1.x.s0.p.f,.int .u64 p.1.x.s0.p.c,.string p.1.x.s0.p.t,.bool p.1.x.s0.p.b,.int .i64 p.1.x.s1.r,.int .u64 p.1.x.s1.c,.string p.1.x.s1.t,.int .i64 p.1.x.s1.ph,.int .i64 p.1.x.s1.p.k,.int .i64 p.1.x.s1.p.f,.int .u64 p.1.x.s1.p.c,.string p.1.x.s1.p.t,.bool p.1.x.s1.p.b,.int .u64 p.1.x.v.c,.int .i64 p.1.x.v.k,.string p.1.x.v.t,.bool p.1.x.b0,.bool p.1.x.b1,.bool p.1.x.full,p.2] _ ?_ zu33 ?_ ?_ ?_);(·rfl);(·rfl);(·kernel_rfl);(·exact HFX9.out);(·rfl);(·exact info_exL p))|(go_at_call 37;refine HBR.out.mono ?_;rintro e w9 ⟨ba,bn,bc,rfl,hbn,hx9⟩;rw [hko] at hbn;have hbn1:(0:Int)<(bn:Int):=(by simp at hbn;omega);have hc9:=heap_ext HC9.out hx9;have q7:w9.cell? ⟨gC,7,none⟩=some (.int .i64 (k:Int)):=zQ hc9 7;have f7:=zF hc9 7;have l7:gC<w9.heap.size:=(zL hc9);have HC99:=zd hc9;clear hc9))
      go_roundg (gk - 1)
      case rel=>
       refine ⟨i+1,⟨_,(HE9.out.trans hx9).setCell HGFC.out _⟩,a+ms.length,b00+1,b01,b10,b11,k+1,by simp,by omega,rfl,zd ?_,zd ?_,by omega,by omega,by omega,by omega,by omega,by omega⟩
       ·show (w9.setCell ⟨gC,7,none⟩ _).heap[gC]?=_
        rw [setCell_row HC99.out (o:=7)]
        simp [cenA]
       ·have h1:=HCn.out.step p.1.x
        rw [HMS.out,finB_of hf0 hf1 HU.out HV.out,finB_of hf0 hf1 HU.out HV.out,finB_of hf0 hf1 HU.out HV.out,finB_of hf0 hf1 HU.out HV.out,hko] at h1
        simp at h1
        rw [take_map _ HP.out,List.map_take]
        exact h1
      case measure=>omega
     case true=>
      go_wp2_with (first|((with_reducible refine wpList_load_midG 33 (.tmp 65) ?_ gf (0) ?_ ?_ [.int .u64 p.1.x.c,.int .i64 p.1.x.s0.r,.int .u64 p.1.x.s0.c,.string p.1.x.s0.t,.int .i64 p.1.x.s0.ph,.int .i64 p.1.x.s0.p.k,.int .i64 p.1.x.s0.p.f,.int .u64 p.1.x.s0.p.c,.string p.1.x.s0.p.t,.bool p.1.x.s0.p.b,.int .i64 p.1.x.s1.r,.int .u64 p.1.x.s1.c,.string p.1.x.s1.t,.int .i64 p.1.x.s1.ph,.int .i64 p.1.x.s1.p.k,.int .i64 p.1.x.s1.p.f,.int .u64 p.1.x.s1.p.c,.string p.1.x.s1.p.t,.bool p.1.x.s1.p.b,.int .u64 p.1.x.v.c,.int .i64 p.1.x.v.k,.string p.1.x.v.t,.bool p.1.x.b0,.bool p.1.x.b1,.bool p.1.x.full,p.2] _ ?_ zu33 ?_ ?_ ?_);(·rfl);(·rfl);(·kernel_rfl);(·exact HFX9.out);(·rfl);(·exact info_exL p))|(go_at_call 37;refine HBR.out.mono ?_;rintro e w9 ⟨ba,bn,bc,rfl,hbn,hx9⟩;rw [hko] at hbn;have hbn1 : ¬(0:Int)<(bn:Int):=(by simp at hbn;omega)))
      go_roundg (gk - 1)
      case rel=>
       refine ⟨i+1,⟨w9,HE9.out.trans hx9⟩,a+ms.length,b00+1,b01,b10,b11,k,by simp,by omega,rfl,zd (heap_ext HC9.out hx9),zd ?_,by omega,by omega,by omega,by omega,by omega,by omega⟩
       have h1:=HCn.out.step p.1.x
       rw [HMS.out,finB_of hf0 hf1 HU.out HV.out,finB_of hf0 hf1 HU.out HV.out,finB_of hf0 hf1 HU.out HV.out,finB_of hf0 hf1 HU.out HV.out,hko] at h1
       simp at h1
       rw [take_map _ HP.out,List.map_take]
       exact h1
      case measure=>omega
   ·skip
    have q4:w8.cell? ⟨gf,4,none⟩=some (.int .i64 6):=(zQ HF8.out 4).trans (congrArg (fun z=>some (Value.int .i64 z)) hu)
    have q13:w8.cell? ⟨gf,13,none⟩=some (.int .i64 7):=(zQ HF8.out 13).trans (congrArg (fun z=>some (Value.int .i64 z)) hv)
    have qc:w8.cell? ⟨gC,4,none⟩=some (.int .i64 (b01:Int)):=zQ HC8.out 4
    have HU:=zd hu
    have HV:=zd hv
    clear hu hv
    refine wp_region_mixT (af:=?af67) [true,true,true,true,true,true,true,true,true,true,true,true,true,true,true,true,true,false,false,false,false] 76 (Ext w8) (by kernel_rfl) rfl (by kernel_rfl) (fun _ _ h e=>Ext.trans h e) zR.drew ?q67 ?r67
    case q67=>
     intro w' hw'
     obtain ⟨y1,rfl⟩:=ext_of hw'
     simp only [pickT,if_true,if_false,Bool.false_eq_true]
     repeat (go_big_quiet_step (fail))
     exact rfl
    case r67=>
     simp only [pickF,if_true,if_false,Bool.false_eq_true]
     intro x11
     go_wp2_with fail
     refine ⟨fun _=>(Ext.refl w8).drew.val x11,?_⟩
     intro x12
     go_wp2_with fail
     refine ⟨fun _=>((Ext.refl w8).drew.val x11).val x12,?_⟩
     intro x13
     go_wp2_with fail
     refine ⟨fun _=>(((Ext.refl w8).drew.val x11).val x12).val x13,?_⟩
     intro x1
     have e1:=(((Ext.refl w8).drew.val x11).val x12).val x13 |>.val x1
     have hC1:=heap_ext HC8.out e1
     have HF1:=zd (heap_ext HF8.out e1)
     have HE1':=zd (HE8.out.trans e1)
     have q1:x1.val.cell? ⟨gC,4,none⟩=some (.int .i64 (b01:Int)):=zQ hC1 4
     have f1:=zF hC1 4
     have l1:gC<x1.val.heap.size:=zL hC1
     have HC1:=zd hC1
     clear hC1 e1 q4 q13 qc
     go_wp2_with fail
     refine ⟨fun h=>absurd rfl h,?_⟩
     intro x2
     have hC9:x2.val.heap[gC]?=some (.cells (cenA L.length told (a+ms.length) (b00) (b01+1) (b10) (b11) k) 58 (0,0)):=heap_ext (by
      have:=setCell_row HC1.out (o:=4) (.int .i64 ((b01:Int)+1))
      rw [this]
      simp [cenA]) x2.ext
     have HF9:=zd (heap_ext ((cell_other HGne.out).trans HF1.out) x2.ext:x2.val.heap[gf]?=some (.cells (fvC p).toArray 88 (0,0)))
     have HE9:Hid (Ext w2 x2.val):=zd ((HE1'.out.setCell (by exact HGFC.out) _).val x2)
     have HC9:=zd hC9
     clear hC9 q1 f1 l1 HC1 HF1 HE1' lc8 lf8 HC8 HF8 HE8
     generalize x2.val=W9 at HC9 HF9 HE9 ⊢
     clear x2 x1 x13 x12 x11
     go_upto_region 9 with fail
     have HFX9:=zd (fx_range HF9.out)
     have HBR:=zd (mo_broken p.1.x p.2 _ (Row.of_own (own_ext HOP.out HE9.out)) (zT hpx.2 (by omega)))
     rcases hko:okX p.1.x
     case false=>
      go_wp2_with (first|((with_reducible refine wpList_load_midG 33 (.tmp 65) ?_ gf (0) ?_ ?_ [.int .u64 p.1.x.c,.int .i64 p.1.x.s0.r,.int .u64 p.1.x.s0.c,.string p.1.x.s0.t,.int .i64 p.1.x.s0.ph,.int .i64 p.1.x.s0.p.k,.int .i64 p.1.x.s0.p.f,.int .u64 p.1.x.s0.p.c,.string p.1.x.s0.p.t,.bool p.1.x.s0.p.b,.int .i64 p.1.x.s1.r,.int .u64 p.1.x.s1.c,.string p.1.x.s1.t,.int .i64 p.1.x.s1.ph,.int .i64 p.1.x.s1.p.k,.int .i64 p.1.x.s1.p.f,.int .u64 p.1.x.s1.p.c,.string p.1.x.s1.p.t,.bool p.1.x.s1.p.b,.int .u64 p.1.x.v.c,.int .i64 p.1.x.v.k,.string p.1.x.v.t,.bool p.1.x.b0,.bool p.1.x.b1,.bool p.1.x.full,p.2] _ ?_ zu33 ?_ ?_ ?_);(·rfl);(·rfl);(·kernel_rfl);(·exact HFX9.out);(·rfl);(·exact info_exL p))|(go_at_call 37;refine HBR.out.mono ?_;rintro e w9 ⟨ba,bn,bc,rfl,hbn,hx9⟩;rw [hko] at hbn;have hbn1:(0:Int)<(bn:Int):=(by simp at hbn;omega);have hc9:=heap_ext HC9.out hx9;have q7:w9.cell? ⟨gC,7,none⟩=some (.int .i64 (k:Int)):=zQ hc9 7;have f7:=zF hc9 7;have l7:gC<w9.heap.size:=(zL hc9);have HC99:=zd hc9;clear hc9))
      go_roundg (gk - 1)
      case rel=>
       refine ⟨i+1,⟨_,(HE9.out.trans hx9).setCell HGFC.out _⟩,a+ms.length,b00,b01+1,b10,b11,k+1,by simp,by omega,rfl,zd ?_,zd ?_,by omega,by omega,by omega,by omega,by omega,by omega⟩
       ·show (w9.setCell ⟨gC,7,none⟩ _).heap[gC]?=_
        rw [setCell_row HC99.out (o:=7)]
        simp [cenA]
       ·have h1:=HCn.out.step p.1.x
        rw [HMS.out,finB_of hf0 hf1 HU.out HV.out,finB_of hf0 hf1 HU.out HV.out,finB_of hf0 hf1 HU.out HV.out,finB_of hf0 hf1 HU.out HV.out,hko] at h1
        simp at h1
        rw [take_map _ HP.out,List.map_take]
        exact h1
      case measure=>omega
     case true=>
      go_wp2_with (first|((with_reducible refine wpList_load_midG 33 (.tmp 65) ?_ gf (0) ?_ ?_ [.int .u64 p.1.x.c,.int .i64 p.1.x.s0.r,.int .u64 p.1.x.s0.c,.string p.1.x.s0.t,.int .i64 p.1.x.s0.ph,.int .i64 p.1.x.s0.p.k,.int .i64 p.1.x.s0.p.f,.int .u64 p.1.x.s0.p.c,.string p.1.x.s0.p.t,.bool p.1.x.s0.p.b,.int .i64 p.1.x.s1.r,.int .u64 p.1.x.s1.c,.string p.1.x.s1.t,.int .i64 p.1.x.s1.ph,.int .i64 p.1.x.s1.p.k,.int .i64 p.1.x.s1.p.f,.int .u64 p.1.x.s1.p.c,.string p.1.x.s1.p.t,.bool p.1.x.s1.p.b,.int .u64 p.1.x.v.c,.int .i64 p.1.x.v.k,.string p.1.x.v.t,.bool p.1.x.b0,.bool p.1.x.b1,.bool p.1.x.full,p.2] _ ?_ zu33 ?_ ?_ ?_);(·rfl);(·rfl);(·kernel_rfl);(·exact HFX9.out);(·rfl);(·exact info_exL p))|(go_at_call 37;refine HBR.out.mono ?_;rintro e w9 ⟨ba,bn,bc,rfl,hbn,hx9⟩;rw [hko] at hbn;have hbn1 : ¬(0:Int)<(bn:Int):=(by simp at hbn;omega)))
      go_roundg (gk - 1)
      case rel=>
       refine ⟨i+1,⟨w9,HE9.out.trans hx9⟩,a+ms.length,b00,b01+1,b10,b11,k,by simp,by omega,rfl,zd (heap_ext HC9.out hx9),zd ?_,by omega,by omega,by omega,by omega,by omega,by omega⟩
       have h1:=HCn.out.step p.1.x
       rw [HMS.out,finB_of hf0 hf1 HU.out HV.out,finB_of hf0 hf1 HU.out HV.out,finB_of hf0 hf1 HU.out HV.out,finB_of hf0 hf1 HU.out HV.out,hko] at h1
       simp at h1
       rw [take_map _ HP.out,List.map_take]
       exact h1
      case measure=>omega
   ·skip
    have q4:w8.cell? ⟨gf,4,none⟩=some (.int .i64 7):=(zQ HF8.out 4).trans (congrArg (fun z=>some (Value.int .i64 z)) hu)
    have q13:w8.cell? ⟨gf,13,none⟩=some (.int .i64 6):=(zQ HF8.out 13).trans (congrArg (fun z=>some (Value.int .i64 z)) hv)
    have qc:w8.cell? ⟨gC,5,none⟩=some (.int .i64 (b10:Int)):=zQ HC8.out 5
    have HU:=zd hu
    have HV:=zd hv
    clear hu hv
    refine wp_region_mixT (af:=?af76) [true,true,true,true,true,true,true,true,true,true,true,true,true,true,true,true,true,false,false,false,false] 76 (Ext w8) (by kernel_rfl) rfl (by kernel_rfl) (fun _ _ h e=>Ext.trans h e) zR.drew ?q76 ?r76
    case q76=>
     intro w' hw'
     obtain ⟨y1,rfl⟩:=ext_of hw'
     simp only [pickT,if_true,if_false,Bool.false_eq_true]
     repeat (go_big_quiet_step (fail))
     exact rfl
    case r76=>
     simp only [pickF,if_true,if_false,Bool.false_eq_true]
     intro x11
     go_wp2_with fail
     refine ⟨fun _=>(Ext.refl w8).drew.val x11,?_⟩
     intro x12
     go_wp2_with fail
     refine ⟨fun _=>((Ext.refl w8).drew.val x11).val x12,?_⟩
     intro x13
     go_wp2_with fail
     refine ⟨fun _=>(((Ext.refl w8).drew.val x11).val x12).val x13,?_⟩
     intro x1
     have e1:=(((Ext.refl w8).drew.val x11).val x12).val x13 |>.val x1
     have hC1:=heap_ext HC8.out e1
     have HF1:=zd (heap_ext HF8.out e1)
     have HE1':=zd (HE8.out.trans e1)
     have q1:x1.val.cell? ⟨gC,5,none⟩=some (.int .i64 (b10:Int)):=zQ hC1 5
     have f1:=zF hC1 5
     have l1:gC<x1.val.heap.size:=zL hC1
     have HC1:=zd hC1
     clear hC1 e1 q4 q13 qc
     go_wp2_with fail
     refine ⟨fun h=>absurd rfl h,?_⟩
     intro x2
     have hC9:x2.val.heap[gC]?=some (.cells (cenA L.length told (a+ms.length) (b00) (b01) (b10+1) (b11) k) 58 (0,0)):=heap_ext (by
      have:=setCell_row HC1.out (o:=5) (.int .i64 ((b10:Int)+1))
      rw [this]
      simp [cenA]) x2.ext
     have HF9:=zd (heap_ext ((cell_other HGne.out).trans HF1.out) x2.ext:x2.val.heap[gf]?=some (.cells (fvC p).toArray 88 (0,0)))
     have HE9:Hid (Ext w2 x2.val):=zd ((HE1'.out.setCell (by exact HGFC.out) _).val x2)
     have HC9:=zd hC9
     clear hC9 q1 f1 l1 HC1 HF1 HE1' lc8 lf8 HC8 HF8 HE8
     generalize x2.val=W9 at HC9 HF9 HE9 ⊢
     clear x2 x1 x13 x12 x11
     go_upto_region 9 with fail
     have HFX9:=zd (fx_range HF9.out)
     have HBR:=zd (mo_broken p.1.x p.2 _ (Row.of_own (own_ext HOP.out HE9.out)) (zT hpx.2 (by omega)))
     rcases hko:okX p.1.x
     case false=>
      go_wp2_with (first|((with_reducible refine wpList_load_midG 33 (.tmp 65) ?_ gf (0) ?_ ?_ [.int .u64 p.1.x.c,.int .i64 p.1.x.s0.r,.int .u64 p.1.x.s0.c,.string p.1.x.s0.t,.int .i64 p.1.x.s0.ph,.int .i64 p.1.x.s0.p.k,.int .i64 p.1.x.s0.p.f,.int .u64 p.1.x.s0.p.c,.string p.1.x.s0.p.t,.bool p.1.x.s0.p.b,.int .i64 p.1.x.s1.r,.int .u64 p.1.x.s1.c,.string p.1.x.s1.t,.int .i64 p.1.x.s1.ph,.int .i64 p.1.x.s1.p.k,.int .i64 p.1.x.s1.p.f,.int .u64 p.1.x.s1.p.c,.string p.1.x.s1.p.t,.bool p.1.x.s1.p.b,.int .u64 p.1.x.v.c,.int .i64 p.1.x.v.k,.string p.1.x.v.t,.bool p.1.x.b0,.bool p.1.x.b1,.bool p.1.x.full,p.2] _ ?_ zu33 ?_ ?_ ?_);(·rfl);(·rfl);(·kernel_rfl);(·exact HFX9.out);(·rfl);(·exact info_exL p))|(go_at_call 37;refine HBR.out.mono ?_;rintro e w9 ⟨ba,bn,bc,rfl,hbn,hx9⟩;rw [hko] at hbn;have hbn1:(0:Int)<(bn:Int):=(by simp at hbn;omega);have hc9:=heap_ext HC9.out hx9;have q7:w9.cell? ⟨gC,7,none⟩=some (.int .i64 (k:Int)):=zQ hc9 7;have f7:=zF hc9 7;have l7:gC<w9.heap.size:=(zL hc9);have HC99:=zd hc9;clear hc9))
      go_roundg (gk - 1)
      case rel=>
       refine ⟨i+1,⟨_,(HE9.out.trans hx9).setCell HGFC.out _⟩,a+ms.length,b00,b01,b10+1,b11,k+1,by simp,by omega,rfl,zd ?_,zd ?_,by omega,by omega,by omega,by omega,by omega,by omega⟩
       ·show (w9.setCell ⟨gC,7,none⟩ _).heap[gC]?=_
        rw [setCell_row HC99.out (o:=7)]
        simp [cenA]
       ·have h1:=HCn.out.step p.1.x
        rw [HMS.out,finB_of hf0 hf1 HU.out HV.out,finB_of hf0 hf1 HU.out HV.out,finB_of hf0 hf1 HU.out HV.out,finB_of hf0 hf1 HU.out HV.out,hko] at h1
        simp at h1
        rw [take_map _ HP.out,List.map_take]
        exact h1
      case measure=>omega
     case true=>
      go_wp2_with (first|((with_reducible refine wpList_load_midG 33 (.tmp 65) ?_ gf (0) ?_ ?_ [.int .u64 p.1.x.c,.int .i64 p.1.x.s0.r,.int .u64 p.1.x.s0.c,.string p.1.x.s0.t,.int .i64 p.1.x.s0.ph,.int .i64 p.1.x.s0.p.k,.int .i64 p.1.x.s0.p.f,.int .u64 p.1.x.s0.p.c,.string p.1.x.s0.p.t,.bool p.1.x.s0.p.b,.int .i64 p.1.x.s1.r,.int .u64 p.1.x.s1.c,.string p.1.x.s1.t,.int .i64 p.1.x.s1.ph,.int .i64 p.1.x.s1.p.k,.int .i64 p.1.x.s1.p.f,.int .u64 p.1.x.s1.p.c,.string p.1.x.s1.p.t,.bool p.1.x.s1.p.b,.int .u64 p.1.x.v.c,.int .i64 p.1.x.v.k,.string p.1.x.v.t,.bool p.1.x.b0,.bool p.1.x.b1,.bool p.1.x.full,p.2] _ ?_ zu33 ?_ ?_ ?_);(·rfl);(·rfl);(·kernel_rfl);(·exact HFX9.out);(·rfl);(·exact info_exL p))|(go_at_call 37;refine HBR.out.mono ?_;rintro e w9 ⟨ba,bn,bc,rfl,hbn,hx9⟩;rw [hko] at hbn;have hbn1 : ¬(0:Int)<(bn:Int):=(by simp at hbn;omega)))
      go_roundg (gk - 1)
      case rel=>
       refine ⟨i+1,⟨w9,HE9.out.trans hx9⟩,a+ms.length,b00,b01,b10+1,b11,k,by simp,by omega,rfl,zd (heap_ext HC9.out hx9),zd ?_,by omega,by omega,by omega,by omega,by omega,by omega⟩
       have h1:=HCn.out.step p.1.x
       rw [HMS.out,finB_of hf0 hf1 HU.out HV.out,finB_of hf0 hf1 HU.out HV.out,finB_of hf0 hf1 HU.out HV.out,finB_of hf0 hf1 HU.out HV.out,hko] at h1
       simp at h1
       rw [take_map _ HP.out,List.map_take]
       exact h1
      case measure=>omega
   ·skip
    have q4:w8.cell? ⟨gf,4,none⟩=some (.int .i64 7):=(zQ HF8.out 4).trans (congrArg (fun z=>some (Value.int .i64 z)) hu)
    have q13:w8.cell? ⟨gf,13,none⟩=some (.int .i64 7):=(zQ HF8.out 13).trans (congrArg (fun z=>some (Value.int .i64 z)) hv)
    have qc:w8.cell? ⟨gC,6,none⟩=some (.int .i64 (b11:Int)):=zQ HC8.out 6
    have HU:=zd hu
    have HV:=zd hv
    clear hu hv
    refine wp_region_mixT (af:=?af77) [true,true,true,true,true,true,true,true,true,true,true,true,true,true,true,true,true,false,false,false,false] 76 (Ext w8) (by kernel_rfl) rfl (by kernel_rfl) (fun _ _ h e=>Ext.trans h e) zR.drew ?q77 ?r77
    case q77=>
     intro w' hw'
     obtain ⟨y1,rfl⟩:=ext_of hw'
     simp only [pickT,if_true,if_false,Bool.false_eq_true]
     repeat (go_big_quiet_step (fail))
     exact rfl
    case r77=>
     simp only [pickF,if_true,if_false,Bool.false_eq_true]
     intro x11
     go_wp2_with fail
     refine ⟨fun _=>(Ext.refl w8).drew.val x11,?_⟩
     intro x12
     go_wp2_with fail
     refine ⟨fun _=>((Ext.refl w8).drew.val x11).val x12,?_⟩
     intro x13
     go_wp2_with fail
     refine ⟨fun _=>(((Ext.refl w8).drew.val x11).val x12).val x13,?_⟩
     intro x1
     have e1:=(((Ext.refl w8).drew.val x11).val x12).val x13 |>.val x1
     have hC1:=heap_ext HC8.out e1
     have HF1:=zd (heap_ext HF8.out e1)
     have HE1':=zd (HE8.out.trans e1)
     have q1:x1.val.cell? ⟨gC,6,none⟩=some (.int .i64 (b11:Int)):=zQ hC1 6
     have f1:=zF hC1 6
     have l1:gC<x1.val.heap.size:=zL hC1
     have HC1:=zd hC1
     clear hC1 e1 q4 q13 qc
     go_wp2_with fail
     refine ⟨fun h=>absurd rfl h,?_⟩
     intro x2
     have hC9:x2.val.heap[gC]?=some (.cells (cenA L.length told (a+ms.length) (b00) (b01) (b10) (b11+1) k) 58 (0,0)):=heap_ext (by
      have:=setCell_row HC1.out (o:=6) (.int .i64 ((b11:Int)+1))
      rw [this]
      simp [cenA]) x2.ext
     have HF9:=zd (heap_ext ((cell_other HGne.out).trans HF1.out) x2.ext:x2.val.heap[gf]?=some (.cells (fvC p).toArray 88 (0,0)))
     have HE9:Hid (Ext w2 x2.val):=zd ((HE1'.out.setCell (by exact HGFC.out) _).val x2)
     have HC9:=zd hC9
     clear hC9 q1 f1 l1 HC1 HF1 HE1' lc8 lf8 HC8 HF8 HE8
     generalize x2.val=W9 at HC9 HF9 HE9 ⊢
     clear x2 x1 x13 x12 x11
     go_upto_region 9 with fail
     have HFX9:=zd (fx_range HF9.out)
     have HBR:=zd (mo_broken p.1.x p.2 _ (Row.of_own (own_ext HOP.out HE9.out)) (zT hpx.2 (by omega)))
     rcases hko:okX p.1.x
     case false=>
      go_wp2_with (first|((with_reducible refine wpList_load_midG 33 (.tmp 65) ?_ gf (0) ?_ ?_ [.int .u64 p.1.x.c,.int .i64 p.1.x.s0.r,.int .u64 p.1.x.s0.c,.string p.1.x.s0.t,.int .i64 p.1.x.s0.ph,.int .i64 p.1.x.s0.p.k,.int .i64 p.1.x.s0.p.f,.int .u64 p.1.x.s0.p.c,.string p.1.x.s0.p.t,.bool p.1.x.s0.p.b,.int .i64 p.1.x.s1.r,.int .u64 p.1.x.s1.c,.string p.1.x.s1.t,.int .i64 p.1.x.s1.ph,.int .i64 p.1.x.s1.p.k,.int .i64 p.1.x.s1.p.f,.int .u64 p.1.x.s1.p.c,.string p.1.x.s1.p.t,.bool p.1.x.s1.p.b,.int .u64 p.1.x.v.c,.int .i64 p.1.x.v.k,.string p.1.x.v.t,.bool p.1.x.b0,.bool p.1.x.b1,.bool p.1.x.full,p.2] _ ?_ zu33 ?_ ?_ ?_);(·rfl);(·rfl);(·kernel_rfl);(·exact HFX9.out);(·rfl);(·exact info_exL p))|(go_at_call 37;refine HBR.out.mono ?_;rintro e w9 ⟨ba,bn,bc,rfl,hbn,hx9⟩;rw [hko] at hbn;have hbn1:(0:Int)<(bn:Int):=(by simp at hbn;omega);have hc9:=heap_ext HC9.out hx9;have q7:w9.cell? ⟨gC,7,none⟩=some (.int .i64 (k:Int)):=zQ hc9 7;have f7:=zF hc9 7;have l7:gC<w9.heap.size:=(zL hc9);have HC99:=zd hc9;clear hc9))
      go_roundg (gk - 1)
      case rel=>
       refine ⟨i+1,⟨_,(HE9.out.trans hx9).setCell HGFC.out _⟩,a+ms.length,b00,b01,b10,b11+1,k+1,by simp,by omega,rfl,zd ?_,zd ?_,by omega,by omega,by omega,by omega,by omega,by omega⟩
       ·show (w9.setCell ⟨gC,7,none⟩ _).heap[gC]?=_
        rw [setCell_row HC99.out (o:=7)]
        simp [cenA]
       ·have h1:=HCn.out.step p.1.x
        rw [HMS.out,finB_of hf0 hf1 HU.out HV.out,finB_of hf0 hf1 HU.out HV.out,finB_of hf0 hf1 HU.out HV.out,finB_of hf0 hf1 HU.out HV.out,hko] at h1
        simp at h1
        rw [take_map _ HP.out,List.map_take]
        exact h1
      case measure=>omega
     case true=>
      go_wp2_with (first|((with_reducible refine wpList_load_midG 33 (.tmp 65) ?_ gf (0) ?_ ?_ [.int .u64 p.1.x.c,.int .i64 p.1.x.s0.r,.int .u64 p.1.x.s0.c,.string p.1.x.s0.t,.int .i64 p.1.x.s0.ph,.int .i64 p.1.x.s0.p.k,.int .i64 p.1.x.s0.p.f,.int .u64 p.1.x.s0.p.c,.string p.1.x.s0.p.t,.bool p.1.x.s0.p.b,.int .i64 p.1.x.s1.r,.int .u64 p.1.x.s1.c,.string p.1.x.s1.t,.int .i64 p.1.x.s1.ph,.int .i64 p.1.x.s1.p.k,.int .i64 p.1.x.s1.p.f,.int .u64 p.1.x.s1.p.c,.string p.1.x.s1.p.t,.bool p.1.x.s1.p.b,.int .u64 p.1.x.v.c,.int .i64 p.1.x.v.k,.string p.1.x.v.t,.bool p.1.x.b0,.bool p.1.x.b1,.bool p.1.x.full,p.2] _ ?_ zu33 ?_ ?_ ?_);(·rfl);(·rfl);(·kernel_rfl);(·exact HFX9.out);(·rfl);(·exact info_exL p))|(go_at_call 37;refine HBR.out.mono ?_;rintro e w9 ⟨ba,bn,bc,rfl,hbn,hx9⟩;rw [hko] at hbn;have hbn1 : ¬(0:Int)<(bn:Int):=(by simp at hbn;omega)))
      go_roundg (gk - 1)
      case rel=>
       refine ⟨i+1,⟨w9,HE9.out.trans hx9⟩,a+ms.length,b00,b01,b10,b11+1,k,by simp,by omega,rfl,zd (heap_ext HC9.out hx9),zd ?_,by omega,by omega,by omega,by omega,by omega,by omega⟩
       have h1:=HCn.out.step p.1.x
       rw [HMS.out,finB_of hf0 hf1 HU.out HV.out,finB_of hf0 hf1 HU.out HV.out,finB_of hf0 hf1 HU.out HV.out,finB_of hf0 hf1 HU.out HV.out,hko] at h1
       simp at h1
       rw [take_map _ HP.out,List.map_take]
       exact h1
      case measure=>omega
end Go.Proofs.YtlnmhocehgmbbaaGreatDoor

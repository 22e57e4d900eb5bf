/- No condition. -/
import Derived.Test.YtlnmhocehgmbbaaGreatDoorWY32
import Derived.Test.YtlnmhocehgmbbaaGreatDoorWY34
set_option linter.all false
set_option maxRecDepth 100000
set_option maxHeartbeats 6400000
namespace Go.Proofs.YtlnmhocehgmbbaaGreatDoor
open Go.RowKit
attribute [local go_sem] ExtOf.cell ExtOf.frozen ExtOf.lt ExtOf.le
attribute [local go_sem high] ExtOf.cell2 ExtOf.frozen2 ExtOf.lt2 ExtOf.cell3 ExtOf.frozen3 ExtOf.lt3
def tx:ByteArray:={ data:=#[120] }
def r40:Rg:=⟨[tx],false,false,40⟩
def r5:Rg:=⟨[tx],false,false,5⟩
def r50:Rg:=⟨[],false,false,5⟩
def mvS:Mv:=⟨1,0,tx,l0,false⟩
def mvT:Mv:=⟨3,0,{ data:=#[] },l0,false⟩
def lvQ:Wi:=⟨7,0,-1,0,-1⟩
def lvQ2:Wi:=⟨0,0,0,-1,-1⟩
def lvY:Ex:=(runX (newX 7) [mvS,mvT]).1
def lvR:List Fd×Int×Bool:=goG (mostR r40) (meetS lvQ) (movesR evsS · r40) lvY
theorem lv_len:(wayS lvR).1.length=2:=by kernel_rfl
theorem lv_it:(wayS lvR).2=0:=by kernel_rfl
theorem lv_n:(replS lvY (wayS lvR).1).2=2:=by kernel_rfl
theorem lv_meet:meetS lvQ (replS lvY (wayS lvR).1).1=true:=by kernel_rfl
theorem lv_all:(allX (mostR r5) (movesR evsS · r5) (newX 7)).1.length=5:=by kernel_rfl
theorem lv_one:(allX (mostR r50) (movesR evsS · r50) (newX 7)).1=[newX 7]:=by kernel_rfl
theorem lv_done:(allX (mostR r50) (movesR evsS · r50) (newX 7)).2=true:=by kernel_rfl
theorem lv_new:meetS lvQ2 (newX 7)=true:=by kernel_rfl
theorem lv_two:(movesR evsS (newX 7) r40).length=2:=by kernel_rfl
theorem lv_c (a b00 b01 b10 b11 k:Nat) (h:Cn r50 (allX (mostR r50) (movesR evsS · r50) (newX 7)).1 a b00 b01 b10 b11 k):a=0:=by
 rw [h.a,lv_one]
 kernel_rfl
theorem lv_run:runX (newX 7) [mvS,mvT]=(lvY,2):=Prod.ext rfl (by kernel_rfl)
theorem lv_y:lvY=(stepX (stepX (newX 7) mvS).1 mvT).1:=by kernel_rfl
theorem lv_rng7:RngX (newX 7):=rng_new ⟨by decide,by decide⟩
theorem lv_rng:RngX lvY:=by
 rw [lv_y]
 exact (lv_rng7.step _).step _
theorem lv_yh:lvY.h.length≤100:=Nat.le_of_ble_eq_true (by kernel_rfl)
def lvL:List Mv:=(wayS lvR).1
theorem lv_way {w w':World} {e:Ending} (h:WayP w lvR e w') : ∃ a c,e = .returned (.tuple #[.slice a 2 c,.int .i64 0])∧Own9 w' w.heap.size lvL (.slice a 2 c)∧Ext w w':=by
 obtain ⟨v,rfl,ho,hx⟩:=h
 obtain ⟨a,c,rfl⟩:=own_sl ho
 rw [lv_len] at ho ⊢
 rw [lv_it]
 exact ⟨a,c,rfl,ho,hx⟩
theorem lv_repl {w w':World} {e:Ending} (h:e = .returned (.tuple #[.int .i64 ((replS lvY lvL).2:Int),.bool (meetS lvQ (replS lvY lvL).1)])∧Ext w w'):e = .returned (.tuple #[.int .i64 2,.bool true])∧Ext w w':=by
 obtain ⟨rfl,hx⟩:=h
 refine ⟨?_,hx⟩
 unfold lvL
 rw [lv_n,lv_meet]
 rfl
theorem lv_alls {w w':World} {e:Ending} (h:AllP w r5 (newX 7) e w') : ∃ a c b,e = .returned (.tuple #[.slice a 5 c,.bool b])∧Ext w w':=by
 obtain ⟨L,lv,hL,rfl,hr,_,hx⟩:=h
 obtain ⟨a,c,rfl⟩:=own_sl hr
 have h5:L.length=5:=by rw [←List.length_map (f:=(·.1)),hL,lv_all]
 rw [h5]
 exact ⟨a,c,_,rfl,hx⟩
theorem lv_cens {w w':World} {e:Ending} (h:CenP w r50 (newX 7) e w') : ∃ b00 b01 b10 b11 k:Nat,e = .returned (.agg (cenA 1 true 0 b00 b01 b10 b11 k))∧Ext w w':=by
 obtain ⟨a,b00,b01,b10,b11,k,hc,rfl,hx⟩:=h
 have ha:=lv_c _ _ _ _ _ _ hc
 subst ha
 rw [lv_one,lv_done]
 exact ⟨b00,b01,b10,b11,k,rfl,hx⟩
theorem row_blk {w:World} {g n size cap:Nat} {cs:Array Value} {t:TypeId} {fr:Nat×Nat} {xs:List Value} (h:w.heap[g]?=some (.cells cs t fr)) (hn:n≤maxLen) (hs:xs.length=n*size) (hx:cs.toList=xs):Row w size (.slice (some ⟨g,0,none⟩) n cap) n xs:=by
 subst hx
 refine ⟨hs,.inr ⟨g,0,cap,rfl,hn,fun j u hj=>?_⟩⟩
 rw [Nat.zero_add,zQ h j]
 simpa using hj
theorem lw_live (w:World) (htab:TabW w):Calls Tryz.prog 9 #[] w fun e w'=>e = .returned (.bool true)∧Ext w w':=by
 have HTAB:=zd htab
 clear htab
 go_enter Tryz.func9,Tryz.ntmps9
 go_upto_region 2 with fail
 refine wp_forget (fun w'=>∃ gs gr,Hid (gs=w.heap.size∧gr=w.heap.size+1)∧Hid (Row w' 1 (.slice (some ⟨gs,0,none⟩) 1 1) 1 [.string tx])∧Hid (RgAt w' gr r40 (.slice (some ⟨gs,0,none⟩) 1 1))∧Hid (Ext w w')) ⟨_,_,zd ⟨rfl,rfl⟩,zd (row_blk (two_new zR).1 (by decide) rfl rfl),zd (two_new zR).2.1,zd (two_new zR).2.2⟩ ?_
 rintro W1 ⟨gs,gr,hgg,HS1,HR1,HE1⟩
 rw [←hgg.out.2,←hgg.out.1]
 clear hgg
 go_upto_region 3 with (first|(go_at_call 26;refine (mo_new _ _).mono ?_;rintro e w2 ⟨rfl,hx2⟩;have HX2:=zd hx2;clear hx2)|(refine wpList_store_row rfl 33 _ _ rfl w2.heap.size _ rfl rfl 33 _ (heap_new rfl) info_ex rfl (arr_one (newX 7) rfl) ?_))
 refine wp_forget (fun w'=>∃ gx,Hid (gx=w2.heap.size)∧Hid (ExAt w' gx (newX 7) (.slice none 0 0))∧Hid (Ext W1 w')) ⟨w2.heap.size,zd rfl,zd (setRow_heap _ _ _ _ _ _ (heap_new rfl)),zd ((HX2.out.alloc _).setRow HX2.out.size _)⟩ ?_
 rintro W2 ⟨gx,hgx,HN2,HE2⟩
 rw [←hgx.out]
 clear hgx HX2
 go_upto_region 4 with (first|((with_reducible refine wpList_load_rowG ?_ 33 (.tmp 2) ?_ gx ?_ 33 ((newX 7).arr (.slice none 0 0)) (0,0) _ ?_ zu33 ?_ ?_ ?_);(·rfl);(·rfl);(·rfl);(·exact HN2.out);(·rfl);(·exact info_ex))|(go_at_call 27;refine (lv_run ▸ mo_run (newX 7) (.slice none 0 0) 0 [mvS,mvT] _ _ (World.ownsRow_nil _ _ _ _) (by decide) (by decide) (row_blk (heap_new rfl) (by decide) rfl rfl)).mono ?_;rintro e w3 ⟨v3,B3,rfl,hO3,hB3,hx3⟩;obtain ⟨sa,sn,sc,hsv⟩:=own_slice hO3;have hv3:v3.oneCell'=true:=(by rw [hsv];rfl);have HO3:=zd hO3;have HB3:=zd hB3;have HX3:=zd (((Ext.refl W2).alloc _).trans hx3);clear hO3 hx3 hsv hB3)|(refine wpList_store_row rfl 33 _ _ rfl w3.heap.size _ rfl rfl 33 _ (heap_new rfl) info_ex rfl (arr_one lvY hv3) ?_))
 refine wp_forget (fun w'=>∃ gy,Hid (gy=w3.heap.size)∧Hid (ExAt w' gy lvY v3)∧Hid (Own w' B3 lvY.h v3)∧Hid (B3≤w'.heap.size)∧Hid (Ext W2 w')) ⟨w3.heap.size,zd rfl,zd (setRow_heap _ _ _ _ _ _ (heap_new rfl)),zd (own_setRow (own_ext HO3.out (zR.alloc _)) (heap_new rfl) (by decide) _),zd (by have:=HB3.out;simp;omega),zd ((HX3.out.alloc _).setRow HX3.out.size _)⟩ ?_
 rintro W3 ⟨gy,hgy,HY3,HYO3,HYB3,HE3⟩
 rw [←hgy.out]
 clear hgy HO3 HB3 HX3
 go_upto_region 5 with fail
 refine wp_forget (fun w'=>∃ gq,Hid (gq=W3.heap.size)∧Hid (w'.heap[gq]?=some (.cells lvQ.arr 62 (0,0)))∧Hid (Ext W3 w')) ⟨W3.heap.size,zd rfl,zd (heap_new rfl),zd (zR.alloc _)⟩ ?_
 rintro W4 ⟨gq,hgq,HQ4,HE4⟩
 rw [←hgq.out]
 clear hgq
 have HE41:Hid (Ext W1 W4):=zd ((HE2.out.trans HE3.out).trans HE4.out)
 have HW:=zd (ex_way (meetS lvQ) lvQ lvY v3 B3 r40 (.slice (some ⟨gs,0,none⟩) 1 1) W4 (fun gw w' e hq=>ask_meet (meetS lvQ) lvQ w' (meet_meets w') gw hq) (HYO3.out.ext HE4.out) lv_yh (HS1.out.ext HE41.out) (by decide) (by decide) lv_rng (HTAB.out.ext (HE1.out.trans HE41.out)))
 go_upto_region 6 with (first|((with_reducible refine wpList_load_rowG ?_ 33 (.tmp 3) ?_ gy ?_ 33 (lvY.arr v3) (0,0) _ ?_ zu33 ?_ ?_ ?_);(·rfl);(·rfl);(·rfl);(·exact (heap_ext HY3.out HE4.out));(·rfl);(·exact info_ex))|((with_reducible refine wpList_load_rowG ?_ 36 (.tmp 1) ?_ gr ?_ 36 (r40.arr (.slice (some ⟨gs,0,none⟩) 1 1)) (0,0) _ ?_ zu36 ?_ ?_ ?_);(·rfl);(·rfl);(·rfl);(·exact (heap_ext HR1.out HE41.out));(·rfl);(·exact info_range))|((with_reducible refine wpList_load_rowG ?_ 62 (.tmp 5) ?_ gq ?_ 62 lvQ.arr (0,0) _ ?_ zu62 ?_ ?_ ?_);(·rfl);(·rfl);(·rfl);(·exact HQ4.out);(·rfl);(·exact info_wish lvQ))|(go_at_call 19;refine HW.out.mono ?_;intro e w5 hw5;obtain ⟨la,lc,rfl,ho5,hx5⟩:=lv_way hw5;have HO5:=zd ho5;have HX5:=zd hx5;clear hw5 ho5 hx5))
 clear HW
 have HRP:=zd (ex_replay (meetS lvQ) lvQ lvY v3 B3 lvL (.slice la 2 lc) w5 (meet_meets w5) (HYO3.out.ext (HE4.out.trans HX5.out)) (by have h1:=HYB3.out;have h2:=HE4.out.size;have h3:=HX5.out.size;omega) (zT lv_yh (by decide)) (by rw [show lvL.length=2 from lv_len];decide) (Row.of_own HO5.out))
 go_upto_region 7 with (first|((with_reducible refine wpList_load_rowG ?_ 33 (.tmp 3) ?_ gy ?_ 33 (lvY.arr v3) (0,0) _ ?_ zu33 ?_ ?_ ?_);(·rfl);(·rfl);(·rfl);(·exact (heap_ext HY3.out (HE4.out.trans HX5.out)));(·rfl);(·exact info_ex))|((with_reducible refine wpList_load_rowG ?_ 62 (.tmp 5) ?_ gq ?_ 62 lvQ.arr (0,0) _ ?_ zu62 ?_ ?_ ?_);(·rfl);(·rfl);(·rfl);(·exact (heap_ext HQ4.out HX5.out));(·rfl);(·exact info_wish lvQ))|(go_at_call 21;refine HRP.out.mono ?_;intro e w6 hw6;obtain ⟨rfl,hx6⟩:=lv_repl hw6;have HX6:=zd hx6;clear hw6 hx6))
 clear HRP
 have HE6:Hid (Ext W2 w6):=zd ((HE3.out.trans (HE4.out.trans HX5.out)).trans HX6.out)
 have HEW6:Hid (Ext w w6):=zd ((HE1.out.trans HE2.out).trans HE6.out)
 have HAL:=zd (fun w' (hw:Ext w6 w') hr=>ex_all (newX 7) (.slice none 0 0) 0 r5 (.slice (some ⟨w6.heap.size,0,none⟩) 1 1) w' (World.ownsRow_nil _ _ _ _) (by decide) hr (by decide) (by decide) lv_rng7 (HTAB.out.ext (HEW6.out.trans hw)))
 go_upto_region 8 with (first|((with_reducible refine wpList_load_rowG ?_ 33 (.tmp 2) ?_ gx ?_ 33 ((newX 7).arr (.slice none 0 0)) (0,0) _ ?_ zu33 ?_ ?_ ?_);(·rfl);(·rfl);(·rfl);(·exact (heap_ext HN2.out HE6.out));(·rfl);(·exact info_ex))|(go_at_call 11;refine (HAL.out _ (zR.alloc _) (row_blk (heap_new rfl) (by decide) rfl rfl)).mono ?_;intro e w7 hw7;obtain ⟨aa,ac,ab,rfl,hx7⟩:=lv_alls hw7;have HX7:=zd (((Ext.refl w6).alloc _).trans hx7);clear hw7 hx7))
 clear HAL
 have HE7:Hid (Ext W2 w7):=zd (HE6.out.trans HX7.out)
 have HEW7:Hid (Ext w w7):=zd (HEW6.out.trans HX7.out)
 have HCE:=zd (ex_census (newX 7) (.slice none 0 0) 0 r50 (.slice none 0 0) w7 (World.ownsRow_nil _ _ _ _) (by decide) ⟨rfl,.inl ⟨rfl,none,0,rfl⟩⟩ (by decide) (by decide) lv_rng7 (HTAB.out.ext HEW7.out))
 go_upto_region 9 with (first|((with_reducible refine wpList_load_rowG ?_ 33 (.tmp 2) ?_ gx ?_ 33 ((newX 7).arr (.slice none 0 0)) (0,0) _ ?_ zu33 ?_ ?_ ?_);(·rfl);(·rfl);(·rfl);(·exact (heap_ext HN2.out HE7.out));(·rfl);(·exact info_ex))|(go_at_call 17;refine HCE.out.mono ?_;intro e w8 hw8;obtain ⟨b00,b01,b10,b11,bk,rfl,hx8⟩:=lv_cens hw8;have HX8:=zd hx8;clear hw8 hx8)|(refine wpList_store_row rfl 58 _ _ rfl w8.heap.size _ rfl rfl 58 _ (heap_new rfl) info_cen rfl (by simp [cenA,Value.oneCell']) ?_))
 refine wp_forget (fun w'=>∃ gc,Hid (gc=w8.heap.size)∧Hid (w'.heap[gc]?=some (.cells (cenA 1 true 0 b00 b01 b10 b11 bk) 58 (0,0)))∧Hid (Ext w7 w')) ⟨w8.heap.size,zd rfl,zd (setRow_heap _ _ _ _ _ _ (heap_new rfl)),zd ((HX8.out.alloc _).setRow HX8.out.size _)⟩ ?_
 rintro W9 ⟨gc,hgc,HC9,HE9⟩
 rw [←hgc.out]
 clear hgc HX8 HCE
 have qc0:W9.cell? ⟨gc,0,none⟩=some (.int .i64 1):=zQ HC9.out 0
 have qc1:W9.cell? ⟨gc,1,none⟩=some (.int .i64 0):=zQ HC9.out 1
 have qc2:W9.cell? ⟨gc,2,none⟩=some (.bool true):=zQ HC9.out 2
 have lc9:gc<W9.heap.size:=zL HC9.out
 have HE29:Hid (Ext W2 W9):=zd (HE7.out.trans HE9.out)
 have HM2:=zd (ex_meets (newX 7) (.slice none 0 0) lvQ2 W9 ⟨rfl,.inl ⟨rfl,none,0,rfl⟩⟩ (by decide))
 have HMV:=zd (fun w' (hw:Ext W9 w')=>ex_moves (newX 7) (.slice none 0 0) r40 (.slice (some ⟨gs,0,none⟩) 1 1) w' 0 (World.ownsRow_nil _ _ _ _) (by decide) (HS1.out.ext ((HE2.out.trans HE29.out).trans hw)) (by decide))
 go_wp2_with (first|((with_reducible refine wpList_load_rowG ?_ 33 (.tmp 2) ?_ gx ?_ 33 ((newX 7).arr (.slice none 0 0)) (0,0) _ ?_ zu33 ?_ ?_ ?_);(·rfl);(·rfl);(·rfl);(·exact (heap_ext HN2.out HE29.out));(·rfl);(·exact info_ex))|(go_at_call 23;refine HM2.out.mono ?_;rw [lv_new];rintro e w10 ⟨rfl,hx10⟩;have HX10:=zd hx10;clear hx10)|((with_reducible refine wpList_load_rowG ?_ 33 (.tmp 2) ?_ gx ?_ 33 ((newX 7).arr (.slice none 0 0)) (0,0) _ ?_ zu33 ?_ ?_ ?_);(·rfl);(·rfl);(·rfl);(·exact (heap_ext HN2.out (HE29.out.trans HX10.out)));(·rfl);(·exact info_ex))|((with_reducible refine wpList_load_rowG ?_ 36 (.tmp 1) ?_ gr ?_ 36 (r40.arr (.slice (some ⟨gs,0,none⟩) 1 1)) (0,0) _ ?_ zu36 ?_ ?_ ?_);(·rfl);(·rfl);(·rfl);(·exact (heap_ext HR1.out ((HE2.out.trans HE29.out).trans HX10.out)));(·rfl);(·exact info_range))|(go_at_call 14;refine (HMV.out _ HX10.out).mono ?_;rintro e w11 ⟨mv,rfl,ho11,hx11⟩;obtain ⟨ma,mc,rfl⟩:=own_sl ho11;rw [lv_two]))
 go_ret
 exact ⟨rfl,(((HE1.out.trans HE2.out).trans HE29.out).trans HX10.out).trans hx11⟩
end Go.Proofs.YtlnmhocehgmbbaaGreatDoor
namespace Go.Proofs.YtlnmhocehgmbbaaGreatDoor
open Go.RowKit
attribute [local go_sem ↓] eql_lEq eql_sEq eql_eEq eql_oEq neq_lEq neq_sEq neq_eEq neq_oEq eql_vEq neq_vEq eql_nil
attribute [local go_sem] ExtOf.cell ExtOf.frozen ExtOf.lt ExtOf.le
attribute [local go_sem high] ExtOf.cell2 ExtOf.frozen2 ExtOf.lt2 ExtOf.cell3 ExtOf.frozen3 ExtOf.lt3
section
variable {P:Program} {md:Region.Mode} {ops:Array Oper}
theorem put_comm (a:Act) (d1 d2:Tmp) (v1 v2:Value) (h:d1≠d2):(a.put (some d1) v1).put (some d2) v2=(a.put (some d2) v2).put (some d1) v1:=by
 unfold Act.put
 simp only
 rw [Array.setIfInBounds_comm _ _ h]
theorem wpList_alloc1 {Q:Exit→Act→World→Prop} {rest:List Oper} {o:Oper} {a:Act} {w:World} {z:Array Value} {t:TypeId} (hgd:o.guard=none)
 (he : ∀ (a:Act) (w:World),(execOp a.eval o).run P w = .ok (.value (.pointer (some ⟨w.heap.size,0,none⟩))) (w.alloc (.cells z t)))
 (h:wpList P ops Q rest (a.put o.dst (.pointer (some ⟨w.heap.size,0,none⟩))) (w.alloc (.cells z t))):wpList P ops Q (o::rest) a w:=by
 refine wpList_plain hgd fun _ hK=>?_
 unfold Oper.wp
 rw [he]
 exact hK _ _ h
theorem wpAnyT_allocs {t n i i2:Nat} {o o2:Oper} {C:World→Prop} {Q:Exit→Act→World→Prop} {l L2:Array Bool} {a:Act} {w:World} (t1 t2:TypeId) (z1 z2:Array Value) (d1 d2:Tmp) (hd:d1≠d2)
 (hrd:Region.ready md ops l=[i,i2]) (hrd1:Region.ready md ops (l.setIfInBounds i true)=[i2]) (hrd2:Region.ready md ops (l.setIfInBounds i2 true)=[i])
 (hl1:(l.setIfInBounds i true).setIfInBounds i2 true=L2) (hl2:(l.setIfInBounds i2 true).setIfInBounds i true=L2)
 (ho:ops[i]?=some o) (ho2:ops[i2]?=some o2) (hg:o.guard=none) (hg2:o2.guard=none) (hdst:o.dst=some d1) (hdst2:o2.dst=some d2)
 (he : ∀ (a:Act) (w:World),(execOp a.eval o).run P w = .ok (.value (.pointer (some ⟨w.heap.size,0,none⟩))) (w.alloc (.cells z1 t1)))
 (he2 : ∀ (a:Act) (w:World),(execOp a.eval o2).run P w = .ok (.value (.pointer (some ⟨w.heap.size,0,none⟩))) (w.alloc (.cells z2 t2)))
 (hC : ∀ w',Ext w w'→C w')
 (h : ∀ g1 g2 w',w.heap.size≤g1→w.heap.size≤g2→g1≠g2→w'.heap[g1]?=some (.cells z1 t1 (0,0))→w'.heap[g2]?=some (.cells z2 t2 (0,0))→Ext w w'→
   wpAnyT P md ops t C Q n L2 ((a.put (some d1) (.pointer (some ⟨g1,0,none⟩))).put (some d2) (.pointer (some ⟨g2,0,none⟩))) w'):wpAnyT P md ops t C Q (n+2) l a w:=by
 refine wpAnyT_two hrd ho ho2 ?_ ?_
 ·intro x1
  refine wpList_alloc1 hg he ⟨fun _=>hC _ (x1.ext.alloc _),?_⟩
  refine wpAnyT_one hrd1 ho2 ?_
  intro x2
  refine wpList_alloc1 hg2 he2 ⟨fun _=>hC _ (((x1.ext.alloc _).trans x2.ext).alloc _),?_⟩
  rw [hl1,hdst,hdst2]
  have h1:=x1.ext.size
  have h2:=x2.ext.size
  have h3:x1.val.heap.size<x2.val.heap.size:=by simp at h2;omega
  exact h _ _ _ h1 (by omega) (by omega) (heap_ext (heap_new rfl) (x2.ext.alloc _)) (heap_new rfl) (((x1.ext.alloc _).trans x2.ext).alloc _)
 ·intro x1
  refine wpList_alloc1 hg2 he2 ⟨fun _=>hC _ (x1.ext.alloc _),?_⟩
  refine wpAnyT_one hrd2 ho ?_
  intro x2
  refine wpList_alloc1 hg he ⟨fun _=>hC _ (((x1.ext.alloc _).trans x2.ext).alloc _),?_⟩
  rw [hl2,hdst,hdst2,put_comm _ _ _ _ _ (Ne.symm hd)]
  have h1:=x1.ext.size
  have h2:=x2.ext.size
  have h3:x1.val.heap.size<x2.val.heap.size:=by simp at h2;omega
  exact h _ _ _ (by omega) h1 (by omega) (heap_new rfl) (heap_ext (heap_new rfl) (x2.ext.alloc _)) (((x1.ext.alloc _).trans x2.ext).alloc _)
theorem results_two {fn:Func} {p u:Tmp} {ty tu:TypeId} (h:fn.results = #[.cell p ty,.cell u tu]) (tmps:Array Value) (w:World) (g g2:Nat) (t t2:TypeId) (cs cs2:Array Value) (fr fr2:Nat×Nat) (d d2:TypeDesc)
 (hp:tmps.getD p undef = .pointer (some ⟨g,0,none⟩)) (hg:w.heap[g]?=some (.cells cs t fr))
 (hu:P.underlying ty=some d) (hd:(match d with | .struct _ | .array _ _=>true|_=>false)=true) (hi:(P.info? ty).map (·.size)=some cs.size)
 (hp2:tmps.getD u undef = .pointer (some ⟨g2,0,none⟩)) (hg2:w.heap[g2]?=some (.cells cs2 t2 fr2))
 (hu2:P.underlying tu=some d2) (hd2:(match d2 with | .struct _ | .array _ _=>true|_=>false)=true) (hi2:(P.info? tu).map (·.size)=some cs2.size) :
 (results fn tmps).run P w = .ok (.tuple #[.agg cs,.agg cs2]) w:=by
 have hp':tmps[p]?.getD undef = .pointer (some ⟨g,0,none⟩):=by simpa using hp
 have hp2':tmps[u]?.getD undef = .pointer (some ⟨g2,0,none⟩):=by simpa using hp2
 simp only [results,h]
 simp [Sem.run_bind,Result.andThen,hp',hp2',asAddr,run_loadVar_row w g t ty cs fr d hg hu hd hi,run_loadVar_row w g2 t2 tu cs2 fr2 d2 hg2 hu2 hd2 hi2]
end
def LgX (w:World) (x:Ex) (r:Rg) (e:Ending) (w':World):Prop:=∃ b,e = .returned (.bool b)∧(b=false→x.h.length≤20∧r.t.length≤4∧r.m≤60)∧Ext w w'
theorem lw_largeX (x:Ex) (v:Value) (r:Rg) (tv:Value) (w:World) (hR:Hrd w x v) (hT:Row w 1 tv r.t.length (r.t.map Value.string)) :
 Calls Tryz.prog 8 #[.agg (x.arr v),.agg (r.arr tv)] w (LgX w x r):=by
 obtain ⟨ta,tc,rfl,hm,hvw⟩:=row_view hT
 have HV:=zd hvw
 obtain ⟨xa,xc,rfl,hxm,hxw⟩:=row_view hR
 have HXV:=zd hxw
 clear hvw hT hR hxw
 unfold maxLen at hm hxm
 go_enter Tryz.func8,Tryz.ntmps8
 go_upto_region 1 with fail
 refine wp_forget (fun w'=>∃ gx gr,Hid (gx=w.heap.size∧gr=w.heap.size+1)∧ExAt w' gx x (.slice xa x.h.length xc)∧RgAt w' gr r (.slice ta r.t.length tc)∧Ext w w') ⟨_,_,zd ⟨rfl,rfl⟩,(two_new zR).1,(two_new zR).2.1,(two_new zR).2.2⟩ ?_
 rintro W1 ⟨gx,gr,hgx,h1,h2,x1⟩
 rw [←hgx.out.2,←hgx.out.1]
 have HE1:=zd x1
 clear hgx x1
 have q3:W1.cell? ⟨gx,3,none⟩=some (.string x.s0.t):=zQ h1 3
 have q12:W1.cell? ⟨gx,12,none⟩=some (.string x.s1.t):=zQ h1 12
 have q21:W1.cell? ⟨gx,21,none⟩=some (.string x.v.t):=zQ h1 21
 have q25:W1.cell? ⟨gx,25,none⟩=some (.slice xa x.h.length xc):=zQ h1 25
 have p0:W1.cell? ⟨gr,0,none⟩=some (.slice ta r.t.length tc):=zQ h2 0
 have p3:W1.cell? ⟨gr,3,none⟩=some (.int .i64 r.m):=zQ h2 3
 have l1:gx<W1.heap.size:=zL h1
 have l2:gr<W1.heap.size:=zL h2
 clear h1 h2
 go_upto_region 2 with fail
 generalize wrap64 (wrap64 (↑x.s0.t.size + ↑x.s1.t.size) + ↑x.v.t.size)=n0
 go_wp2_with fail
 go_loopg [5,6] 21 (fun g ss ii wr=>∃ (i:Nat) (n:Int),ss = .int .i64 n∧ii = .int .i64 (i:Int)∧i+g=21∧i≤x.h.length∧wr=W1)
 case atStart=>exact ⟨0,n0,rfl,rfl,rfl,Nat.zero_le _,rfl⟩
 case round=>
  obtain ⟨k,n1,rfl,rfl,hgk,hkx,rfl⟩:=hrel
  rename World=>W1
  by_cases hkl:k<x.h.length∧k≤20
  case pos=>
   have k1:(k:Int)<(x.h.length:Int):=by omega
   have k2:(k:Int)≤20:=by omega
   obtain ⟨g,off,rfl,hgl,hcell⟩:=HXV.out (by omega)
   have hgl:=hgl (by omega)
   obtain ⟨z,hz⟩ : ∃ z,x.h[k]?=some z:=⟨_,zG (by omega)⟩
   obtain ⟨z0,z1,z2,z3,z4⟩:=lt_cellsO (fun j u hj=>cell_keep (hcell j u hj) HE1.out) hz
   have hgl1:g<W1.heap.size:=zU hgl HE1.out.size
   clear hcell hgl hz
   go_wp2_with fail
   go_roundg (gk - 1)
   case rel=>exact ⟨k+1,_,rfl,by simp,by omega,by omega,rfl⟩
   case measure=>omega
  have hxx : ¬(k:Int)<(x.h.length:Int)∨((k:Int)<(x.h.length:Int)∧¬(k:Int)≤20):=by omega
  rcases hxx with hx1|⟨hx1,hx2⟩
  ·go_wp2_with fail
   go_loopg [5,7] 5 (fun g ss ii wr=>∃ (i:Nat) (n:Int),ss = .int .i64 n∧ii = .int .i64 (i:Int)∧i+g=5∧i≤r.t.length∧wr=W1)
   case atStart=>exact ⟨0,n1,rfl,rfl,rfl,Nat.zero_le _,rfl⟩
   case round=>
    obtain ⟨i,n,rfl,rfl,hg,hir,rfl⟩:=hrel
    rename World=>W1
    by_cases hlt:i<r.t.length
    case neg=>
     have i1 : ¬(i:Int)<(r.t.length:Int):=by omega
     by_cases h20:(20:Int)<(x.h.length:Int)
     case pos=>
      go_wp2_with fail
      go_ret
      exact ⟨true,rfl,fun h=>by simp at h,HE1.out⟩
     by_cases h4:(4:Int)<(r.t.length:Int)
     case pos=>
      go_wp2_with fail
      go_ret
      exact ⟨true,rfl,fun h=>by simp at h,HE1.out⟩
     by_cases h6:(2000:Int)<n
     case pos=>
      go_wp2_with fail
      go_ret
      exact ⟨true,rfl,fun h=>by simp at h,HE1.out⟩
     by_cases h7:(60:Int)<r.m
     case pos=>
      go_wp2_with fail
      go_ret
      exact ⟨true,rfl,fun h=>by simp at h,HE1.out⟩
     go_wp2_with fail
     go_ret
     exact ⟨false,rfl,fun _=>⟨by omega,by omega,by omega⟩,HE1.out⟩
    have i1:(i:Int)<(r.t.length:Int):=by omega
    by_cases h5:i≤4
    case neg=>
     have i5 : ¬(i:Int)≤4:=by omega
     have i6:(4:Int)<(r.t.length:Int):=by omega
     by_cases h20:(20:Int)<(x.h.length:Int)
     case pos=>
      go_wp2_with fail
      go_ret
      exact ⟨true,rfl,fun h=>by simp at h,HE1.out⟩
     go_wp2_with fail
     go_ret
     exact ⟨true,rfl,fun h=>by simp at h,HE1.out⟩
    have i5:(i:Int)≤4:=by omega
    obtain ⟨g,off,rfl,hgl,hcell⟩:=HV.out (by omega)
    have hgl:=hgl (by omega)
    obtain ⟨t,ht⟩ : ∃ t,r.t[i]?=some t:=⟨_,zG hlt⟩
    have qt:=cell_keep (str_cell hcell ht) HE1.out
    have hgl1:g<W1.heap.size:=zU hgl HE1.out.size
    clear hcell hgl ht
    go_wp2_with fail
    go_roundg (gk - 1)
    case rel=>exact ⟨i+1,_,rfl,by simp,by omega,by omega,rfl⟩
    case measure=>omega
  ·go_wp2_with fail
   go_loopg [5,7] 5 (fun g ss ii wr=>∃ (i:Nat) (n:Int),ss = .int .i64 n∧ii = .int .i64 (i:Int)∧i+g=5∧i≤r.t.length∧wr=W1)
   case atStart=>exact ⟨0,n1,rfl,rfl,rfl,Nat.zero_le _,rfl⟩
   case round=>
    obtain ⟨i,n,rfl,rfl,hg,hir,rfl⟩:=hrel
    rename World=>W1
    by_cases hlt:i<r.t.length
    case neg=>
     have i1 : ¬(i:Int)<(r.t.length:Int):=by omega
     have h20:(20:Int)<(x.h.length:Int):=by omega
     go_wp2_with fail
     go_ret
     exact ⟨true,rfl,fun h=>by simp at h,HE1.out⟩
    have i1:(i:Int)<(r.t.length:Int):=by omega
    by_cases h5:i≤4
    case neg=>
     have i5 : ¬(i:Int)≤4:=by omega
     have i6:(4:Int)<(r.t.length:Int):=by omega
     have h20:(20:Int)<(x.h.length:Int):=by omega
     go_wp2_with fail
     go_ret
     exact ⟨true,rfl,fun h=>by simp at h,HE1.out⟩
    have i5:(i:Int)≤4:=by omega
    obtain ⟨g,off,rfl,hgl,hcell⟩:=HV.out (by omega)
    have hgl:=hgl (by omega)
    obtain ⟨t,ht⟩ : ∃ t,r.t[i]?=some t:=⟨_,zG hlt⟩
    have qt:=cell_keep (str_cell hcell ht) HE1.out
    have hgl1:g<W1.heap.size:=zU hgl HE1.out.size
    clear hcell hgl ht
    go_wp2_with fail
    go_roundg (gk - 1)
    case rel=>exact ⟨i+1,_,rfl,by simp,by omega,by omega,rfl⟩
    case measure=>omega
def rgZ:Array Value:=#[.slice none 0 0,.bool false,.bool false,.int .i64 0]
theorem rg_one (r:Rg) {tv:Value} (h:tv.oneCell'=true):(r.arr tv).all (·.oneCell')=true:=by
 rw [Array.all_eq_true']
 intro u hu
 simp only [Rg.arr,List.mem_toArray,List.mem_cons,List.not_mem_nil,or_false] at hu
 rcases hu with rfl|rfl|rfl|rfl
 ·exact h
 all_goals rfl
def OwnP (w:World) (x:Ex) (r:Rg) (e:Ending) (w':World):Prop:=∃ v tv,e = .returned (.tuple #[.agg (x.arr v),.agg (r.arr tv)])∧Own w' w.heap.size x.h v∧w'.ownsRow w.heap.size 9 1 tv r.t.length (r.t.map Value.string)∧Ext w w'
theorem own_lo {w:World} {B:Nat} {e:TypeId} {size n:Nat} {xs:List Value} {v:Value} (o:w.ownsRow B e size v n xs) : ∀ g∈rowB v,B≤g:=fun g hg=>(own_rowB9 o g hg).1
theorem str_one (T:List ByteArray) : ∀ u∈T.map Value.string,u.oneCell'=true:=fun u hu=>by
 obtain ⟨t,_,rfl⟩:=List.mem_map.1 hu
 rfl
theorem lw_own (x:Ex) (v:Value) (r:Rg) (tv:Value) (w:World) (hR:Hrd w x v) (hv:v = .slice none 0 0∨∃ a n c,v = .slice (some a) n c) (hn:x.h.length≤1000) (hT:Row w 1 tv r.t.length (r.t.map Value.string)) (htv:tv = .slice none 0 0∨∃ a n c,tv = .slice (some a) n c) (hTn:r.t.length≤1000) :
 Calls Tryz.prog 10 #[.agg (x.arr v),.agg (r.arr tv)] w (OwnP w x r):=by
 obtain ⟨ti0,hi,hz0,hz1,hz2⟩:=info_parts info_letter
 obtain ⟨si0,si,sz0,sz1,sz2⟩:=info_parts info_string
 have HR:=zd hR
 have HVV:=zd hv
 have HT:=zd hT
 have HTV:=zd htv
 obtain ⟨a,cap,rfl,hm,_⟩:=row_view hR
 obtain ⟨ta,tcap,rfl,hmt,_⟩:=row_view hT
 clear hR hv hm hT htv hmt
 go_enter Tryz.func10,Tryz.ntmps10
 go_upto_region 1 with fail
 refine wp_forget (fun w'=>ExAt w' w.heap.size x (.slice a x.h.length cap)∧RgAt w' (w.heap.size+1) r (.slice ta r.t.length tcap)∧w'.heap[w.heap.size+1+1]?=some (.cells exZ 33 (0,0))∧w'.heap[w.heap.size+1+1+1]?=some (.cells rgZ 36 (0,0))∧Ext w w') four_new ?_
 rintro W1 ⟨h1,h2,h3,h4,x1⟩
 obtain ⟨gx,hgx⟩ : ∃ g,g=w.heap.size:=⟨_,rfl⟩
 obtain ⟨gr,hgr⟩ : ∃ g,g=w.heap.size+1:=⟨_,rfl⟩
 obtain ⟨ga,hga⟩ : ∃ g,g=w.heap.size+1+1:=⟨_,rfl⟩
 obtain ⟨gb,hgb⟩ : ∃ g,g=w.heap.size+1+1+1:=⟨_,rfl⟩
 rw [←hgx] at h1
 rw [←hgr] at h2
 rw [←hga] at h3
 rw [←hgb] at h4
 rw [←hgb,←hga,←hgr,←hgx]
 have HG:Hid (gx=w.heap.size∧gr=w.heap.size+1∧ga=w.heap.size+1+1∧gb=w.heap.size+1+1+1∧gb<W1.heap.size):=zd ⟨hgx,hgr,hga,hgb,(zL h4)⟩
 clear hgx hgr hga hgb
 have H1:Hid (ExAt W1 gx x (.slice a x.h.length cap)∧RgAt W1 gr r (.slice ta r.t.length tcap)∧W1.heap[ga]?=some (.cells exZ 33 (0,0))∧W1.heap[gb]?=some (.cells rgZ 36 (0,0))∧Ext w W1):=zd ⟨h1,h2,h3,h4,x1⟩
 have q25:W1.cell? ⟨gx,25,none⟩=some (.slice a x.h.length cap):=zQ h1 25
 have l1:gx<W1.heap.size:=zL h1
 clear h1 h2 h3 h4 x1
 go_upto_region 2 with (first|(at_builtin;refine unHd ?_))
 unfold Hd2
 refine wpList_app4 W1.heap.size 31 24 ti0 _ 5 48 zu31 hi hz0 hz1 hz2 rfl (by decide) rfl _ _ rfl _ 0 [] rfl (own_new (Ext.refl W1) rfl (by decide) rfl rfl) (by simp) _ x.h.length (x.h.flatMap Lt.cs) rfl
  ((HR.out.ext H1.out.2.2.2.2).ext (zR.alloc _)) HVV.out (lt_one x.h) (by unfold maxLen;omega) (by omega) ?_
 intro v' w2 ho2 hb2 hg2
 rw [Nat.zero_add,List.nil_append] at ho2
 replace hg2:(W1.alloc (.cells #[] 24)).grownBy w2 (some W1.heap.size):=hg2
 have blk : ∀ k,k<W1.heap.size→w2.heap[k]?=W1.heap[k]?:=fun k hk=>(hg2.block k (by simp;omega) (by simp;omega)).trans (((Ext.refl W1).alloc (.cells #[] 24)).block k hk)
 have hx2:Ext W1 w2:=⟨hg2.os,hg2.tape,hg2.output,zT (by simp) hg2.size,blk⟩
 have HO2:=zd ho2
 have HX2:=zd hx2
 have q25:=cell_keep q25 hx2
 have hxa2:=heap_ext H1.out.1 hx2
 have l1:gx<w2.heap.size:=zL hxa2
 have f25:=zF hxa2 25
 obtain ⟨sa,sc,hsv⟩:=own_sl ho2
 subst hsv
 clear ho2 hb2 hg2 blk hx2 hxa2
 go_upto_region 2 with fail
 refine wp_forget (fun w'=>ExAt w' gx x (.slice sa x.h.length sc)∧RgAt w' gr r (.slice ta r.t.length tcap)∧w'.heap[ga]?=some (.cells exZ 33 (0,0))∧w'.heap[gb]?=some (.cells rgZ 36 (0,0))∧Own w' W1.heap.size x.h (.slice sa x.h.length sc)∧Ext w w'∧W1.heap.size≤w'.heap.size) ⟨?b1,?b2,?b3,?b4,?b5,?b6,?b7⟩ ?_
 case b1=>exact setCell_row (heap_ext H1.out.1 HX2.out) _
 case b2=>exact (cell_other (by have:=HG.out;omega)).trans (heap_ext H1.out.2.1 HX2.out)
 case b3=>exact (cell_other (by have:=HG.out;omega)).trans (heap_ext H1.out.2.2.1 HX2.out)
 case b4=>exact (cell_other (by have:=HG.out;omega)).trans (heap_ext H1.out.2.2.2.1 HX2.out)
 case b5=>exact own_at HO2.out fun k hk=>cell_other (by have:=own_lo HO2.out k hk;have:=HG.out;omega)
 case b6=>exact (H1.out.2.2.2.2.trans HX2.out).setCell (by have:=HG.out;show w.heap.size≤gx;omega) _
 case b7=>simpa [World.setCell] using HX2.out.size
 clear q25 l1 f25 HX2 HO2
 rintro W3 ⟨h1,h2,h3,h4,h5,x1,hsz⟩
 have H3:=zd (And.intro h1 (And.intro h2 (And.intro h3 (And.intro h4 (And.intro h5 (And.intro x1 hsz))))))
 have q0:W3.cell? ⟨gr,0,none⟩=some (.slice ta r.t.length tcap):=zQ h2 0
 have l2:gr<W3.heap.size:=zL h2
 clear h1 h2 h3 h4 h5 x1 hsz H1
 go_upto_region 3 with (first|(at_builtin;refine unHd ?_))
 unfold Hd2
 refine wpList_app4 W3.heap.size 34 9 si0 _ 1 16 zu34 si sz0 sz1 sz2 rfl (by decide) rfl _ _ rfl _ 0 [] rfl (own_new (Ext.refl W3) rfl (by decide) rfl rfl) (by simp) _ r.t.length (r.t.map Value.string) rfl
  ((HT.out.ext H3.out.2.2.2.2.2.1).ext (zR.alloc _)) HTV.out (str_one r.t) (by unfold maxLen;omega) (by omega) ?_
 intro tv' w4 ho4 hb4 hg4
 rw [Nat.zero_add,List.nil_append] at ho4
 replace hg4:(W3.alloc (.cells #[] 9)).grownBy w4 (some W3.heap.size):=hg4
 have blk : ∀ k,k<W3.heap.size→w4.heap[k]?=W3.heap[k]?:=fun k hk=>(hg4.block k (by simp;omega) (by simp;omega)).trans (((Ext.refl W3).alloc (.cells #[] 9)).block k hk)
 have hx4:Ext W3 w4:=⟨hg4.os,hg4.tape,hg4.output,zT (by simp) hg4.size,blk⟩
 have HO4:=zd ho4
 have HX4:=zd hx4
 have q0:=cell_keep q0 hx4
 have hra4:=heap_ext H3.out.2.1 hx4
 have l2:gr<w4.heap.size:=zL hra4
 have f0:=zF hra4 0
 obtain ⟨ua,uc,hsv⟩:=own_sl ho4
 subst hsv
 clear ho4 hb4 hg4 blk hx4 hra4
 go_upto_region 3 with fail
 refine wp_forget (fun w'=>ExAt w' gx x (.slice sa x.h.length sc)∧RgAt w' gr r (.slice ua r.t.length uc)∧w'.heap[ga]?=some (.cells exZ 33 (0,0))∧w'.heap[gb]?=some (.cells rgZ 36 (0,0))∧Own w' W1.heap.size x.h (.slice sa x.h.length sc)∧w'.ownsRow W1.heap.size 9 1 (.slice ua r.t.length uc) r.t.length (r.t.map Value.string)∧Ext w w') ⟨?c1,?c2,?c3,?c4,?c5,?c6,?c7⟩ ?_
 case c1=>exact (cell_other (by have:=HG.out;omega)).trans (heap_ext H3.out.1 HX4.out)
 case c2=>exact setCell_row (heap_ext H3.out.2.1 HX4.out) _
 case c3=>exact (cell_other (by have:=HG.out;omega)).trans (heap_ext H3.out.2.2.1 HX4.out)
 case c4=>exact (cell_other (by have:=HG.out;omega)).trans (heap_ext H3.out.2.2.2.1 HX4.out)
 case c5=>exact own_at (H3.out.2.2.2.2.1.ext HX4.out) fun k hk=>cell_other (by have:=own_lo H3.out.2.2.2.2.1 k hk;have:=HG.out;omega)
 case c6=>exact own_base (own_at HO4.out fun k hk=>cell_other (by have:=own_lo HO4.out k hk;have:=HG.out;have:=H3.out.2.2.2.2.2.2;omega)) H3.out.2.2.2.2.2.2
 case c7=>exact (H3.out.2.2.2.2.2.1.trans HX4.out).setCell (by have:=HG.out;show w.heap.size≤gr;omega) _
 clear q0 l2 f0 HX4 HO4 H3
 rintro W5 ⟨h1,h2,h3,h4,h5,h6,x5⟩
 have H3:=zd h3
 have H4:=zd h4
 have H5:=zd h5
 have H6:=zd h6
 have X5:=zd x5
 have HB:Hid (∀ g,g∈rowB (.slice sa x.h.length sc)∨g∈rowB (.slice ua r.t.length uc)→W1.heap.size≤g):=zd fun g hg=>hg.elim (own_lo h5 g) (own_lo h6 g)
 refine wp_region_mix (af:=?af) [true,true,false,false] 18 (fun w'=>ExAt w' gx x (.slice sa x.h.length sc)∧RgAt w' gr r (.slice ua r.t.length uc)) (by kernel_rfl) rfl (by kernel_rfl) (fun _ _ h e=>⟨h.1.ext e,h.2.ext e⟩) ⟨h1.ext zR.drew,h2.ext zR.drew⟩ ?q ?r
 case q=>
  rintro w' ⟨k1,k2⟩
  simp only [pickT,if_true,if_false,Bool.false_eq_true]
  (go_big_quiet_want;refine quiet_load_rowX 33 _ rfl _ rfl _ _ (0,0) _ k1 zu33 rfl info_ex ?_;go_big_quiet_on;simp only [Act.put,List.setIfInBounds_toArray,List.set_cons_succ,List.set_cons_zero])
  (go_big_quiet_want;refine quiet_load_rowX 36 _ rfl _ rfl _ _ (0,0) _ k2 zu36 rfl info_range ?_;go_big_quiet_on;simp only [Act.put,List.setIfInBounds_toArray,List.set_cons_succ,List.set_cons_zero])
  refine wpQuiet_nil ?_
  exact rfl
 case r=>
  simp only [pickF,if_true,if_false,Bool.false_eq_true]
  intro x1
  have e1:Ext W5 x1.val:=(Ext.refl W5).drew.val x1
  go_wp2_with (refine wpList_store_row rfl 33 _ _ rfl ga (x.arr (.slice sa x.h.length sc)) rfl rfl 33 _ (heap_ext H3.out e1) info_ex rfl (arr_one x rfl) ?_)
  have n1:gx≠ga∧gr≠ga∧gx≠gb∧gr≠gb∧ga≠gb∧ga<W1.heap.size∧gb<W1.heap.size∧w.heap.size≤ga∧w.heap.size≤gb∧w.heap.size≤W1.heap.size:=by have:=HG.out;omega
  refine ⟨⟨(setRow_other _ _ _ _ n1.1).trans (h1.ext e1),(setRow_other _ _ _ _ n1.2.1).trans (h2.ext e1)⟩,?_⟩
  intro x2
  go_wp2_with (refine wpList_store_row rfl 36 _ _ rfl gb (r.arr (.slice ua r.t.length uc)) rfl rfl 36 _ (heap_ext ((setRow_other _ _ _ _ (Ne.symm n1.2.2.2.2.1)).trans (heap_ext H4.out e1)) x2.ext) info_range rfl (rg_one r rfl) ?_)
  refine ⟨⟨(setRow_other _ _ _ _ n1.2.2.1).trans (heap_ext ((setRow_other _ _ _ _ n1.1).trans (h1.ext e1)) x2.ext),(setRow_other _ _ _ _ n1.2.2.2.1).trans (heap_ext ((setRow_other _ _ _ _ n1.2.1).trans (h2.ext e1)) x2.ext)⟩,?_⟩
  intro x3
  have o5:Own x3.val w.heap.size x.h (.slice sa x.h.length sc):=own_base (own_ext (own_at (own_ext (own_at (H5.out.ext e1) fun k hk=>setRow_other _ _ _ _ (by have:=HB.out k (.inl hk);omega)) x2.ext) fun k hk=>setRow_other _ _ _ _ (by have:=HB.out k (.inl hk);omega)) x3.ext) n1.2.2.2.2.2.2.2.2.2
  have o6:x3.val.ownsRow w.heap.size 9 1 (.slice ua r.t.length uc) r.t.length (r.t.map Value.string):=own_base (own_ext (own_at (own_ext (own_at (own_ext H6.out e1) fun k hk=>setRow_other _ _ _ _ (by have:=HB.out k (.inr hk);omega)) x2.ext) fun k hk=>setRow_other _ _ _ _ (by have:=HB.out k (.inr hk);omega)) x3.ext) n1.2.2.2.2.2.2.2.2.2
  have k3:=heap_ext ((setRow_other _ _ _ (r.arr (.slice ua r.t.length uc)) n1.2.2.2.2.1).trans (heap_ext (setRow_heap _ _ _ (x.arr (.slice sa x.h.length sc)) _ _ (heap_ext H3.out e1)) x2.ext)) x3.ext
  have k4:=heap_ext (setRow_heap _ _ _ (r.arr (.slice ua r.t.length uc)) _ _ (heap_ext ((setRow_other _ _ _ (x.arr (.slice sa x.h.length sc)) (Ne.symm n1.2.2.2.2.1)).trans (heap_ext H4.out e1)) x2.ext)) x3.ext
  have xf:=((((X5.out.trans e1).setRow n1.2.2.2.2.2.2.2.1 (x.arr (.slice sa x.h.length sc))).val x2).setRow n1.2.2.2.2.2.2.2.2.1 (r.arr (.slice ua r.t.length uc))).val x3
  go_wp2_with fail
  refine bodyPost_ret (results_two rfl _ _ ga gb 33 36 (x.arr (.slice sa x.h.length sc)) (r.arr (.slice ua r.t.length uc)) (0,0) (0,0) _ _ rfl k3 zu33 rfl info_ex rfl k4 zu36 rfl info_range) rfl ?_
  exact ⟨(.slice sa x.h.length sc),(.slice ua r.t.length uc),rfl,o5,o6,xf⟩
end Go.Proofs.YtlnmhocehgmbbaaGreatDoor
namespace Go.Proofs.YtlnmhocehgmbbaaGreatDoor
structure Bf (mv:Ex→List Mv) (x0:Ex) (k:Nat) (L:List Fd):Prop where
 pre:PreG L
 h0 : ∃ d,L[0]?=some d∧d.x=x0∧d.p = -1
 mono : ∀ (i j:Nat) (a b:Fd),i<j→L[i]?=some a→L[j]?=some b→a.p≤b.p
 top : ∀ (j:Nat) (b:Fd),L[j]?=some b→b.p≤(k:Int)
 par : ∀ (j:Nat) (b:Fd),L[j]?=some b→0≤b.p→∃ a,L[b.p.toNat]?=some a∧stepX a.x b.m=(b.x,true)
 one : ∀ (j:Nat) (b:Fd),L[j]?=some b→b.p<0→b.x=x0
 exp : ∀ (i:Nat) (a:Fd),i<k→L[i]?=some a→∀ m∈mv a.x,(stepX a.x m).2=true→∃ (j:Nat) (b:Fd),L[j]?=some b∧b.p≤(i:Int)∧SameP b.x (stepX a.x m).1
section
variable {most:Nat} {stop:Ex→Bool} {mv:Ex→List Mv} {x0 x y:Ex} {k:Nat} {m:Mv} {L:List Fd} {d:Fd}
theorem get_app {α:Type} {L:List α} {z a:α} {j:Nat} (h:(L++[z])[j]?=some a):L[j]?=some a∨(j=L.length∧a=z):=by
 by_cases hl:j<L.length
 ·rw [List.getElem?_append_left hl] at h
  exact .inl h
 ·have h2:=zM h
  rw [List.length_append] at h2
  simp only [List.length_cons,List.length_nil] at h2
  obtain rfl:j=L.length:=by omega
  rw [List.getElem?_append_right zN,Nat.sub_self] at h
  exact .inr ⟨rfl,(Option.some.inj h).symm⟩
theorem get_up {α:Type} {L:List α} {z a:α} {j:Nat} (h:L[j]?=some a):(L++[z])[j]?=some a:=by
 rw [List.getElem?_append_left (zM h)];exact h
theorem Bf.app (h:Bf mv x0 k L) (hd:L[k]?=some d) (hs:stepX d.x m=(y,true)):Bf mv x0 k (L++[⟨y,(k:Int),m⟩]):=by
 have hk:=zM hd
 refine ⟨pre_app h.pre hk,?_,fun i j a b hij hi hj=>?_,fun j b hj=>?_,fun j b hj hp=>?_,fun j b hj hp=>?_,fun i a hi ha m' hm' hok=>?_⟩
 ·obtain ⟨d0,h1,h2⟩:=h.h0
  exact ⟨d0,get_up h1,h2⟩
 ·rcases get_app hj with hj|⟨rfl,rfl⟩
  ·rcases get_app hi with hi|⟨rfl,rfl⟩
   ·exact h.mono i j a b hij hi hj
   ·have:=zM hj
    omega
  ·rcases get_app hi with hi|⟨rfl,rfl⟩
   ·exact h.top i a hi
   ·omega
 ·rcases get_app hj with hj|⟨rfl,rfl⟩
  ·exact h.top j b hj
  ·exact Int.le_refl _
 ·rcases get_app hj with hj|⟨rfl,rfl⟩
  ·obtain ⟨a,h1,h2⟩:=h.par j b hj hp
   exact ⟨a,get_up h1,h2⟩
  ·exact ⟨d,by simpa using get_up hd,hs⟩
 ·rcases get_app hj with hj|⟨rfl,rfl⟩
  ·exact h.one j b hj hp
  ·have:(k:Int)<0:=hp
   omega
 ·have hil:L[i]?=some a:=by
   rcases get_app ha with ha|⟨rfl,_⟩
   ·exact ha
   ·omega
  obtain ⟨j,b,h1,h2,h3⟩:=h.exp i a hi hil m' hm' hok
  exact ⟨j,b,get_up h1,h2,h3⟩
structure Fnd (stop:Ex→Bool) (mv:Ex→List Mv) (x0:Ex) (L:List Fd) (n:Nat):Prop where
 bf : ∃ k d,Bf mv x0 k L∧L[n]?=some d∧d.p=(k:Int)∧stop d.x=true
 no : ∀ (j:Nat) (b:Fd),j<n→L[j]?=some b→stop b.x=false
end
def depN (L:List Fd) (i:Nat):Nat:=(wayN L (i+1) i).length
theorem way_fuel {L:List Fd} (hp:PreG L) (i:Nat) : ∀ (f g:Nat),i<f→i<g→wayN L f i=wayN L g i:=by
 induction i using Nat.strongRecOn with
 | ind i ih=>
  intro f g hf hg
  obtain ⟨f,rfl⟩ : ∃ n,f=n+1:=⟨f - 1,by omega⟩
  obtain ⟨g,rfl⟩ : ∃ n,g=n+1:=⟨g - 1,by omega⟩
  cases hi:L[i]? with
  | none=>
   unfold wayN
   rw [hi]
  | some d=>
   by_cases hd:0≤d.p
   ·rw [way_yes hi hd,way_yes hi hd]
    rcases hp i d hi with h1|⟨_,h1⟩
    ·omega
    ·rw [ih d.p.toNat (by omega) f g (by omega) (by omega)]
   ·rw [way_no hi hd,way_no hi hd]
theorem dep_up {L:List Fd} (hp:PreG L) {i:Nat} {d:Fd} (h:L[i]?=some d) (hd:0≤d.p):depN L i=depN L d.p.toNat+1:=by
 unfold depN
 rcases hp i d h with h1|⟨_,h1⟩
 ·omega
 ·rw [way_yes h hd,List.length_append,way_fuel hp d.p.toNat i (d.p.toNat+1) (by omega) (by omega)]
  rfl
theorem dep_no {L:List Fd} {i:Nat} {d:Fd} (h:L[i]?=some d) (hd : ¬0≤d.p):depN L i=0:=by
 unfold depN
 rw [way_no h hd]
 rfl
section
variable {stop:Ex→Bool} {mv:Ex→List Mv} {x0:Ex} {k:Nat} {L:List Fd}
inductive Goes (mv:Ex→List Mv):Ex→List Mv→Ex→Prop
 | nil (x:Ex):Goes mv x [] x
 | snoc {x z:Ex} {l:List Mv} {m:Mv} : Goes mv x l z→m∈mv z→(stepX z m).2=true→Goes mv x (l++[m]) (stepX z m).1
theorem repl_app : ∀ (a:List Mv) (x y:Ex) (m:Mv),replS x a=(y,a.length)→(stepX y m).2=true→replS x (a++[m])=((stepX y m).1,(a++[m]).length)
 | [],x,y,m,h,hok=>by
  obtain rfl:x=y:=(Prod.ext_iff.1 h).1
  simp only [List.nil_append]
  unfold replS
  rw [if_pos hok]
  rfl
 | n::a,x,y,m,h,hok=>by
  unfold replS at h
  by_cases hn:(stepX x n).2=true
  ·rw [if_pos hn] at h
   have h1:=(Prod.ext_iff.1 h).1
   have h2:=(Prod.ext_iff.1 h).2
   simp only [List.length_cons] at h1 h2
   have ih:=repl_app a (stepX x n).1 y m (Prod.ext h1 (by simp only;omega)) hok
   rw [List.cons_append]
   conv=>lhs;unfold replS
   rw [if_pos hn,ih]
   simp
  ·rw [if_neg hn] at h
   have h2:=(Prod.ext_iff.1 h).2
   simp at h2
theorem Bf.way (h:Bf mv x0 k L) : ∀ (i:Nat) (d:Fd),L[i]?=some d→replS x0 (wayN L (i+1) i)=(d.x,(wayN L (i+1) i).length):=by
 intro i
 induction i using Nat.strongRecOn with
 | ind i ih=>
  intro d hi
  by_cases hd:0≤d.p
  ·obtain ⟨a,ha,hs⟩:=h.par i d hi hd
   rcases h.pre i d hi with h1|⟨_,h1⟩
   ·omega
   ·rw [way_yes hi hd,way_fuel h.pre d.p.toNat i (d.p.toNat+1) (by omega) (by omega)]
    have:=repl_app _ x0 a.x d.m (ih d.p.toNat (by omega) a ha) (by rw [hs])
    rw [hs] at this
    exact this
  ·rw [way_no hi hd,h.one i d hi (by omega)]
   rfl
end
section
variable {x y:Ex}
theorem SameP.anyL (h:SameP x y) (f:Lt→Bool):x.h.any f=y.h.any f:=by
 rw [Bool.eq_iff_iff]
 simp only [List.any_eq_true]
 exact ⟨fun ⟨a,b,c⟩=>⟨a,h.h.mem_iff.1 b,c⟩,fun ⟨a,b,c⟩=>⟨a,h.h.mem_iff.2 b,c⟩⟩
theorem SameP.bnd (h:SameP x y) (who:Int):(boundX x who).length=(boundX y who).length:=(h.h.filter _).length_eq
theorem SameP.brk (h:SameP x y):brkX x=brkX y:=by
 have h1:holds1 x=holds1 y:=by unfold holds1;rw [h.b0,h.b1,h.s0,h.s1,h.bnd,h.bnd]
 have h2:holds2 x=holds2 y:=by unfold holds2;rw [h.b0,h.b1,h.s0,h.s1,h.canS,h.canS]
 have h3:holds3 x=holds3 y:=by unfold holds3;rw [h.anyL,h.anyL]
 have h4:holds4 x=holds4 y:=by unfold holds4;rw [h.b0,h.b1,h.s0,h.s1]
 have h5:holds5 x=holds5 y:=by unfold holds5 saidX;rw [h.v,h.anyL]
 unfold brkX
 rw [h1,h2,h3,h4,h5]
theorem SameP.meet (h:SameP x y) (q:Wi):meetS q x=meetS q y:=by
 unfold meetS brkT bndT
 rw [h.s0,h.s1,h.v,←brk_ok x,←brk_ok y,h.brk,h.bnd]
end
theorem way_len (q:Wi) (r:Rg) (x:Ex) (hm:r.m≤100):(wayS (goG (mostR r) (meetS q) (movesR evsS · r) x)).1.length≤100:=by
 unfold wayS
 split
 ·exact Nat.zero_le _
 ·refine zT (wayN_len _ _ _) ?_
  have h1:=(go_at (mostR_le hm).1 (meetS q) (movesR evsS · r) x).1
  exact zT h1 (mostR_le hm).2
end Go.Proofs.YtlnmhocehgmbbaaGreatDoor

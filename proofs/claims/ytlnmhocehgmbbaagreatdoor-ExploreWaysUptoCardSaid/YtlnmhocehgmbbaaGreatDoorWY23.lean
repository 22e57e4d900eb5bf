/- No condition. -/
import Derived.Test.YtlnmhocehgmbbaaGreatDoorWY11
import Derived.Test.YtlnmhocehgmbbaaGreatDoorWY22
set_option linter.all false
set_option maxRecDepth 100000
set_option maxHeartbeats 6400000
namespace Go.Proofs.YtlnmhocehgmbbaaGreatDoor
open Go.RowKit
attribute [local go_sem ↓] eql_lEq eql_sEq eql_eEq eql_oEq neq_lEq neq_sEq neq_eEq neq_oEq eql_vEq neq_vEq eql_nil
attribute [local go_sem] ExtOf.cell ExtOf.frozen ExtOf.lt ExtOf.le
attribute [local go_sem high] ExtOf.cell2 ExtOf.frozen2 ExtOf.lt2 ExtOf.cell3 ExtOf.frozen3 ExtOf.lt3
structure DocP (x y:Ex):Prop where
 c:x.c=y.c
 s0:x.s0=y.s0
 s1:x.s1=y.s1
 v:x.v=y.v
 b0:x.b0=y.b0
 b1:x.b1=y.b1
 full:x.full=y.full
 n:x.h.length=y.h.length
 l : ∀ l∈x.h,l∈y.h
 r : ∀ l∈y.h,l∈x.h
instance (x y:Ex):Decidable (DocP x y):=decidable_of_iff (x.c=y.c∧x.s0=y.s0∧x.s1=y.s1∧x.v=y.v∧x.b0=y.b0∧x.b1=y.b1∧x.full=y.full∧x.h.length=y.h.length∧(∀ l∈x.h,l∈y.h)∧∀ l∈y.h,l∈x.h)
 ⟨fun ⟨a,b,c,d,e,f,g,h,i,j⟩=>⟨a,b,c,d,e,f,g,h,i,j⟩,fun h=>⟨h.c,h.s0,h.s1,h.v,h.b0,h.b1,h.full,h.n,h.l,h.r⟩⟩
def sameD (x y:Ex):Bool:=decide (DocP x y)
theorem SameP.doc {x y:Ex} (h:SameP x y):DocP x y:=⟨h.c,h.s0,h.s1,h.v,h.b0,h.b1,h.full,h.h.length_eq,fun _ hl=>h.h.mem_iff.1 hl,fun _ hl=>h.h.mem_iff.2 hl⟩
def hrdEq (x y:Ex):Bool:=decide ((∀ l∈x.h,l∈y.h)∧∀ l∈y.h,l∈x.h)
theorem hrdEq_no {x y:Ex} (h : ¬((∀ l∈x.h,l∈y.h)∧∀ l∈y.h,l∈x.h)):hrdEq x y=false:=decide_eq_false h
theorem hrdEq_yes {x y:Ex} (h:(∀ l∈x.h,l∈y.h)∧∀ l∈y.h,l∈x.h):hrdEq x y=true:=decide_eq_true h
theorem info_s26:(Tryz.prog.info? 26).map (·.size)=some 9:=by kernel_rfl
theorem sEq_st (a b:St):sEq a.r a.c a.t a.ph a.p.k a.p.f a.p.c a.p.t a.p.b b.r b.c b.t b.ph b.p.k b.p.f b.p.c b.p.t b.p.b=decide (a=b):=by
 obtain ⟨a1,a2,a3,a4,⟨a5,a6,a7,a8,a9⟩⟩:=a
 obtain ⟨b1,b2,b3,b4,⟨b5,b6,b7,b8,b9⟩⟩:=b
 simp [sEq]
theorem doc_no1 (x y:Ex) (v v':Value) (w:World) (hR:Hrd w x v) (hR':Hrd w y v')  (t1:x.c≠y.c):Calls Tryz.prog 16 #[.agg (x.arr v),.agg (y.arr v')] w fun e w'=>e = .returned (.bool false)∧Ext w w':=by
 obtain ⟨a,cap,rfl,hm,hvw⟩:=row_view hR
 obtain ⟨a',cap',rfl,hm',hvw'⟩:=row_view hR'
 clear hvw hvw' hm'
 unfold maxLen at hm
 go_enter Tryz.func16,Tryz.ntmps16
 go_upto_region 1 with fail
 refine wp_forget (fun w'=>w'.heap[w.heap.size]?=some (.cells (x.arr (.slice a x.h.length cap)) 33 (0,0))∧w'.heap[w.heap.size+1]?=some (.cells (y.arr (.slice a' y.h.length cap')) 33 (0,0))∧Ext w w') ⟨heap_ext (heap_ext (heap_new rfl) (zR.alloc _)) zR,heap_ext (heap_new (by simp)) zR,((zR.alloc _).alloc _)⟩ ?_
 rintro W1 ⟨h1,h2,x1⟩
 revert h1 h2
 generalize w.heap.size+1=g2
 generalize w.heap.size=g1
 intro h1 h2
 have r10:W1.rangeAt g1 1 [.int .i64 x.s0.r,.int .u64 x.s0.c,.string x.s0.t,.int .i64 x.s0.ph,.int .i64 x.s0.p.k,.int .i64 x.s0.p.f,.int .u64 x.s0.p.c,.string x.s0.p.t,.bool x.s0.p.b]:=range_of_row h1 1 9 _ rfl
 have r20:W1.rangeAt g2 1 [.int .i64 y.s0.r,.int .u64 y.s0.c,.string y.s0.t,.int .i64 y.s0.ph,.int .i64 y.s0.p.k,.int .i64 y.s0.p.f,.int .u64 y.s0.p.c,.string y.s0.p.t,.bool y.s0.p.b]:=range_of_row h2 1 9 _ rfl
 have r11:W1.rangeAt g1 10 [.int .i64 x.s1.r,.int .u64 x.s1.c,.string x.s1.t,.int .i64 x.s1.ph,.int .i64 x.s1.p.k,.int .i64 x.s1.p.f,.int .u64 x.s1.p.c,.string x.s1.p.t,.bool x.s1.p.b]:=range_of_row h1 10 9 _ rfl
 have r21:W1.rangeAt g2 10 [.int .i64 y.s1.r,.int .u64 y.s1.c,.string y.s1.t,.int .i64 y.s1.ph,.int .i64 y.s1.p.k,.int .i64 y.s1.p.f,.int .u64 y.s1.p.c,.string y.s1.p.t,.bool y.s1.p.b]:=range_of_row h2 10 9 _ rfl
 have R10:=zd r10
 have R20:=zd r20
 have R11:=zd r11
 have R21:=zd r21
 clear r10 r20 r11 r21
 unfold Ex.arr at h1 h2
 have c1_0:=zQ h1 0
 have c2_0:=zQ h2 0
 have c1_19:=zQ h1 19
 have c2_19:=zQ h2 19
 have c1_20:=zQ h1 20
 have c2_20:=zQ h2 20
 have c1_21:=zQ h1 21
 have c2_21:=zQ h2 21
 have c1_22:=zQ h1 22
 have c2_22:=zQ h2 22
 have c1_23:=zQ h1 23
 have c2_23:=zQ h2 23
 have c1_24:=zQ h1 24
 have c2_24:=zQ h2 24
 have c1_25:=zQ h1 25
 have c2_25:=zQ h2 25
 have l1:g1<W1.heap.size:=zL h1
 have l2:g2<W1.heap.size:=zL h2
 have X1:=zd x1
 clear h1 h2 x1
 go_wp2_with (first|((with_reducible refine wpList_load_midG 26 (.tmp 13) ?_ g1 1 ?_ ?_ [.int .i64 x.s0.r,.int .u64 x.s0.c,.string x.s0.t,.int .i64 x.s0.ph,.int .i64 x.s0.p.k,.int .i64 x.s0.p.f,.int .u64 x.s0.p.c,.string x.s0.p.t,.bool x.s0.p.b] _ ?_ zu26 ?_ ?_ ?_);(·rfl);(·rfl);(·kernel_rfl);(·exact R10.out);(·rfl);(·exact info_s26))|((with_reducible refine wpList_load_midG 26 (.tmp 16) ?_ g2 1 ?_ ?_ [.int .i64 y.s0.r,.int .u64 y.s0.c,.string y.s0.t,.int .i64 y.s0.ph,.int .i64 y.s0.p.k,.int .i64 y.s0.p.f,.int .u64 y.s0.p.c,.string y.s0.p.t,.bool y.s0.p.b] _ ?_ zu26 ?_ ?_ ?_);(·rfl);(·rfl);(·kernel_rfl);(·exact R20.out);(·rfl);(·exact info_s26))|((with_reducible refine wpList_load_midG 26 (.tmp 22) ?_ g1 10 ?_ ?_ [.int .i64 x.s1.r,.int .u64 x.s1.c,.string x.s1.t,.int .i64 x.s1.ph,.int .i64 x.s1.p.k,.int .i64 x.s1.p.f,.int .u64 x.s1.p.c,.string x.s1.p.t,.bool x.s1.p.b] _ ?_ zu26 ?_ ?_ ?_);(·rfl);(·rfl);(·kernel_rfl);(·exact R11.out);(·rfl);(·exact info_s26))|((with_reducible refine wpList_load_midG 26 (.tmp 25) ?_ g2 10 ?_ ?_ [.int .i64 y.s1.r,.int .u64 y.s1.c,.string y.s1.t,.int .i64 y.s1.ph,.int .i64 y.s1.p.k,.int .i64 y.s1.p.f,.int .u64 y.s1.p.c,.string y.s1.p.t,.bool y.s1.p.b] _ ?_ zu26 ?_ ?_ ?_);(·rfl);(·rfl);(·kernel_rfl);(·exact R21.out);(·rfl);(·exact info_s26)))
 go_ret
 exact ⟨rfl,X1.out⟩
theorem doc_no2 (x y:Ex) (v v':Value) (w:World) (hR:Hrd w x v) (hR':Hrd w y v') (t1:x.c=y.c) (t2:sEq x.s0.r x.s0.c x.s0.t x.s0.ph x.s0.p.k x.s0.p.f x.s0.p.c x.s0.p.t x.s0.p.b y.s0.r y.s0.c y.s0.t y.s0.ph y.s0.p.k y.s0.p.f y.s0.p.c y.s0.p.t y.s0.p.b=false):Calls Tryz.prog 16 #[.agg (x.arr v),.agg (y.arr v')] w fun e w'=>e = .returned (.bool false)∧Ext w w':=by
 obtain ⟨a,cap,rfl,hm,hvw⟩:=row_view hR
 obtain ⟨a',cap',rfl,hm',hvw'⟩:=row_view hR'
 clear hvw hvw' hm'
 unfold maxLen at hm
 go_enter Tryz.func16,Tryz.ntmps16
 go_upto_region 1 with fail
 refine wp_forget (fun w'=>w'.heap[w.heap.size]?=some (.cells (x.arr (.slice a x.h.length cap)) 33 (0,0))∧w'.heap[w.heap.size+1]?=some (.cells (y.arr (.slice a' y.h.length cap')) 33 (0,0))∧Ext w w') ⟨heap_ext (heap_ext (heap_new rfl) (zR.alloc _)) zR,heap_ext (heap_new (by simp)) zR,((zR.alloc _).alloc _)⟩ ?_
 rintro W1 ⟨h1,h2,x1⟩
 revert h1 h2
 generalize w.heap.size+1=g2
 generalize w.heap.size=g1
 intro h1 h2
 have r10:W1.rangeAt g1 1 [.int .i64 x.s0.r,.int .u64 x.s0.c,.string x.s0.t,.int .i64 x.s0.ph,.int .i64 x.s0.p.k,.int .i64 x.s0.p.f,.int .u64 x.s0.p.c,.string x.s0.p.t,.bool x.s0.p.b]:=range_of_row h1 1 9 _ rfl
 have r20:W1.rangeAt g2 1 [.int .i64 y.s0.r,.int .u64 y.s0.c,.string y.s0.t,.int .i64 y.s0.ph,.int .i64 y.s0.p.k,.int .i64 y.s0.p.f,.int .u64 y.s0.p.c,.string y.s0.p.t,.bool y.s0.p.b]:=range_of_row h2 1 9 _ rfl
 have r11:W1.rangeAt g1 10 [.int .i64 x.s1.r,.int .u64 x.s1.c,.string x.s1.t,.int .i64 x.s1.ph,.int .i64 x.s1.p.k,.int .i64 x.s1.p.f,.int .u64 x.s1.p.c,.string x.s1.p.t,.bool x.s1.p.b]:=range_of_row h1 10 9 _ rfl
 have r21:W1.rangeAt g2 10 [.int .i64 y.s1.r,.int .u64 y.s1.c,.string y.s1.t,.int .i64 y.s1.ph,.int .i64 y.s1.p.k,.int .i64 y.s1.p.f,.int .u64 y.s1.p.c,.string y.s1.p.t,.bool y.s1.p.b]:=range_of_row h2 10 9 _ rfl
 have R10:=zd r10
 have R20:=zd r20
 have R11:=zd r11
 have R21:=zd r21
 clear r10 r20 r11 r21
 unfold Ex.arr at h1 h2
 have c1_0:=zQ h1 0
 have c2_0:=zQ h2 0
 have c1_19:=zQ h1 19
 have c2_19:=zQ h2 19
 have c1_20:=zQ h1 20
 have c2_20:=zQ h2 20
 have c1_21:=zQ h1 21
 have c2_21:=zQ h2 21
 have c1_22:=zQ h1 22
 have c2_22:=zQ h2 22
 have c1_23:=zQ h1 23
 have c2_23:=zQ h2 23
 have c1_24:=zQ h1 24
 have c2_24:=zQ h2 24
 have c1_25:=zQ h1 25
 have c2_25:=zQ h2 25
 have l1:g1<W1.heap.size:=zL h1
 have l2:g2<W1.heap.size:=zL h2
 have X1:=zd x1
 clear h1 h2 x1
 go_wp2_with (first|((with_reducible refine wpList_load_midG 26 (.tmp 13) ?_ g1 1 ?_ ?_ [.int .i64 x.s0.r,.int .u64 x.s0.c,.string x.s0.t,.int .i64 x.s0.ph,.int .i64 x.s0.p.k,.int .i64 x.s0.p.f,.int .u64 x.s0.p.c,.string x.s0.p.t,.bool x.s0.p.b] _ ?_ zu26 ?_ ?_ ?_);(·rfl);(·rfl);(·kernel_rfl);(·exact R10.out);(·rfl);(·exact info_s26))|((with_reducible refine wpList_load_midG 26 (.tmp 16) ?_ g2 1 ?_ ?_ [.int .i64 y.s0.r,.int .u64 y.s0.c,.string y.s0.t,.int .i64 y.s0.ph,.int .i64 y.s0.p.k,.int .i64 y.s0.p.f,.int .u64 y.s0.p.c,.string y.s0.p.t,.bool y.s0.p.b] _ ?_ zu26 ?_ ?_ ?_);(·rfl);(·rfl);(·kernel_rfl);(·exact R20.out);(·rfl);(·exact info_s26))|((with_reducible refine wpList_load_midG 26 (.tmp 22) ?_ g1 10 ?_ ?_ [.int .i64 x.s1.r,.int .u64 x.s1.c,.string x.s1.t,.int .i64 x.s1.ph,.int .i64 x.s1.p.k,.int .i64 x.s1.p.f,.int .u64 x.s1.p.c,.string x.s1.p.t,.bool x.s1.p.b] _ ?_ zu26 ?_ ?_ ?_);(·rfl);(·rfl);(·kernel_rfl);(·exact R11.out);(·rfl);(·exact info_s26))|((with_reducible refine wpList_load_midG 26 (.tmp 25) ?_ g2 10 ?_ ?_ [.int .i64 y.s1.r,.int .u64 y.s1.c,.string y.s1.t,.int .i64 y.s1.ph,.int .i64 y.s1.p.k,.int .i64 y.s1.p.f,.int .u64 y.s1.p.c,.string y.s1.p.t,.bool y.s1.p.b] _ ?_ zu26 ?_ ?_ ?_);(·rfl);(·rfl);(·kernel_rfl);(·exact R21.out);(·rfl);(·exact info_s26)))
 go_ret
 exact ⟨rfl,X1.out⟩
theorem doc_no3 (x y:Ex) (v v':Value) (w:World) (hR:Hrd w x v) (hR':Hrd w y v') (t1:x.c=y.c) (t2:sEq x.s0.r x.s0.c x.s0.t x.s0.ph x.s0.p.k x.s0.p.f x.s0.p.c x.s0.p.t x.s0.p.b y.s0.r y.s0.c y.s0.t y.s0.ph y.s0.p.k y.s0.p.f y.s0.p.c y.s0.p.t y.s0.p.b=true) (t3:sEq x.s1.r x.s1.c x.s1.t x.s1.ph x.s1.p.k x.s1.p.f x.s1.p.c x.s1.p.t x.s1.p.b y.s1.r y.s1.c y.s1.t y.s1.ph y.s1.p.k y.s1.p.f y.s1.p.c y.s1.p.t y.s1.p.b=false):Calls Tryz.prog 16 #[.agg (x.arr v),.agg (y.arr v')] w fun e w'=>e = .returned (.bool false)∧Ext w w':=by
 obtain ⟨a,cap,rfl,hm,hvw⟩:=row_view hR
 obtain ⟨a',cap',rfl,hm',hvw'⟩:=row_view hR'
 clear hvw hvw' hm'
 unfold maxLen at hm
 go_enter Tryz.func16,Tryz.ntmps16
 go_upto_region 1 with fail
 refine wp_forget (fun w'=>w'.heap[w.heap.size]?=some (.cells (x.arr (.slice a x.h.length cap)) 33 (0,0))∧w'.heap[w.heap.size+1]?=some (.cells (y.arr (.slice a' y.h.length cap')) 33 (0,0))∧Ext w w') ⟨heap_ext (heap_ext (heap_new rfl) (zR.alloc _)) zR,heap_ext (heap_new (by simp)) zR,((zR.alloc _).alloc _)⟩ ?_
 rintro W1 ⟨h1,h2,x1⟩
 revert h1 h2
 generalize w.heap.size+1=g2
 generalize w.heap.size=g1
 intro h1 h2
 have r10:W1.rangeAt g1 1 [.int .i64 x.s0.r,.int .u64 x.s0.c,.string x.s0.t,.int .i64 x.s0.ph,.int .i64 x.s0.p.k,.int .i64 x.s0.p.f,.int .u64 x.s0.p.c,.string x.s0.p.t,.bool x.s0.p.b]:=range_of_row h1 1 9 _ rfl
 have r20:W1.rangeAt g2 1 [.int .i64 y.s0.r,.int .u64 y.s0.c,.string y.s0.t,.int .i64 y.s0.ph,.int .i64 y.s0.p.k,.int .i64 y.s0.p.f,.int .u64 y.s0.p.c,.string y.s0.p.t,.bool y.s0.p.b]:=range_of_row h2 1 9 _ rfl
 have r11:W1.rangeAt g1 10 [.int .i64 x.s1.r,.int .u64 x.s1.c,.string x.s1.t,.int .i64 x.s1.ph,.int .i64 x.s1.p.k,.int .i64 x.s1.p.f,.int .u64 x.s1.p.c,.string x.s1.p.t,.bool x.s1.p.b]:=range_of_row h1 10 9 _ rfl
 have r21:W1.rangeAt g2 10 [.int .i64 y.s1.r,.int .u64 y.s1.c,.string y.s1.t,.int .i64 y.s1.ph,.int .i64 y.s1.p.k,.int .i64 y.s1.p.f,.int .u64 y.s1.p.c,.string y.s1.p.t,.bool y.s1.p.b]:=range_of_row h2 10 9 _ rfl
 have R10:=zd r10
 have R20:=zd r20
 have R11:=zd r11
 have R21:=zd r21
 clear r10 r20 r11 r21
 unfold Ex.arr at h1 h2
 have c1_0:=zQ h1 0
 have c2_0:=zQ h2 0
 have c1_19:=zQ h1 19
 have c2_19:=zQ h2 19
 have c1_20:=zQ h1 20
 have c2_20:=zQ h2 20
 have c1_21:=zQ h1 21
 have c2_21:=zQ h2 21
 have c1_22:=zQ h1 22
 have c2_22:=zQ h2 22
 have c1_23:=zQ h1 23
 have c2_23:=zQ h2 23
 have c1_24:=zQ h1 24
 have c2_24:=zQ h2 24
 have c1_25:=zQ h1 25
 have c2_25:=zQ h2 25
 have l1:g1<W1.heap.size:=zL h1
 have l2:g2<W1.heap.size:=zL h2
 have X1:=zd x1
 clear h1 h2 x1
 go_wp2_with (first|((with_reducible refine wpList_load_midG 26 (.tmp 13) ?_ g1 1 ?_ ?_ [.int .i64 x.s0.r,.int .u64 x.s0.c,.string x.s0.t,.int .i64 x.s0.ph,.int .i64 x.s0.p.k,.int .i64 x.s0.p.f,.int .u64 x.s0.p.c,.string x.s0.p.t,.bool x.s0.p.b] _ ?_ zu26 ?_ ?_ ?_);(·rfl);(·rfl);(·kernel_rfl);(·exact R10.out);(·rfl);(·exact info_s26))|((with_reducible refine wpList_load_midG 26 (.tmp 16) ?_ g2 1 ?_ ?_ [.int .i64 y.s0.r,.int .u64 y.s0.c,.string y.s0.t,.int .i64 y.s0.ph,.int .i64 y.s0.p.k,.int .i64 y.s0.p.f,.int .u64 y.s0.p.c,.string y.s0.p.t,.bool y.s0.p.b] _ ?_ zu26 ?_ ?_ ?_);(·rfl);(·rfl);(·kernel_rfl);(·exact R20.out);(·rfl);(·exact info_s26))|((with_reducible refine wpList_load_midG 26 (.tmp 22) ?_ g1 10 ?_ ?_ [.int .i64 x.s1.r,.int .u64 x.s1.c,.string x.s1.t,.int .i64 x.s1.ph,.int .i64 x.s1.p.k,.int .i64 x.s1.p.f,.int .u64 x.s1.p.c,.string x.s1.p.t,.bool x.s1.p.b] _ ?_ zu26 ?_ ?_ ?_);(·rfl);(·rfl);(·kernel_rfl);(·exact R11.out);(·rfl);(·exact info_s26))|((with_reducible refine wpList_load_midG 26 (.tmp 25) ?_ g2 10 ?_ ?_ [.int .i64 y.s1.r,.int .u64 y.s1.c,.string y.s1.t,.int .i64 y.s1.ph,.int .i64 y.s1.p.k,.int .i64 y.s1.p.f,.int .u64 y.s1.p.c,.string y.s1.p.t,.bool y.s1.p.b] _ ?_ zu26 ?_ ?_ ?_);(·rfl);(·rfl);(·kernel_rfl);(·exact R21.out);(·rfl);(·exact info_s26)))
 go_ret
 exact ⟨rfl,X1.out⟩
theorem doc_no4 (x y:Ex) (v v':Value) (w:World) (hR:Hrd w x v) (hR':Hrd w y v') (t1:x.c=y.c) (t2:sEq x.s0.r x.s0.c x.s0.t x.s0.ph x.s0.p.k x.s0.p.f x.s0.p.c x.s0.p.t x.s0.p.b y.s0.r y.s0.c y.s0.t y.s0.ph y.s0.p.k y.s0.p.f y.s0.p.c y.s0.p.t y.s0.p.b=true) (t3:sEq x.s1.r x.s1.c x.s1.t x.s1.ph x.s1.p.k x.s1.p.f x.s1.p.c x.s1.p.t x.s1.p.b y.s1.r y.s1.c y.s1.t y.s1.ph y.s1.p.k y.s1.p.f y.s1.p.c y.s1.p.t y.s1.p.b=true) (t4:vEq x.v.c x.v.k x.v.t y.v.c y.v.k y.v.t=false):Calls Tryz.prog 16 #[.agg (x.arr v),.agg (y.arr v')] w fun e w'=>e = .returned (.bool false)∧Ext w w':=by
 obtain ⟨a,cap,rfl,hm,hvw⟩:=row_view hR
 obtain ⟨a',cap',rfl,hm',hvw'⟩:=row_view hR'
 clear hvw hvw' hm'
 unfold maxLen at hm
 go_enter Tryz.func16,Tryz.ntmps16
 go_upto_region 1 with fail
 refine wp_forget (fun w'=>w'.heap[w.heap.size]?=some (.cells (x.arr (.slice a x.h.length cap)) 33 (0,0))∧w'.heap[w.heap.size+1]?=some (.cells (y.arr (.slice a' y.h.length cap')) 33 (0,0))∧Ext w w') ⟨heap_ext (heap_ext (heap_new rfl) (zR.alloc _)) zR,heap_ext (heap_new (by simp)) zR,((zR.alloc _).alloc _)⟩ ?_
 rintro W1 ⟨h1,h2,x1⟩
 revert h1 h2
 generalize w.heap.size+1=g2
 generalize w.heap.size=g1
 intro h1 h2
 have r10:W1.rangeAt g1 1 [.int .i64 x.s0.r,.int .u64 x.s0.c,.string x.s0.t,.int .i64 x.s0.ph,.int .i64 x.s0.p.k,.int .i64 x.s0.p.f,.int .u64 x.s0.p.c,.string x.s0.p.t,.bool x.s0.p.b]:=range_of_row h1 1 9 _ rfl
 have r20:W1.rangeAt g2 1 [.int .i64 y.s0.r,.int .u64 y.s0.c,.string y.s0.t,.int .i64 y.s0.ph,.int .i64 y.s0.p.k,.int .i64 y.s0.p.f,.int .u64 y.s0.p.c,.string y.s0.p.t,.bool y.s0.p.b]:=range_of_row h2 1 9 _ rfl
 have r11:W1.rangeAt g1 10 [.int .i64 x.s1.r,.int .u64 x.s1.c,.string x.s1.t,.int .i64 x.s1.ph,.int .i64 x.s1.p.k,.int .i64 x.s1.p.f,.int .u64 x.s1.p.c,.string x.s1.p.t,.bool x.s1.p.b]:=range_of_row h1 10 9 _ rfl
 have r21:W1.rangeAt g2 10 [.int .i64 y.s1.r,.int .u64 y.s1.c,.string y.s1.t,.int .i64 y.s1.ph,.int .i64 y.s1.p.k,.int .i64 y.s1.p.f,.int .u64 y.s1.p.c,.string y.s1.p.t,.bool y.s1.p.b]:=range_of_row h2 10 9 _ rfl
 have R10:=zd r10
 have R20:=zd r20
 have R11:=zd r11
 have R21:=zd r21
 clear r10 r20 r11 r21
 unfold Ex.arr at h1 h2
 have c1_0:=zQ h1 0
 have c2_0:=zQ h2 0
 have c1_19:=zQ h1 19
 have c2_19:=zQ h2 19
 have c1_20:=zQ h1 20
 have c2_20:=zQ h2 20
 have c1_21:=zQ h1 21
 have c2_21:=zQ h2 21
 have c1_22:=zQ h1 22
 have c2_22:=zQ h2 22
 have c1_23:=zQ h1 23
 have c2_23:=zQ h2 23
 have c1_24:=zQ h1 24
 have c2_24:=zQ h2 24
 have c1_25:=zQ h1 25
 have c2_25:=zQ h2 25
 have l1:g1<W1.heap.size:=zL h1
 have l2:g2<W1.heap.size:=zL h2
 have X1:=zd x1
 clear h1 h2 x1
 go_wp2_with (first|((with_reducible refine wpList_load_midG 26 (.tmp 13) ?_ g1 1 ?_ ?_ [.int .i64 x.s0.r,.int .u64 x.s0.c,.string x.s0.t,.int .i64 x.s0.ph,.int .i64 x.s0.p.k,.int .i64 x.s0.p.f,.int .u64 x.s0.p.c,.string x.s0.p.t,.bool x.s0.p.b] _ ?_ zu26 ?_ ?_ ?_);(·rfl);(·rfl);(·kernel_rfl);(·exact R10.out);(·rfl);(·exact info_s26))|((with_reducible refine wpList_load_midG 26 (.tmp 16) ?_ g2 1 ?_ ?_ [.int .i64 y.s0.r,.int .u64 y.s0.c,.string y.s0.t,.int .i64 y.s0.ph,.int .i64 y.s0.p.k,.int .i64 y.s0.p.f,.int .u64 y.s0.p.c,.string y.s0.p.t,.bool y.s0.p.b] _ ?_ zu26 ?_ ?_ ?_);(·rfl);(·rfl);(·kernel_rfl);(·exact R20.out);(·rfl);(·exact info_s26))|((with_reducible refine wpList_load_midG 26 (.tmp 22) ?_ g1 10 ?_ ?_ [.int .i64 x.s1.r,.int .u64 x.s1.c,.string x.s1.t,.int .i64 x.s1.ph,.int .i64 x.s1.p.k,.int .i64 x.s1.p.f,.int .u64 x.s1.p.c,.string x.s1.p.t,.bool x.s1.p.b] _ ?_ zu26 ?_ ?_ ?_);(·rfl);(·rfl);(·kernel_rfl);(·exact R11.out);(·rfl);(·exact info_s26))|((with_reducible refine wpList_load_midG 26 (.tmp 25) ?_ g2 10 ?_ ?_ [.int .i64 y.s1.r,.int .u64 y.s1.c,.string y.s1.t,.int .i64 y.s1.ph,.int .i64 y.s1.p.k,.int .i64 y.s1.p.f,.int .u64 y.s1.p.c,.string y.s1.p.t,.bool y.s1.p.b] _ ?_ zu26 ?_ ?_ ?_);(·rfl);(·rfl);(·kernel_rfl);(·exact R21.out);(·rfl);(·exact info_s26)))
 go_ret
 exact ⟨rfl,X1.out⟩
theorem doc_no5 (x y:Ex) (v v':Value) (w:World) (hR:Hrd w x v) (hR':Hrd w y v') (t1:x.c=y.c) (t2:sEq x.s0.r x.s0.c x.s0.t x.s0.ph x.s0.p.k x.s0.p.f x.s0.p.c x.s0.p.t x.s0.p.b y.s0.r y.s0.c y.s0.t y.s0.ph y.s0.p.k y.s0.p.f y.s0.p.c y.s0.p.t y.s0.p.b=true) (t3:sEq x.s1.r x.s1.c x.s1.t x.s1.ph x.s1.p.k x.s1.p.f x.s1.p.c x.s1.p.t x.s1.p.b y.s1.r y.s1.c y.s1.t y.s1.ph y.s1.p.k y.s1.p.f y.s1.p.c y.s1.p.t y.s1.p.b=true) (t4:vEq x.v.c x.v.k x.v.t y.v.c y.v.k y.v.t=true) (t5:x.b0≠y.b0):Calls Tryz.prog 16 #[.agg (x.arr v),.agg (y.arr v')] w fun e w'=>e = .returned (.bool false)∧Ext w w':=by
 obtain ⟨a,cap,rfl,hm,hvw⟩:=row_view hR
 obtain ⟨a',cap',rfl,hm',hvw'⟩:=row_view hR'
 clear hvw hvw' hm'
 unfold maxLen at hm
 go_enter Tryz.func16,Tryz.ntmps16
 go_upto_region 1 with fail
 refine wp_forget (fun w'=>w'.heap[w.heap.size]?=some (.cells (x.arr (.slice a x.h.length cap)) 33 (0,0))∧w'.heap[w.heap.size+1]?=some (.cells (y.arr (.slice a' y.h.length cap')) 33 (0,0))∧Ext w w') ⟨heap_ext (heap_ext (heap_new rfl) (zR.alloc _)) zR,heap_ext (heap_new (by simp)) zR,((zR.alloc _).alloc _)⟩ ?_
 rintro W1 ⟨h1,h2,x1⟩
 revert h1 h2
 generalize w.heap.size+1=g2
 generalize w.heap.size=g1
 intro h1 h2
 have r10:W1.rangeAt g1 1 [.int .i64 x.s0.r,.int .u64 x.s0.c,.string x.s0.t,.int .i64 x.s0.ph,.int .i64 x.s0.p.k,.int .i64 x.s0.p.f,.int .u64 x.s0.p.c,.string x.s0.p.t,.bool x.s0.p.b]:=range_of_row h1 1 9 _ rfl
 have r20:W1.rangeAt g2 1 [.int .i64 y.s0.r,.int .u64 y.s0.c,.string y.s0.t,.int .i64 y.s0.ph,.int .i64 y.s0.p.k,.int .i64 y.s0.p.f,.int .u64 y.s0.p.c,.string y.s0.p.t,.bool y.s0.p.b]:=range_of_row h2 1 9 _ rfl
 have r11:W1.rangeAt g1 10 [.int .i64 x.s1.r,.int .u64 x.s1.c,.string x.s1.t,.int .i64 x.s1.ph,.int .i64 x.s1.p.k,.int .i64 x.s1.p.f,.int .u64 x.s1.p.c,.string x.s1.p.t,.bool x.s1.p.b]:=range_of_row h1 10 9 _ rfl
 have r21:W1.rangeAt g2 10 [.int .i64 y.s1.r,.int .u64 y.s1.c,.string y.s1.t,.int .i64 y.s1.ph,.int .i64 y.s1.p.k,.int .i64 y.s1.p.f,.int .u64 y.s1.p.c,.string y.s1.p.t,.bool y.s1.p.b]:=range_of_row h2 10 9 _ rfl
 have R10:=zd r10
 have R20:=zd r20
 have R11:=zd r11
 have R21:=zd r21
 clear r10 r20 r11 r21
 unfold Ex.arr at h1 h2
 have c1_0:=zQ h1 0
 have c2_0:=zQ h2 0
 have c1_19:=zQ h1 19
 have c2_19:=zQ h2 19
 have c1_20:=zQ h1 20
 have c2_20:=zQ h2 20
 have c1_21:=zQ h1 21
 have c2_21:=zQ h2 21
 have c1_22:=zQ h1 22
 have c2_22:=zQ h2 22
 have c1_23:=zQ h1 23
 have c2_23:=zQ h2 23
 have c1_24:=zQ h1 24
 have c2_24:=zQ h2 24
 have c1_25:=zQ h1 25
 have c2_25:=zQ h2 25
 have l1:g1<W1.heap.size:=zL h1
 have l2:g2<W1.heap.size:=zL h2
 have X1:=zd x1
 clear h1 h2 x1
 go_wp2_with (first|((with_reducible refine wpList_load_midG 26 (.tmp 13) ?_ g1 1 ?_ ?_ [.int .i64 x.s0.r,.int .u64 x.s0.c,.string x.s0.t,.int .i64 x.s0.ph,.int .i64 x.s0.p.k,.int .i64 x.s0.p.f,.int .u64 x.s0.p.c,.string x.s0.p.t,.bool x.s0.p.b] _ ?_ zu26 ?_ ?_ ?_);(·rfl);(·rfl);(·kernel_rfl);(·exact R10.out);(·rfl);(·exact info_s26))|((with_reducible refine wpList_load_midG 26 (.tmp 16) ?_ g2 1 ?_ ?_ [.int .i64 y.s0.r,.int .u64 y.s0.c,.string y.s0.t,.int .i64 y.s0.ph,.int .i64 y.s0.p.k,.int .i64 y.s0.p.f,.int .u64 y.s0.p.c,.string y.s0.p.t,.bool y.s0.p.b] _ ?_ zu26 ?_ ?_ ?_);(·rfl);(·rfl);(·kernel_rfl);(·exact R20.out);(·rfl);(·exact info_s26))|((with_reducible refine wpList_load_midG 26 (.tmp 22) ?_ g1 10 ?_ ?_ [.int .i64 x.s1.r,.int .u64 x.s1.c,.string x.s1.t,.int .i64 x.s1.ph,.int .i64 x.s1.p.k,.int .i64 x.s1.p.f,.int .u64 x.s1.p.c,.string x.s1.p.t,.bool x.s1.p.b] _ ?_ zu26 ?_ ?_ ?_);(·rfl);(·rfl);(·kernel_rfl);(·exact R11.out);(·rfl);(·exact info_s26))|((with_reducible refine wpList_load_midG 26 (.tmp 25) ?_ g2 10 ?_ ?_ [.int .i64 y.s1.r,.int .u64 y.s1.c,.string y.s1.t,.int .i64 y.s1.ph,.int .i64 y.s1.p.k,.int .i64 y.s1.p.f,.int .u64 y.s1.p.c,.string y.s1.p.t,.bool y.s1.p.b] _ ?_ zu26 ?_ ?_ ?_);(·rfl);(·rfl);(·kernel_rfl);(·exact R21.out);(·rfl);(·exact info_s26)))
 go_ret
 exact ⟨rfl,X1.out⟩
theorem doc_no6 (x y:Ex) (v v':Value) (w:World) (hR:Hrd w x v) (hR':Hrd w y v') (t1:x.c=y.c) (t2:sEq x.s0.r x.s0.c x.s0.t x.s0.ph x.s0.p.k x.s0.p.f x.s0.p.c x.s0.p.t x.s0.p.b y.s0.r y.s0.c y.s0.t y.s0.ph y.s0.p.k y.s0.p.f y.s0.p.c y.s0.p.t y.s0.p.b=true) (t3:sEq x.s1.r x.s1.c x.s1.t x.s1.ph x.s1.p.k x.s1.p.f x.s1.p.c x.s1.p.t x.s1.p.b y.s1.r y.s1.c y.s1.t y.s1.ph y.s1.p.k y.s1.p.f y.s1.p.c y.s1.p.t y.s1.p.b=true) (t4:vEq x.v.c x.v.k x.v.t y.v.c y.v.k y.v.t=true) (t5:x.b0=y.b0) (t6:x.b1≠y.b1):Calls Tryz.prog 16 #[.agg (x.arr v),.agg (y.arr v')] w fun e w'=>e = .returned (.bool false)∧Ext w w':=by
 obtain ⟨a,cap,rfl,hm,hvw⟩:=row_view hR
 obtain ⟨a',cap',rfl,hm',hvw'⟩:=row_view hR'
 clear hvw hvw' hm'
 unfold maxLen at hm
 go_enter Tryz.func16,Tryz.ntmps16
 go_upto_region 1 with fail
 refine wp_forget (fun w'=>w'.heap[w.heap.size]?=some (.cells (x.arr (.slice a x.h.length cap)) 33 (0,0))∧w'.heap[w.heap.size+1]?=some (.cells (y.arr (.slice a' y.h.length cap')) 33 (0,0))∧Ext w w') ⟨heap_ext (heap_ext (heap_new rfl) (zR.alloc _)) zR,heap_ext (heap_new (by simp)) zR,((zR.alloc _).alloc _)⟩ ?_
 rintro W1 ⟨h1,h2,x1⟩
 revert h1 h2
 generalize w.heap.size+1=g2
 generalize w.heap.size=g1
 intro h1 h2
 have r10:W1.rangeAt g1 1 [.int .i64 x.s0.r,.int .u64 x.s0.c,.string x.s0.t,.int .i64 x.s0.ph,.int .i64 x.s0.p.k,.int .i64 x.s0.p.f,.int .u64 x.s0.p.c,.string x.s0.p.t,.bool x.s0.p.b]:=range_of_row h1 1 9 _ rfl
 have r20:W1.rangeAt g2 1 [.int .i64 y.s0.r,.int .u64 y.s0.c,.string y.s0.t,.int .i64 y.s0.ph,.int .i64 y.s0.p.k,.int .i64 y.s0.p.f,.int .u64 y.s0.p.c,.string y.s0.p.t,.bool y.s0.p.b]:=range_of_row h2 1 9 _ rfl
 have r11:W1.rangeAt g1 10 [.int .i64 x.s1.r,.int .u64 x.s1.c,.string x.s1.t,.int .i64 x.s1.ph,.int .i64 x.s1.p.k,.int .i64 x.s1.p.f,.int .u64 x.s1.p.c,.string x.s1.p.t,.bool x.s1.p.b]:=range_of_row h1 10 9 _ rfl
 have r21:W1.rangeAt g2 10 [.int .i64 y.s1.r,.int .u64 y.s1.c,.string y.s1.t,.int .i64 y.s1.ph,.int .i64 y.s1.p.k,.int .i64 y.s1.p.f,.int .u64 y.s1.p.c,.string y.s1.p.t,.bool y.s1.p.b]:=range_of_row h2 10 9 _ rfl
 have R10:=zd r10
 have R20:=zd r20
 have R11:=zd r11
 have R21:=zd r21
 clear r10 r20 r11 r21
 unfold Ex.arr at h1 h2
 have c1_0:=zQ h1 0
 have c2_0:=zQ h2 0
 have c1_19:=zQ h1 19
 have c2_19:=zQ h2 19
 have c1_20:=zQ h1 20
 have c2_20:=zQ h2 20
 have c1_21:=zQ h1 21
 have c2_21:=zQ h2 21
 have c1_22:=zQ h1 22
 have c2_22:=zQ h2 22
 have c1_23:=zQ h1 23
 have c2_23:=zQ h2 23
 have c1_24:=zQ h1 24
 have c2_24:=zQ h2 24
 have c1_25:=zQ h1 25
 have c2_25:=zQ h2 25
 have l1:g1<W1.heap.size:=zL h1
 have l2:g2<W1.heap.size:=zL h2
 have X1:=zd x1
 clear h1 h2 x1
 go_wp2_with (first|((with_reducible refine wpList_load_midG 26 (.tmp 13) ?_ g1 1 ?_ ?_ [.int .i64 x.s0.r,.int .u64 x.s0.c,.string x.s0.t,.int .i64 x.s0.ph,.int .i64 x.s0.p.k,.int .i64 x.s0.p.f,.int .u64 x.s0.p.c,.string x.s0.p.t,.bool x.s0.p.b] _ ?_ zu26 ?_ ?_ ?_);(·rfl);(·rfl);(·kernel_rfl);(·exact R10.out);(·rfl);(·exact info_s26))|((with_reducible refine wpList_load_midG 26 (.tmp 16) ?_ g2 1 ?_ ?_ [.int .i64 y.s0.r,.int .u64 y.s0.c,.string y.s0.t,.int .i64 y.s0.ph,.int .i64 y.s0.p.k,.int .i64 y.s0.p.f,.int .u64 y.s0.p.c,.string y.s0.p.t,.bool y.s0.p.b] _ ?_ zu26 ?_ ?_ ?_);(·rfl);(·rfl);(·kernel_rfl);(·exact R20.out);(·rfl);(·exact info_s26))|((with_reducible refine wpList_load_midG 26 (.tmp 22) ?_ g1 10 ?_ ?_ [.int .i64 x.s1.r,.int .u64 x.s1.c,.string x.s1.t,.int .i64 x.s1.ph,.int .i64 x.s1.p.k,.int .i64 x.s1.p.f,.int .u64 x.s1.p.c,.string x.s1.p.t,.bool x.s1.p.b] _ ?_ zu26 ?_ ?_ ?_);(·rfl);(·rfl);(·kernel_rfl);(·exact R11.out);(·rfl);(·exact info_s26))|((with_reducible refine wpList_load_midG 26 (.tmp 25) ?_ g2 10 ?_ ?_ [.int .i64 y.s1.r,.int .u64 y.s1.c,.string y.s1.t,.int .i64 y.s1.ph,.int .i64 y.s1.p.k,.int .i64 y.s1.p.f,.int .u64 y.s1.p.c,.string y.s1.p.t,.bool y.s1.p.b] _ ?_ zu26 ?_ ?_ ?_);(·rfl);(·rfl);(·kernel_rfl);(·exact R21.out);(·rfl);(·exact info_s26)))
 go_ret
 exact ⟨rfl,X1.out⟩
theorem doc_no7 (x y:Ex) (v v':Value) (w:World) (hR:Hrd w x v) (hR':Hrd w y v') (t1:x.c=y.c) (t2:sEq x.s0.r x.s0.c x.s0.t x.s0.ph x.s0.p.k x.s0.p.f x.s0.p.c x.s0.p.t x.s0.p.b y.s0.r y.s0.c y.s0.t y.s0.ph y.s0.p.k y.s0.p.f y.s0.p.c y.s0.p.t y.s0.p.b=true) (t3:sEq x.s1.r x.s1.c x.s1.t x.s1.ph x.s1.p.k x.s1.p.f x.s1.p.c x.s1.p.t x.s1.p.b y.s1.r y.s1.c y.s1.t y.s1.ph y.s1.p.k y.s1.p.f y.s1.p.c y.s1.p.t y.s1.p.b=true) (t4:vEq x.v.c x.v.k x.v.t y.v.c y.v.k y.v.t=true) (t5:x.b0=y.b0) (t6:x.b1=y.b1) (t7:x.full≠y.full):Calls Tryz.prog 16 #[.agg (x.arr v),.agg (y.arr v')] w fun e w'=>e = .returned (.bool false)∧Ext w w':=by
 obtain ⟨a,cap,rfl,hm,hvw⟩:=row_view hR
 obtain ⟨a',cap',rfl,hm',hvw'⟩:=row_view hR'
 clear hvw hvw' hm'
 unfold maxLen at hm
 go_enter Tryz.func16,Tryz.ntmps16
 go_upto_region 1 with fail
 refine wp_forget (fun w'=>w'.heap[w.heap.size]?=some (.cells (x.arr (.slice a x.h.length cap)) 33 (0,0))∧w'.heap[w.heap.size+1]?=some (.cells (y.arr (.slice a' y.h.length cap')) 33 (0,0))∧Ext w w') ⟨heap_ext (heap_ext (heap_new rfl) (zR.alloc _)) zR,heap_ext (heap_new (by simp)) zR,((zR.alloc _).alloc _)⟩ ?_
 rintro W1 ⟨h1,h2,x1⟩
 revert h1 h2
 generalize w.heap.size+1=g2
 generalize w.heap.size=g1
 intro h1 h2
 have r10:W1.rangeAt g1 1 [.int .i64 x.s0.r,.int .u64 x.s0.c,.string x.s0.t,.int .i64 x.s0.ph,.int .i64 x.s0.p.k,.int .i64 x.s0.p.f,.int .u64 x.s0.p.c,.string x.s0.p.t,.bool x.s0.p.b]:=range_of_row h1 1 9 _ rfl
 have r20:W1.rangeAt g2 1 [.int .i64 y.s0.r,.int .u64 y.s0.c,.string y.s0.t,.int .i64 y.s0.ph,.int .i64 y.s0.p.k,.int .i64 y.s0.p.f,.int .u64 y.s0.p.c,.string y.s0.p.t,.bool y.s0.p.b]:=range_of_row h2 1 9 _ rfl
 have r11:W1.rangeAt g1 10 [.int .i64 x.s1.r,.int .u64 x.s1.c,.string x.s1.t,.int .i64 x.s1.ph,.int .i64 x.s1.p.k,.int .i64 x.s1.p.f,.int .u64 x.s1.p.c,.string x.s1.p.t,.bool x.s1.p.b]:=range_of_row h1 10 9 _ rfl
 have r21:W1.rangeAt g2 10 [.int .i64 y.s1.r,.int .u64 y.s1.c,.string y.s1.t,.int .i64 y.s1.ph,.int .i64 y.s1.p.k,.int .i64 y.s1.p.f,.int .u64 y.s1.p.c,.string y.s1.p.t,.bool y.s1.p.b]:=range_of_row h2 10 9 _ rfl
 have R10:=zd r10
 have R20:=zd r20
 have R11:=zd r11
 have R21:=zd r21
 clear r10 r20 r11 r21
 unfold Ex.arr at h1 h2
 have c1_0:=zQ h1 0
 have c2_0:=zQ h2 0
 have c1_19:=zQ h1 19
 have c2_19:=zQ h2 19
 have c1_20:=zQ h1 20
 have c2_20:=zQ h2 20
 have c1_21:=zQ h1 21
 have c2_21:=zQ h2 21
 have c1_22:=zQ h1 22
 have c2_22:=zQ h2 22
 have c1_23:=zQ h1 23
 have c2_23:=zQ h2 23
 have c1_24:=zQ h1 24
 have c2_24:=zQ h2 24
 have c1_25:=zQ h1 25
 have c2_25:=zQ h2 25
 have l1:g1<W1.heap.size:=zL h1
 have l2:g2<W1.heap.size:=zL h2
 have X1:=zd x1
 clear h1 h2 x1
 go_wp2_with (first|((with_reducible refine wpList_load_midG 26 (.tmp 13) ?_ g1 1 ?_ ?_ [.int .i64 x.s0.r,.int .u64 x.s0.c,.string x.s0.t,.int .i64 x.s0.ph,.int .i64 x.s0.p.k,.int .i64 x.s0.p.f,.int .u64 x.s0.p.c,.string x.s0.p.t,.bool x.s0.p.b] _ ?_ zu26 ?_ ?_ ?_);(·rfl);(·rfl);(·kernel_rfl);(·exact R10.out);(·rfl);(·exact info_s26))|((with_reducible refine wpList_load_midG 26 (.tmp 16) ?_ g2 1 ?_ ?_ [.int .i64 y.s0.r,.int .u64 y.s0.c,.string y.s0.t,.int .i64 y.s0.ph,.int .i64 y.s0.p.k,.int .i64 y.s0.p.f,.int .u64 y.s0.p.c,.string y.s0.p.t,.bool y.s0.p.b] _ ?_ zu26 ?_ ?_ ?_);(·rfl);(·rfl);(·kernel_rfl);(·exact R20.out);(·rfl);(·exact info_s26))|((with_reducible refine wpList_load_midG 26 (.tmp 22) ?_ g1 10 ?_ ?_ [.int .i64 x.s1.r,.int .u64 x.s1.c,.string x.s1.t,.int .i64 x.s1.ph,.int .i64 x.s1.p.k,.int .i64 x.s1.p.f,.int .u64 x.s1.p.c,.string x.s1.p.t,.bool x.s1.p.b] _ ?_ zu26 ?_ ?_ ?_);(·rfl);(·rfl);(·kernel_rfl);(·exact R11.out);(·rfl);(·exact info_s26))|((with_reducible refine wpList_load_midG 26 (.tmp 25) ?_ g2 10 ?_ ?_ [.int .i64 y.s1.r,.int .u64 y.s1.c,.string y.s1.t,.int .i64 y.s1.ph,.int .i64 y.s1.p.k,.int .i64 y.s1.p.f,.int .u64 y.s1.p.c,.string y.s1.p.t,.bool y.s1.p.b] _ ?_ zu26 ?_ ?_ ?_);(·rfl);(·rfl);(·kernel_rfl);(·exact R21.out);(·rfl);(·exact info_s26)))
 go_ret
 exact ⟨rfl,X1.out⟩
theorem doc_no8 (x y:Ex) (v v':Value) (w:World) (hR:Hrd w x v) (hR':Hrd w y v') (t1:x.c=y.c) (t2:sEq x.s0.r x.s0.c x.s0.t x.s0.ph x.s0.p.k x.s0.p.f x.s0.p.c x.s0.p.t x.s0.p.b y.s0.r y.s0.c y.s0.t y.s0.ph y.s0.p.k y.s0.p.f y.s0.p.c y.s0.p.t y.s0.p.b=true) (t3:sEq x.s1.r x.s1.c x.s1.t x.s1.ph x.s1.p.k x.s1.p.f x.s1.p.c x.s1.p.t x.s1.p.b y.s1.r y.s1.c y.s1.t y.s1.ph y.s1.p.k y.s1.p.f y.s1.p.c y.s1.p.t y.s1.p.b=true) (t4:vEq x.v.c x.v.k x.v.t y.v.c y.v.k y.v.t=true) (t5:x.b0=y.b0) (t6:x.b1=y.b1) (t7:x.full=y.full) (t8:(x.h.length:Int)≠(y.h.length:Int)):Calls Tryz.prog 16 #[.agg (x.arr v),.agg (y.arr v')] w fun e w'=>e = .returned (.bool false)∧Ext w w':=by
 obtain ⟨a,cap,rfl,hm,hvw⟩:=row_view hR
 obtain ⟨a',cap',rfl,hm',hvw'⟩:=row_view hR'
 clear hvw hvw' hm'
 unfold maxLen at hm
 go_enter Tryz.func16,Tryz.ntmps16
 go_upto_region 1 with fail
 refine wp_forget (fun w'=>w'.heap[w.heap.size]?=some (.cells (x.arr (.slice a x.h.length cap)) 33 (0,0))∧w'.heap[w.heap.size+1]?=some (.cells (y.arr (.slice a' y.h.length cap')) 33 (0,0))∧Ext w w') ⟨heap_ext (heap_ext (heap_new rfl) (zR.alloc _)) zR,heap_ext (heap_new (by simp)) zR,((zR.alloc _).alloc _)⟩ ?_
 rintro W1 ⟨h1,h2,x1⟩
 revert h1 h2
 generalize w.heap.size+1=g2
 generalize w.heap.size=g1
 intro h1 h2
 have r10:W1.rangeAt g1 1 [.int .i64 x.s0.r,.int .u64 x.s0.c,.string x.s0.t,.int .i64 x.s0.ph,.int .i64 x.s0.p.k,.int .i64 x.s0.p.f,.int .u64 x.s0.p.c,.string x.s0.p.t,.bool x.s0.p.b]:=range_of_row h1 1 9 _ rfl
 have r20:W1.rangeAt g2 1 [.int .i64 y.s0.r,.int .u64 y.s0.c,.string y.s0.t,.int .i64 y.s0.ph,.int .i64 y.s0.p.k,.int .i64 y.s0.p.f,.int .u64 y.s0.p.c,.string y.s0.p.t,.bool y.s0.p.b]:=range_of_row h2 1 9 _ rfl
 have r11:W1.rangeAt g1 10 [.int .i64 x.s1.r,.int .u64 x.s1.c,.string x.s1.t,.int .i64 x.s1.ph,.int .i64 x.s1.p.k,.int .i64 x.s1.p.f,.int .u64 x.s1.p.c,.string x.s1.p.t,.bool x.s1.p.b]:=range_of_row h1 10 9 _ rfl
 have r21:W1.rangeAt g2 10 [.int .i64 y.s1.r,.int .u64 y.s1.c,.string y.s1.t,.int .i64 y.s1.ph,.int .i64 y.s1.p.k,.int .i64 y.s1.p.f,.int .u64 y.s1.p.c,.string y.s1.p.t,.bool y.s1.p.b]:=range_of_row h2 10 9 _ rfl
 have R10:=zd r10
 have R20:=zd r20
 have R11:=zd r11
 have R21:=zd r21
 clear r10 r20 r11 r21
 unfold Ex.arr at h1 h2
 have c1_0:=zQ h1 0
 have c2_0:=zQ h2 0
 have c1_19:=zQ h1 19
 have c2_19:=zQ h2 19
 have c1_20:=zQ h1 20
 have c2_20:=zQ h2 20
 have c1_21:=zQ h1 21
 have c2_21:=zQ h2 21
 have c1_22:=zQ h1 22
 have c2_22:=zQ h2 22
 have c1_23:=zQ h1 23
 have c2_23:=zQ h2 23
 have c1_24:=zQ h1 24
 have c2_24:=zQ h2 24
 have c1_25:=zQ h1 25
 have c2_25:=zQ h2 25
 have l1:g1<W1.heap.size:=zL h1
 have l2:g2<W1.heap.size:=zL h2
 have X1:=zd x1
 clear h1 h2 x1
 go_wp2_with (first|((with_reducible refine wpList_load_midG 26 (.tmp 13) ?_ g1 1 ?_ ?_ [.int .i64 x.s0.r,.int .u64 x.s0.c,.string x.s0.t,.int .i64 x.s0.ph,.int .i64 x.s0.p.k,.int .i64 x.s0.p.f,.int .u64 x.s0.p.c,.string x.s0.p.t,.bool x.s0.p.b] _ ?_ zu26 ?_ ?_ ?_);(·rfl);(·rfl);(·kernel_rfl);(·exact R10.out);(·rfl);(·exact info_s26))|((with_reducible refine wpList_load_midG 26 (.tmp 16) ?_ g2 1 ?_ ?_ [.int .i64 y.s0.r,.int .u64 y.s0.c,.string y.s0.t,.int .i64 y.s0.ph,.int .i64 y.s0.p.k,.int .i64 y.s0.p.f,.int .u64 y.s0.p.c,.string y.s0.p.t,.bool y.s0.p.b] _ ?_ zu26 ?_ ?_ ?_);(·rfl);(·rfl);(·kernel_rfl);(·exact R20.out);(·rfl);(·exact info_s26))|((with_reducible refine wpList_load_midG 26 (.tmp 22) ?_ g1 10 ?_ ?_ [.int .i64 x.s1.r,.int .u64 x.s1.c,.string x.s1.t,.int .i64 x.s1.ph,.int .i64 x.s1.p.k,.int .i64 x.s1.p.f,.int .u64 x.s1.p.c,.string x.s1.p.t,.bool x.s1.p.b] _ ?_ zu26 ?_ ?_ ?_);(·rfl);(·rfl);(·kernel_rfl);(·exact R11.out);(·rfl);(·exact info_s26))|((with_reducible refine wpList_load_midG 26 (.tmp 25) ?_ g2 10 ?_ ?_ [.int .i64 y.s1.r,.int .u64 y.s1.c,.string y.s1.t,.int .i64 y.s1.ph,.int .i64 y.s1.p.k,.int .i64 y.s1.p.f,.int .u64 y.s1.p.c,.string y.s1.p.t,.bool y.s1.p.b] _ ?_ zu26 ?_ ?_ ?_);(·rfl);(·rfl);(·kernel_rfl);(·exact R21.out);(·rfl);(·exact info_s26)))
 go_ret
 exact ⟨rfl,X1.out⟩
theorem doc_yes (x y:Ex) (v v':Value) (w:World) (hR:Hrd w x v) (hR':Hrd w y v') (t1:x.c=y.c) (t2:sEq x.s0.r x.s0.c x.s0.t x.s0.ph x.s0.p.k x.s0.p.f x.s0.p.c x.s0.p.t x.s0.p.b y.s0.r y.s0.c y.s0.t y.s0.ph y.s0.p.k y.s0.p.f y.s0.p.c y.s0.p.t y.s0.p.b=true) (t3:sEq x.s1.r x.s1.c x.s1.t x.s1.ph x.s1.p.k x.s1.p.f x.s1.p.c x.s1.p.t x.s1.p.b y.s1.r y.s1.c y.s1.t y.s1.ph y.s1.p.k y.s1.p.f y.s1.p.c y.s1.p.t y.s1.p.b=true) (t4:vEq x.v.c x.v.k x.v.t y.v.c y.v.k y.v.t=true) (t5:x.b0=y.b0) (t6:x.b1=y.b1) (t7:x.full=y.full) (t8:(x.h.length:Int)=(y.h.length:Int)):Calls Tryz.prog 16 #[.agg (x.arr v),.agg (y.arr v')] w fun e w'=>e = .returned (.bool (hrdEq x y))∧Ext w w':=by
 have t8':x.h.length=y.h.length:=by omega
 have HN:=zd t8'
 clear t8'
 obtain ⟨a,cap,rfl,hm,hvw⟩:=row_view hR
 obtain ⟨a',cap',rfl,hm',hvw'⟩:=row_view hR'
 have HV:=zd hvw
 have HV':=zd hvw'
 have HR:=zd hR
 have HR':=zd hR'
 clear hvw hvw' hm' hR hR'
 unfold maxLen at hm
 go_enter Tryz.func16,Tryz.ntmps16
 go_upto_region 1 with fail
 refine wp_forget (fun w'=>w'.heap[w.heap.size]?=some (.cells (x.arr (.slice a x.h.length cap)) 33 (0,0))∧w'.heap[w.heap.size+1]?=some (.cells (y.arr (.slice a' y.h.length cap')) 33 (0,0))∧Ext w w') ⟨heap_ext (heap_ext (heap_new rfl) (zR.alloc _)) zR,heap_ext (heap_new (by simp)) zR,((zR.alloc _).alloc _)⟩ ?_
 rintro W1 ⟨h1,h2,x1⟩
 revert h1 h2
 generalize w.heap.size+1=g2
 generalize w.heap.size=g1
 intro h1 h2
 have r10:W1.rangeAt g1 1 [.int .i64 x.s0.r,.int .u64 x.s0.c,.string x.s0.t,.int .i64 x.s0.ph,.int .i64 x.s0.p.k,.int .i64 x.s0.p.f,.int .u64 x.s0.p.c,.string x.s0.p.t,.bool x.s0.p.b]:=range_of_row h1 1 9 _ rfl
 have r20:W1.rangeAt g2 1 [.int .i64 y.s0.r,.int .u64 y.s0.c,.string y.s0.t,.int .i64 y.s0.ph,.int .i64 y.s0.p.k,.int .i64 y.s0.p.f,.int .u64 y.s0.p.c,.string y.s0.p.t,.bool y.s0.p.b]:=range_of_row h2 1 9 _ rfl
 have r11:W1.rangeAt g1 10 [.int .i64 x.s1.r,.int .u64 x.s1.c,.string x.s1.t,.int .i64 x.s1.ph,.int .i64 x.s1.p.k,.int .i64 x.s1.p.f,.int .u64 x.s1.p.c,.string x.s1.p.t,.bool x.s1.p.b]:=range_of_row h1 10 9 _ rfl
 have r21:W1.rangeAt g2 10 [.int .i64 y.s1.r,.int .u64 y.s1.c,.string y.s1.t,.int .i64 y.s1.ph,.int .i64 y.s1.p.k,.int .i64 y.s1.p.f,.int .u64 y.s1.p.c,.string y.s1.p.t,.bool y.s1.p.b]:=range_of_row h2 10 9 _ rfl
 have R10:=zd r10
 have R20:=zd r20
 have R11:=zd r11
 have R21:=zd r21
 clear r10 r20 r11 r21
 have H1:=zd h1
 have H2:=zd h2
 unfold Ex.arr at h1 h2
 have c1_0:=zQ h1 0
 have c2_0:=zQ h2 0
 have c1_19:=zQ h1 19
 have c2_19:=zQ h2 19
 have c1_20:=zQ h1 20
 have c2_20:=zQ h2 20
 have c1_21:=zQ h1 21
 have c2_21:=zQ h2 21
 have c1_22:=zQ h1 22
 have c2_22:=zQ h2 22
 have c1_23:=zQ h1 23
 have c2_23:=zQ h2 23
 have c1_24:=zQ h1 24
 have c2_24:=zQ h2 24
 have c1_25:=zQ h1 25
 have c2_25:=zQ h2 25
 have l1:g1<W1.heap.size:=zL h1
 have l2:g2<W1.heap.size:=zL h2
 have X1:=zd x1
 clear h1 h2 x1
 go_wp2_with (first|((with_reducible refine wpList_load_midG 26 (.tmp 13) ?_ g1 1 ?_ ?_ [.int .i64 x.s0.r,.int .u64 x.s0.c,.string x.s0.t,.int .i64 x.s0.ph,.int .i64 x.s0.p.k,.int .i64 x.s0.p.f,.int .u64 x.s0.p.c,.string x.s0.p.t,.bool x.s0.p.b] _ ?_ zu26 ?_ ?_ ?_);(·rfl);(·rfl);(·kernel_rfl);(·exact R10.out);(·rfl);(·exact info_s26))|((with_reducible refine wpList_load_midG 26 (.tmp 16) ?_ g2 1 ?_ ?_ [.int .i64 y.s0.r,.int .u64 y.s0.c,.string y.s0.t,.int .i64 y.s0.ph,.int .i64 y.s0.p.k,.int .i64 y.s0.p.f,.int .u64 y.s0.p.c,.string y.s0.p.t,.bool y.s0.p.b] _ ?_ zu26 ?_ ?_ ?_);(·rfl);(·rfl);(·kernel_rfl);(·exact R20.out);(·rfl);(·exact info_s26))|((with_reducible refine wpList_load_midG 26 (.tmp 22) ?_ g1 10 ?_ ?_ [.int .i64 x.s1.r,.int .u64 x.s1.c,.string x.s1.t,.int .i64 x.s1.ph,.int .i64 x.s1.p.k,.int .i64 x.s1.p.f,.int .u64 x.s1.p.c,.string x.s1.p.t,.bool x.s1.p.b] _ ?_ zu26 ?_ ?_ ?_);(·rfl);(·rfl);(·kernel_rfl);(·exact R11.out);(·rfl);(·exact info_s26))|((with_reducible refine wpList_load_midG 26 (.tmp 25) ?_ g2 10 ?_ ?_ [.int .i64 y.s1.r,.int .u64 y.s1.c,.string y.s1.t,.int .i64 y.s1.ph,.int .i64 y.s1.p.k,.int .i64 y.s1.p.f,.int .u64 y.s1.p.c,.string y.s1.p.t,.bool y.s1.p.b] _ ?_ zu26 ?_ ?_ ?_);(·rfl);(·rfl);(·kernel_rfl);(·exact R21.out);(·rfl);(·exact info_s26)))
 go_loopg [5] x.h.length (fun g ii wr=>∃ (n:Nat) (z:ExtOf W1),ii = .int .i64 (n:Int)∧n+g=x.h.length∧wr=z.val∧Hid ((∀ l∈x.h.take n,l∈y.h)∧∀ l∈y.h.take n,l∈x.h))
 case atStart=>exact ⟨0,⟨W1,zR⟩,rfl,by omega,rfl,zd ⟨fun l hl=>by simp at hl,fun l hl=>by simp at hl⟩⟩
 case round=>
  obtain ⟨n,z,rfl,hg,rfl,HA⟩:=hrel
  by_cases hlt:n<x.h.length
  case neg=>
   have hlt' : ¬(n:Int)<(x.h.length:Int):=by omega
   go_wp2_with fail
   go_ret
   have ha:=HA.out
   rw [List.take_of_length_le (by omega),List.take_of_length_le (by have:=HN.out;omega)] at ha
   exact ⟨congrArg (fun b=>Ending.returned (.bool b)) (hrdEq_yes ha).symm,X1.out.val z⟩
  have hlt':(n:Int)<(x.h.length:Int):=by omega
  obtain ⟨g,off,rfl,hgl,hcell⟩:=HV.out (by omega)
  have hgl:=hgl (by omega)
  obtain ⟨g',off',rfl,hgl',hcell'⟩:=HV'.out (by omega)
  have hgl':=hgl' (by omega)
  obtain ⟨l,hl⟩ : ∃ l,x.h[n]?=some l:=⟨_,zG hlt⟩
  obtain ⟨m,hm⟩ : ∃ m,y.h[n]?=some m:=⟨_,zG (by have:=HN.out;omega)⟩
  obtain ⟨q0,q1,q2,q3,q4⟩:=lt_cellsO (fun j u hj=>cell_keep (hcell j u hj) X1.out) hl
  obtain ⟨p0,p1,p2,p3,p4⟩:=lt_cellsO (fun j u hj=>cell_keep (hcell' j u hj) X1.out) hm
  have hgl1:g<W1.heap.size:=zU hgl X1.out.size
  have hgl2:g'<W1.heap.size:=zU hgl' X1.out.size
  have hC1:=fun w' (hw:Ext W1 w')=>rf_heard y _ l w' (HR'.out.ext (X1.out.trans hw))
  have hC2:=fun w' (hw:Ext W1 w')=>rf_heard x _ m w' (HR.out.ext (X1.out.trans hw))
  have hny:(n:Int)<(y.h.length:Int):=by omega
  have hnl:n<y.h.length:=by omega
  have HLl:=zd hl
  have HMm:=zd hm
  clear hl hm hcell hcell' hgl hgl' hnl
  obtain ⟨b1,hb1⟩ : ∃ b,decide (l∈y.h)=b:=⟨_,rfl⟩
  obtain ⟨b2,hb2⟩ : ∃ b,decide (m∈x.h)=b:=⟨_,rfl⟩
  rw [hb1] at hC1
  rw [hb2] at hC2
  have HC1:=zd hC1
  have HC2:=zd hC2
  have HB1:=zd hb1
  have HB2:=zd hb2
  clear hC1 hC2 hb1 hb2
  go_upto_region 6 with fail
  have hno : ¬(b1=true∧b2=true)→hrdEq x y=false:=fun hn=>hrdEq_no fun hd=>hn ⟨by rw [←HB1.out];exact decide_eq_true (hd.1 l (zE HLl.out)),by rw [←HB2.out];exact decide_eq_true (hd.2 m (zE HMm.out))⟩
  have HNO:=zd hno
  clear hno
  rcases b1
  case false=>
   refine wp_region_ext (by kernel_rfl) (by kernel_rfl) ?_
   (go_big_quiet_want;refine quiet_load_rowX 33 _ rfl _ rfl _ _ (0,0) _ (heap_ext H2.out z.ext) zu33 rfl info_ex ?_;go_big_quiet_on;simp only [Act.put,List.setIfInBounds_toArray,List.set_cons_succ,List.set_cons_zero])
   repeat (go_big_quiet_step ((go_at_call 35;exact calls_ext (HC1.out _ ((z.ext.trans (ExtOf.ext _)))))))
   refine wpQuiet_nil ?_
   intro _ hx'
   obtain ⟨z2,rfl⟩:=hx'
   go_wp2_with fail
   go_ret
   exact ⟨congrArg (fun b=>Ending.returned (.bool b)) (HNO.out (by simp)).symm,(X1.out.val z).val z2⟩
  rcases b2
  case false=>
   refine wp_region_ext (by kernel_rfl) (by kernel_rfl) ?_
   (go_big_quiet_want;refine quiet_load_rowX 33 _ rfl _ rfl _ _ (0,0) _ (heap_ext H2.out z.ext) zu33 rfl info_ex ?_;go_big_quiet_on;simp only [Act.put,List.setIfInBounds_toArray,List.set_cons_succ,List.set_cons_zero])
   repeat (go_big_quiet_step ((go_at_call 35;exact calls_ext (HC1.out _ ((z.ext.trans (ExtOf.ext _)))))))
   (go_big_quiet_want;refine quiet_load_rowX 33 _ rfl _ rfl _ _ (0,0) _ (heap_ext H1.out z.ext) zu33 rfl info_ex ?_;go_big_quiet_on;simp only [Act.put,List.setIfInBounds_toArray,List.set_cons_succ,List.set_cons_zero])
   repeat (go_big_quiet_step ((go_at_call 35;exact calls_ext (HC2.out _ ((z.ext.trans (ExtOf.ext _)))))))
   refine wpQuiet_nil ?_
   intro _ hx'
   obtain ⟨z2,rfl⟩:=hx'
   go_wp2_with fail
   go_ret
   exact ⟨congrArg (fun b=>Ending.returned (.bool b)) (HNO.out (by simp)).symm,(X1.out.val z).val z2⟩
  refine wp_region_ext (by kernel_rfl) (by kernel_rfl) ?_
  (go_big_quiet_want;refine quiet_load_rowX 33 _ rfl _ rfl _ _ (0,0) _ (heap_ext H2.out z.ext) zu33 rfl info_ex ?_;go_big_quiet_on;simp only [Act.put,List.setIfInBounds_toArray,List.set_cons_succ,List.set_cons_zero])
  repeat (go_big_quiet_step ((go_at_call 35;exact calls_ext (HC1.out _ ((z.ext.trans (ExtOf.ext _)))))))
  (go_big_quiet_want;refine quiet_load_rowX 33 _ rfl _ rfl _ _ (0,0) _ (heap_ext H1.out z.ext) zu33 rfl info_ex ?_;go_big_quiet_on;simp only [Act.put,List.setIfInBounds_toArray,List.set_cons_succ,List.set_cons_zero])
  repeat (go_big_quiet_step ((go_at_call 35;exact calls_ext (HC2.out _ ((z.ext.trans (ExtOf.ext _)))))))
  refine wpQuiet_nil ?_
  intro _ hx'
  obtain ⟨z2,rfl⟩:=hx'
  go_wp2_with fail
  go_roundg (gk - 1)
  case rel=>
   refine ⟨n+1,⟨z2.val,z.ext.trans z2.ext⟩,by simp,by omega,rfl,zd ⟨fun q hq=>?_,fun q hq=>?_⟩⟩
   ·rw [List.take_add_one,HLl.out] at hq
    rcases List.mem_append.1 hq with hq|hq
    ·exact HA.out.1 q hq
    ·simp only [Option.toList_some,List.mem_singleton] at hq
     rw [hq]
     exact of_decide_eq_true HB1.out
   ·rw [List.take_add_one,HMm.out] at hq
    rcases List.mem_append.1 hq with hq|hq
    ·exact HA.out.2 q hq
    ·simp only [Option.toList_some,List.mem_singleton] at hq
     rw [hq]
     exact of_decide_eq_true HB2.out
  case measure=>omega
theorem doc_same (x y:Ex) (v v':Value) (w:World) (hR:Hrd w x v) (hR':Hrd w y v'):Calls Tryz.prog 16 #[.agg (x.arr v),.agg (y.arr v')] w fun e w'=>e = .returned (.bool (sameD x y))∧Ext w w':=by
 have no:(¬DocP x y)→∀ {e:Ending} {w':World},(e = .returned (.bool false)∧Ext w w')→(e = .returned (.bool (sameD x y))∧Ext w w'):=fun h _ _ h1=>⟨by rw [h1.1,sameD,decide_eq_false h],h1.2⟩
 by_cases t1:x.c=y.c
 case neg=>exact (doc_no1 x y v v' w hR hR' t1).mono fun _ _ h=>no (fun s=>t1 s.c) h
 cases t2:sEq x.s0.r x.s0.c x.s0.t x.s0.ph x.s0.p.k x.s0.p.f x.s0.p.c x.s0.p.t x.s0.p.b y.s0.r y.s0.c y.s0.t y.s0.ph y.s0.p.k y.s0.p.f y.s0.p.c y.s0.p.t y.s0.p.b
 ·exact (doc_no2 x y v v' w hR hR' t1 t2).mono fun _ _ h=>no (fun s=>by rw [sEq_st] at t2;exact absurd s.s0 (of_decide_eq_false t2)) h
 cases t3:sEq x.s1.r x.s1.c x.s1.t x.s1.ph x.s1.p.k x.s1.p.f x.s1.p.c x.s1.p.t x.s1.p.b y.s1.r y.s1.c y.s1.t y.s1.ph y.s1.p.k y.s1.p.f y.s1.p.c y.s1.p.t y.s1.p.b
 ·exact (doc_no3 x y v v' w hR hR' t1 t2 t3).mono fun _ _ h=>no (fun s=>by rw [sEq_st] at t3;exact absurd s.s1 (of_decide_eq_false t3)) h
 cases t4:vEq x.v.c x.v.k x.v.t y.v.c y.v.k y.v.t
 ·exact (doc_no4 x y v v' w hR hR' t1 t2 t3 t4).mono fun _ _ h=>no (fun s=>by rw [vEq_vd] at t4;exact absurd s.v (of_decide_eq_false t4)) h
 by_cases t5:x.b0=y.b0
 case neg=>exact (doc_no5 x y v v' w hR hR' t1 t2 t3 t4 t5).mono fun _ _ h=>no (fun s=>t5 s.b0) h
 by_cases t6:x.b1=y.b1
 case neg=>exact (doc_no6 x y v v' w hR hR' t1 t2 t3 t4 t5 t6).mono fun _ _ h=>no (fun s=>t6 s.b1) h
 by_cases t7:x.full=y.full
 case neg=>exact (doc_no7 x y v v' w hR hR' t1 t2 t3 t4 t5 t6 t7).mono fun _ _ h=>no (fun s=>t7 s.full) h
 by_cases t8:(x.h.length:Int)=(y.h.length:Int)
 case neg=>exact (doc_no8 x y v v' w hR hR' t1 t2 t3 t4 t5 t6 t7 t8).mono fun _ _ h=>no (fun s=>t8 (by rw [s.n])) h
 refine (doc_yes x y v v' w hR hR' t1 t2 t3 t4 t5 t6 t7 t8).mono ?_
 rintro e w' ⟨rfl,hx⟩
 rw [sEq_st] at t2 t3
 rw [vEq_vd] at t4
 refine ⟨?_,hx⟩
 have e1:hrdEq x y=sameD x y:=by
  unfold hrdEq sameD
  rw [decide_eq_decide]
  exact ⟨fun h=>⟨t1,of_decide_eq_true t2,of_decide_eq_true t3,of_decide_eq_true t4,t5,t6,t7,by omega,h.1,h.2⟩,fun h=>⟨h.l,h.r⟩⟩
 rw [e1]
end Go.Proofs.YtlnmhocehgmbbaaGreatDoor

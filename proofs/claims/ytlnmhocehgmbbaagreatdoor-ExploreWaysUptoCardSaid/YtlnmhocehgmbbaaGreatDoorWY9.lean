/- No condition. -/
import Derived.Test.YtlnmhocehgmbbaaGreatDoorWY2
import Derived.Test.YtlnmhocehgmbbaaGreatDoorWY3
import Derived.Test.YtlnmhocehgmbbaaGreatDoorWY8
set_option linter.all false
set_option maxRecDepth 100000
set_option maxHeartbeats 3200000
namespace Go.Proofs.YtlnmhocehgmbbaaGreatDoor
open Go.RowKit
attribute [local go_sem ↓] eql_lEq eql_sEq eql_eEq eql_oEq neq_lEq neq_sEq neq_eEq neq_oEq eql_vEq neq_vEq eql_nil
attribute [local go_sem] ExtOf.cell ExtOf.frozen ExtOf.lt ExtOf.le
attribute [local go_sem high] ExtOf.cell2 ExtOf.frozen2 ExtOf.lt2 ExtOf.cell3 ExtOf.frozen3 ExtOf.lt3
def Ex.arr (x:Ex) (v:Value):Array Value:=#[.int .u64 x.c,.int .i64 x.s0.r,.int .u64 x.s0.c,.string x.s0.t,.int .i64 x.s0.ph,.int .i64 x.s0.p.k,.int .i64 x.s0.p.f,.int .u64 x.s0.p.c,.string x.s0.p.t,.bool x.s0.p.b,
 .int .i64 x.s1.r,.int .u64 x.s1.c,.string x.s1.t,.int .i64 x.s1.ph,.int .i64 x.s1.p.k,.int .i64 x.s1.p.f,.int .u64 x.s1.p.c,.string x.s1.p.t,.bool x.s1.p.b,
 .int .u64 x.v.c,.int .i64 x.v.k,.string x.v.t,.bool x.b0,.bool x.b1,.bool x.full,v]
def Hrd (w:World) (x:Ex) (v:Value):Prop:=Row w 5 v x.h.length (x.h.flatMap Lt.cs)
theorem Hrd.ext {w w':World} {x:Ex} {v:Value} (h:Hrd w x v) (e:Ext w w'):Hrd w' x v:=Row.ext h e
theorem info_ex:(Tryz.prog.info? 33).map (·.size)=some 26:=by kernel_rfl
theorem wpList_load_rowG {P:Program} {ops:Array Oper} {rest:List Oper} {o:Oper} {a:Act} {w:World} {Q:Exit→Act→World→Prop} (hwt:Region.wanted o (yielded ops a.tmps)=true) (ty:TypeId) (x:Operand) (ho:o.op = .load ty x)
 (g:Nat) (hx:a.eval x = .pointer (some ⟨g,0,none⟩)) (t:TypeId) (cs:Array Value) (fr:Nat×Nat) (d:TypeDesc) (hg:w.heap[g]?=some (.cells cs t fr))
 (hu:P.underlying ty=some d) (hd:(match d with | .struct _ | .array _ _=>true|_=>false)=true) (hi:(P.info? ty).map (·.size)=some cs.size)
 (h:wpList P ops Q rest (a.put o.dst (.agg cs)) w):wpList P ops Q (o::rest) a w:=by
 unfold wpList
 rw [if_pos hwt]
 exact .inl (wp_load_row ty x ho g hx t cs fr d hg hu hd hi h)
theorem ca_open {w w1:World} {x:Ex} {v:Value} {l:Lt} (hx:Ext ((w.alloc (.cells (x.arr v) 33)).alloc (.cells #[.int .i64 l.k,.int .i64 l.f,.int .u64 l.c,.string l.t,.bool l.b] 24)) w1) :
 w1.heap[w.heap.size]?=some (.cells (x.arr v) 33 (0,0))∧LtAt w1 (w.heap.size+1) l∧Ext w w1:=two_new hx
theorem can1_0false (x:Ex) (v:Value) (c:Int) (t:ByteArray) (w:World) (HLC:Hid (∀ w,Calls Tryz.prog 89 #[.agg #[.int .i64 1,.int .i64 0,.int .u64 c,.string t,.bool false]] w fun e w'=>e = .returned (.int .i64 0)∧Ext w w')) (hc':(c != x.c)=false) (HCo:Hid (∀ w',Ext w w'→Calls Tryz.prog 90 #[v,.agg #[.int .i64 1,.int .i64 0,.int .u64 c,.string t,.bool false]] w' fun e w''=>e = .returned (.bool false)∧Ext w' w'')) (wi:Bool) (HWi:Hid (∀ W1:World,W1.heap[w.heap.size]?=some (.cells (x.arr v) 33 (0,0))→LtAt W1 (w.heap.size+1) ⟨1,0,c,t,false⟩→Ext w W1→Calls Tryz.prog 91 #[.pointer (some ⟨w.heap.size,0,none⟩),.pointer (some ⟨w.heap.size+1,0,none⟩)] W1 fun e w'=>e = .returned (.bool wi)∧Ext W1 w')) :
 Calls Tryz.prog 64 #[.agg (x.arr v),.agg #[.int .i64 1,.int .i64 0,.int .u64 c,.string t,.bool false]] w fun e w'=>e = .returned (.bool (x.b0 || wi))∧Ext w w':=by
 rcases hbb:x.b0
 all_goals
  have HB:=zd hbb
  clear hbb
  unfold Ex.arr
  go_enter Tryz.func64,Tryz.ntmps64
  go_wp2_with (first|(go_at_call 89;refine (HLC.out _).mono ?_;rintro e W1 ⟨rfl,hx⟩;obtain ⟨h1,h2,h3⟩:=ca_open (x:=x) (v:=v) (l:=⟨1,0,c,t,false⟩) hx;clear hx;have HX:=zd h1;have HLt:=zd h2;have HE:=zd h3;unfold Ex.arr at h1;have q1:=zQ h1;have q2:=zQ h2;have l1:w.heap.size<W1.heap.size:=(zL h1);have l2:w.heap.size+1<W1.heap.size:=(zL h2);clear h1 h2 h3;have hbb:=HB.out)|(go_at_call 90;refine (HCo.out _ HE.out).mono ?_;rintro e w1 ⟨rfl,hx⟩;obtain ⟨x2,rfl⟩:=ext_of hx;clear hx)|(go_at_call 91;refine (HWi.out _ (heap_ext HX.out x2.ext) (HLt.out.ext x2.ext) (HE.out.val x2)).mono ?_;rintro e w1 ⟨rfl,hx⟩;obtain ⟨x3,rfl⟩:=ext_of hx;clear hx))
  go_ret
  first|exact ⟨rfl,(HE.out.val x2).val x3⟩|exact ⟨rfl,HE.out.val x2⟩
theorem can1_0true (x:Ex) (v:Value) (c:Int) (t:ByteArray) (w:World) (HLC:Hid (∀ w,Calls Tryz.prog 89 #[.agg #[.int .i64 1,.int .i64 0,.int .u64 c,.string t,.bool true]] w fun e w'=>e = .returned (.int .i64 0)∧Ext w w')) (hc':(c != x.c)=false) (HCo:Hid (∀ w',Ext w w'→Calls Tryz.prog 90 #[v,.agg #[.int .i64 1,.int .i64 0,.int .u64 c,.string t,.bool true]] w' fun e w''=>e = .returned (.bool false)∧Ext w' w'')) (wi:Bool) (HWi:Hid (∀ W1:World,W1.heap[w.heap.size]?=some (.cells (x.arr v) 33 (0,0))→LtAt W1 (w.heap.size+1) ⟨1,0,c,t,true⟩→Ext w W1→Calls Tryz.prog 91 #[.pointer (some ⟨w.heap.size,0,none⟩),.pointer (some ⟨w.heap.size+1,0,none⟩)] W1 fun e w'=>e = .returned (.bool wi)∧Ext W1 w')) :
 Calls Tryz.prog 64 #[.agg (x.arr v),.agg #[.int .i64 1,.int .i64 0,.int .u64 c,.string t,.bool true]] w fun e w'=>e = .returned (.bool (x.b1 || wi))∧Ext w w':=by
 rcases hbb:x.b1
 all_goals
  have HB:=zd hbb
  clear hbb
  unfold Ex.arr
  go_enter Tryz.func64,Tryz.ntmps64
  go_wp2_with (first|(go_at_call 89;refine (HLC.out _).mono ?_;rintro e W1 ⟨rfl,hx⟩;obtain ⟨h1,h2,h3⟩:=ca_open (x:=x) (v:=v) (l:=⟨1,0,c,t,true⟩) hx;clear hx;have HX:=zd h1;have HLt:=zd h2;have HE:=zd h3;unfold Ex.arr at h1;have q1:=zQ h1;have q2:=zQ h2;have l1:w.heap.size<W1.heap.size:=(zL h1);have l2:w.heap.size+1<W1.heap.size:=(zL h2);clear h1 h2 h3;have hbb:=HB.out)|(go_at_call 90;refine (HCo.out _ HE.out).mono ?_;rintro e w1 ⟨rfl,hx⟩;obtain ⟨x2,rfl⟩:=ext_of hx;clear hx)|(go_at_call 91;refine (HWi.out _ (heap_ext HX.out x2.ext) (HLt.out.ext x2.ext) (HE.out.val x2)).mono ?_;rintro e w1 ⟨rfl,hx⟩;obtain ⟨x3,rfl⟩:=ext_of hx;clear hx))
  go_ret
  first|exact ⟨rfl,(HE.out.val x2).val x3⟩|exact ⟨rfl,HE.out.val x2⟩
theorem can1_1false (x:Ex) (v:Value) (c:Int) (t:ByteArray) (w:World) (HLC:Hid (∀ w,Calls Tryz.prog 89 #[.agg #[.int .i64 1,.int .i64 1,.int .u64 c,.string t,.bool false]] w fun e w'=>e = .returned (.int .i64 0)∧Ext w w')) (hc':(c != x.c)=false) (HCo:Hid (∀ w',Ext w w'→Calls Tryz.prog 90 #[v,.agg #[.int .i64 1,.int .i64 1,.int .u64 c,.string t,.bool false]] w' fun e w''=>e = .returned (.bool false)∧Ext w' w'')) (wi:Bool) (HWi:Hid (∀ W1:World,W1.heap[w.heap.size]?=some (.cells (x.arr v) 33 (0,0))→LtAt W1 (w.heap.size+1) ⟨1,1,c,t,false⟩→Ext w W1→Calls Tryz.prog 91 #[.pointer (some ⟨w.heap.size,0,none⟩),.pointer (some ⟨w.heap.size+1,0,none⟩)] W1 fun e w'=>e = .returned (.bool wi)∧Ext W1 w')) :
 Calls Tryz.prog 64 #[.agg (x.arr v),.agg #[.int .i64 1,.int .i64 1,.int .u64 c,.string t,.bool false]] w fun e w'=>e = .returned (.bool (x.b1 || wi))∧Ext w w':=by
 rcases hbb:x.b1
 all_goals
  have HB:=zd hbb
  clear hbb
  unfold Ex.arr
  go_enter Tryz.func64,Tryz.ntmps64
  go_wp2_with (first|(go_at_call 89;refine (HLC.out _).mono ?_;rintro e W1 ⟨rfl,hx⟩;obtain ⟨h1,h2,h3⟩:=ca_open (x:=x) (v:=v) (l:=⟨1,1,c,t,false⟩) hx;clear hx;have HX:=zd h1;have HLt:=zd h2;have HE:=zd h3;unfold Ex.arr at h1;have q1:=zQ h1;have q2:=zQ h2;have l1:w.heap.size<W1.heap.size:=(zL h1);have l2:w.heap.size+1<W1.heap.size:=(zL h2);clear h1 h2 h3;have hbb:=HB.out)|(go_at_call 90;refine (HCo.out _ HE.out).mono ?_;rintro e w1 ⟨rfl,hx⟩;obtain ⟨x2,rfl⟩:=ext_of hx;clear hx)|(go_at_call 91;refine (HWi.out _ (heap_ext HX.out x2.ext) (HLt.out.ext x2.ext) (HE.out.val x2)).mono ?_;rintro e w1 ⟨rfl,hx⟩;obtain ⟨x3,rfl⟩:=ext_of hx;clear hx))
  go_ret
  first|exact ⟨rfl,(HE.out.val x2).val x3⟩|exact ⟨rfl,HE.out.val x2⟩
theorem can1_1true (x:Ex) (v:Value) (c:Int) (t:ByteArray) (w:World) (HLC:Hid (∀ w,Calls Tryz.prog 89 #[.agg #[.int .i64 1,.int .i64 1,.int .u64 c,.string t,.bool true]] w fun e w'=>e = .returned (.int .i64 0)∧Ext w w')) (hc':(c != x.c)=false) (HCo:Hid (∀ w',Ext w w'→Calls Tryz.prog 90 #[v,.agg #[.int .i64 1,.int .i64 1,.int .u64 c,.string t,.bool true]] w' fun e w''=>e = .returned (.bool false)∧Ext w' w'')) (wi:Bool) (HWi:Hid (∀ W1:World,W1.heap[w.heap.size]?=some (.cells (x.arr v) 33 (0,0))→LtAt W1 (w.heap.size+1) ⟨1,1,c,t,true⟩→Ext w W1→Calls Tryz.prog 91 #[.pointer (some ⟨w.heap.size,0,none⟩),.pointer (some ⟨w.heap.size+1,0,none⟩)] W1 fun e w'=>e = .returned (.bool wi)∧Ext W1 w')) :
 Calls Tryz.prog 64 #[.agg (x.arr v),.agg #[.int .i64 1,.int .i64 1,.int .u64 c,.string t,.bool true]] w fun e w'=>e = .returned (.bool (x.b0 || wi))∧Ext w w':=by
 rcases hbb:x.b0
 all_goals
  have HB:=zd hbb
  clear hbb
  unfold Ex.arr
  go_enter Tryz.func64,Tryz.ntmps64
  go_wp2_with (first|(go_at_call 89;refine (HLC.out _).mono ?_;rintro e W1 ⟨rfl,hx⟩;obtain ⟨h1,h2,h3⟩:=ca_open (x:=x) (v:=v) (l:=⟨1,1,c,t,true⟩) hx;clear hx;have HX:=zd h1;have HLt:=zd h2;have HE:=zd h3;unfold Ex.arr at h1;have q1:=zQ h1;have q2:=zQ h2;have l1:w.heap.size<W1.heap.size:=(zL h1);have l2:w.heap.size+1<W1.heap.size:=(zL h2);clear h1 h2 h3;have hbb:=HB.out)|(go_at_call 90;refine (HCo.out _ HE.out).mono ?_;rintro e w1 ⟨rfl,hx⟩;obtain ⟨x2,rfl⟩:=ext_of hx;clear hx)|(go_at_call 91;refine (HWi.out _ (heap_ext HX.out x2.ext) (HLt.out.ext x2.ext) (HE.out.val x2)).mono ?_;rintro e w1 ⟨rfl,hx⟩;obtain ⟨x3,rfl⟩:=ext_of hx;clear hx))
  go_ret
  first|exact ⟨rfl,(HE.out.val x2).val x3⟩|exact ⟨rfl,HE.out.val x2⟩
theorem can2_0 (x:Ex) (v:Value) (c:Int) (t:ByteArray) (b:Bool) (w:World) (HLC:Hid (∀ w,Calls Tryz.prog 89 #[.agg #[.int .i64 2,.int .i64 0,.int .u64 c,.string t,.bool b]] w fun e w'=>e = .returned (.int .i64 0)∧Ext w w')) (hc':(c != x.c)=false) (HCo:Hid (∀ w',Ext w w'→Calls Tryz.prog 90 #[v,.agg #[.int .i64 2,.int .i64 0,.int .u64 c,.string t,.bool b]] w' fun e w''=>e = .returned (.bool false)∧Ext w' w'')) :
 Calls Tryz.prog 64 #[.agg (x.arr v),.agg #[.int .i64 2,.int .i64 0,.int .u64 c,.string t,.bool b]] w fun e w'=>e = .returned (.bool x.b0)∧Ext w w':=by
 unfold Ex.arr
 go_enter Tryz.func64,Tryz.ntmps64
 go_wp2_with (first|(go_at_call 89;refine (HLC.out _).mono ?_;rintro e W1 ⟨rfl,hx⟩;obtain ⟨h1,h2,h3⟩:=ca_open (x:=x) (v:=v) (l:=⟨2,0,c,t,b⟩) hx;clear hx;have HX:=zd h1;have HLt:=zd h2;have HE:=zd h3;unfold Ex.arr at h1;have q1:=zQ h1;have q2:=zQ h2;have l1:w.heap.size<W1.heap.size:=(zL h1);have l2:w.heap.size+1<W1.heap.size:=(zL h2);clear h1 h2 h3)|(go_at_call 90;refine (HCo.out _ HE.out).mono ?_;rintro e w1 ⟨rfl,hx⟩;obtain ⟨x2,rfl⟩:=ext_of hx;clear hx))
 go_ret
 exact ⟨rfl,HE.out.val x2⟩
theorem can2_1 (x:Ex) (v:Value) (c:Int) (t:ByteArray) (b:Bool) (w:World) (HLC:Hid (∀ w,Calls Tryz.prog 89 #[.agg #[.int .i64 2,.int .i64 1,.int .u64 c,.string t,.bool b]] w fun e w'=>e = .returned (.int .i64 0)∧Ext w w')) (hc':(c != x.c)=false) (HCo:Hid (∀ w',Ext w w'→Calls Tryz.prog 90 #[v,.agg #[.int .i64 2,.int .i64 1,.int .u64 c,.string t,.bool b]] w' fun e w''=>e = .returned (.bool false)∧Ext w' w'')) :
 Calls Tryz.prog 64 #[.agg (x.arr v),.agg #[.int .i64 2,.int .i64 1,.int .u64 c,.string t,.bool b]] w fun e w'=>e = .returned (.bool x.b1)∧Ext w w':=by
 unfold Ex.arr
 go_enter Tryz.func64,Tryz.ntmps64
 go_wp2_with (first|(go_at_call 89;refine (HLC.out _).mono ?_;rintro e W1 ⟨rfl,hx⟩;obtain ⟨h1,h2,h3⟩:=ca_open (x:=x) (v:=v) (l:=⟨2,1,c,t,b⟩) hx;clear hx;have HX:=zd h1;have HLt:=zd h2;have HE:=zd h3;unfold Ex.arr at h1;have q1:=zQ h1;have q2:=zQ h2;have l1:w.heap.size<W1.heap.size:=(zL h1);have l2:w.heap.size+1<W1.heap.size:=(zL h2);clear h1 h2 h3)|(go_at_call 90;refine (HCo.out _ HE.out).mono ?_;rintro e w1 ⟨rfl,hx⟩;obtain ⟨x2,rfl⟩:=ext_of hx;clear hx))
 go_ret
 exact ⟨rfl,HE.out.val x2⟩
theorem can3 (x:Ex) (v:Value) (f c:Int) (t:ByteArray) (b:Bool) (w:World) (HLC:Hid (∀ w,Calls Tryz.prog 89 #[.agg #[.int .i64 3,.int .i64 f,.int .u64 c,.string t,.bool b]] w fun e w'=>e = .returned (.int .i64 0)∧Ext w w')) (hc':(c != x.c)=false) (HCo:Hid (∀ w',Ext w w'→Calls Tryz.prog 90 #[v,.agg #[.int .i64 3,.int .i64 f,.int .u64 c,.string t,.bool b]] w' fun e w''=>e = .returned (.bool false)∧Ext w' w'')) :
 Calls Tryz.prog 64 #[.agg (x.arr v),.agg #[.int .i64 3,.int .i64 f,.int .u64 c,.string t,.bool b]] w fun e w'=>e = .returned (.bool x.b0)∧Ext w w':=by
 unfold Ex.arr
 go_enter Tryz.func64,Tryz.ntmps64
 go_wp2_with (first|(go_at_call 89;refine (HLC.out _).mono ?_;rintro e W1 ⟨rfl,hx⟩;obtain ⟨h1,h2,h3⟩:=ca_open (x:=x) (v:=v) (l:=⟨3,f,c,t,b⟩) hx;clear hx;have HX:=zd h1;have HLt:=zd h2;have HE:=zd h3;unfold Ex.arr at h1;have q1:=zQ h1;have q2:=zQ h2;have l1:w.heap.size<W1.heap.size:=(zL h1);have l2:w.heap.size+1<W1.heap.size:=(zL h2);clear h1 h2 h3)|(go_at_call 90;refine (HCo.out _ HE.out).mono ?_;rintro e w1 ⟨rfl,hx⟩;obtain ⟨x2,rfl⟩:=ext_of hx;clear hx))
 go_ret
 exact ⟨rfl,HE.out.val x2⟩
theorem can5 (x:Ex) (v:Value) (f c:Int) (t:ByteArray) (b:Bool) (w:World) (HLC:Hid (∀ w,Calls Tryz.prog 89 #[.agg #[.int .i64 5,.int .i64 f,.int .u64 c,.string t,.bool b]] w fun e w'=>e = .returned (.int .i64 0)∧Ext w w')) (hc':(c != x.c)=false) (HCo:Hid (∀ w',Ext w w'→Calls Tryz.prog 90 #[v,.agg #[.int .i64 5,.int .i64 f,.int .u64 c,.string t,.bool b]] w' fun e w''=>e = .returned (.bool false)∧Ext w' w'')) :
 Calls Tryz.prog 64 #[.agg (x.arr v),.agg #[.int .i64 5,.int .i64 f,.int .u64 c,.string t,.bool b]] w fun e w'=>e = .returned (.bool false)∧Ext w w':=by
 unfold Ex.arr
 go_enter Tryz.func64,Tryz.ntmps64
 go_wp2_with (first|(go_at_call 89;refine (HLC.out _).mono ?_;rintro e W1 ⟨rfl,hx⟩;obtain ⟨h1,h2,h3⟩:=ca_open (x:=x) (v:=v) (l:=⟨5,f,c,t,b⟩) hx;clear hx;have HX:=zd h1;have HLt:=zd h2;have HE:=zd h3;unfold Ex.arr at h1;have q1:=zQ h1;have q2:=zQ h2;have l1:w.heap.size<W1.heap.size:=(zL h1);have l2:w.heap.size+1<W1.heap.size:=(zL h2);clear h1 h2 h3)|(go_at_call 90;refine (HCo.out _ HE.out).mono ?_;rintro e w1 ⟨rfl,hx⟩;obtain ⟨x2,rfl⟩:=ext_of hx;clear hx))
 go_ret
 exact ⟨rfl,HE.out.val x2⟩
theorem can6 (x:Ex) (v:Value) (f c:Int) (t:ByteArray) (b:Bool) (w:World) (HLC:Hid (∀ w,Calls Tryz.prog 89 #[.agg #[.int .i64 6,.int .i64 f,.int .u64 c,.string t,.bool b]] w fun e w'=>e = .returned (.int .i64 0)∧Ext w w')) (hc':(c != x.c)=false) (HCo:Hid (∀ w',Ext w w'→Calls Tryz.prog 90 #[v,.agg #[.int .i64 6,.int .i64 f,.int .u64 c,.string t,.bool b]] w' fun e w''=>e = .returned (.bool false)∧Ext w' w'')) :
 Calls Tryz.prog 64 #[.agg (x.arr v),.agg #[.int .i64 6,.int .i64 f,.int .u64 c,.string t,.bool b]] w fun e w'=>e = .returned (.bool false)∧Ext w w':=by
 unfold Ex.arr
 go_enter Tryz.func64,Tryz.ntmps64
 go_wp2_with (first|(go_at_call 89;refine (HLC.out _).mono ?_;rintro e W1 ⟨rfl,hx⟩;obtain ⟨h1,h2,h3⟩:=ca_open (x:=x) (v:=v) (l:=⟨6,f,c,t,b⟩) hx;clear hx;have HX:=zd h1;have HLt:=zd h2;have HE:=zd h3;unfold Ex.arr at h1;have q1:=zQ h1;have q2:=zQ h2;have l1:w.heap.size<W1.heap.size:=(zL h1);have l2:w.heap.size+1<W1.heap.size:=(zL h2);clear h1 h2 h3)|(go_at_call 90;refine (HCo.out _ HE.out).mono ?_;rintro e w1 ⟨rfl,hx⟩;obtain ⟨x2,rfl⟩:=ext_of hx;clear hx))
 go_ret
 exact ⟨rfl,HE.out.val x2⟩
theorem can7 (x:Ex) (v:Value) (f c:Int) (t:ByteArray) (b:Bool) (w:World) (HLC:Hid (∀ w,Calls Tryz.prog 89 #[.agg #[.int .i64 7,.int .i64 f,.int .u64 c,.string t,.bool b]] w fun e w'=>e = .returned (.int .i64 0)∧Ext w w')) (hc':(c != x.c)=false) (HCo:Hid (∀ w',Ext w w'→Calls Tryz.prog 90 #[v,.agg #[.int .i64 7,.int .i64 f,.int .u64 c,.string t,.bool b]] w' fun e w''=>e = .returned (.bool false)∧Ext w' w'')) :
 Calls Tryz.prog 64 #[.agg (x.arr v),.agg #[.int .i64 7,.int .i64 f,.int .u64 c,.string t,.bool b]] w fun e w'=>e = .returned (.bool true)∧Ext w w':=by
 unfold Ex.arr
 go_enter Tryz.func64,Tryz.ntmps64
 go_wp2_with (first|(go_at_call 89;refine (HLC.out _).mono ?_;rintro e W1 ⟨rfl,hx⟩;obtain ⟨h1,h2,h3⟩:=ca_open (x:=x) (v:=v) (l:=⟨7,f,c,t,b⟩) hx;clear hx;have HX:=zd h1;have HLt:=zd h2;have HE:=zd h3;unfold Ex.arr at h1;have q1:=zQ h1;have q2:=zQ h2;have l1:w.heap.size<W1.heap.size:=(zL h1);have l2:w.heap.size+1<W1.heap.size:=(zL h2);clear h1 h2 h3)|(go_at_call 90;refine (HCo.out _ HE.out).mono ?_;rintro e w1 ⟨rfl,hx⟩;obtain ⟨x2,rfl⟩:=ext_of hx;clear hx))
 go_ret
 exact ⟨rfl,HE.out.val x2⟩
theorem can4_0f (x:Ex) (v:Value) (c:Int) (t:ByteArray) (b:Bool) (w:World) (HLC:Hid (∀ w,Calls Tryz.prog 89 #[.agg #[.int .i64 4,.int .i64 0,.int .u64 c,.string t,.bool b]] w fun e w'=>e = .returned (.int .i64 0)∧Ext w w')) (hc':(c != x.c)=false) (HCo:Hid (∀ w',Ext w w'→Calls Tryz.prog 90 #[v,.agg #[.int .i64 4,.int .i64 0,.int .u64 c,.string t,.bool b]] w' fun e w''=>e = .returned (.bool false)∧Ext w' w'')) (HB:Hid (x.b0=false)) :
 Calls Tryz.prog 64 #[.agg (x.arr v),.agg #[.int .i64 4,.int .i64 0,.int .u64 c,.string t,.bool b]] w fun e w'=>e = .returned (.bool false)∧Ext w w':=by
 unfold Ex.arr
 go_enter Tryz.func64,Tryz.ntmps64
 go_wp2_with (first|(go_at_call 89;refine (HLC.out _).mono ?_;rintro e W1 ⟨rfl,hx⟩;obtain ⟨h1,h2,h3⟩:=ca_open (x:=x) (v:=v) (l:=⟨4,0,c,t,b⟩) hx;clear hx;have HX:=zd h1;have HLt:=zd h2;have HE:=zd h3;unfold Ex.arr at h1;have q1:=zQ h1;have q2:=zQ h2;have l1:w.heap.size<W1.heap.size:=(zL h1);have l2:w.heap.size+1<W1.heap.size:=(zL h2);clear h1 h2 h3;have hbb:=HB.out)|(go_at_call 90;refine (HCo.out _ HE.out).mono ?_;rintro e W2 ⟨rfl,hx⟩;clear q1 q2 l1 l2;have h1:=heap_ext HX.out hx;have h2:=HLt.out.ext hx;have HE2:=zd (HE.out.trans hx);have HX2:=zd h1;clear hx;unfold Ex.arr at h1;have q1:=zQ h1;have q2:=zQ h2;have l1:w.heap.size<W2.heap.size:=(zL h1);have l2:w.heap.size+1<W2.heap.size:=(zL h2);clear h1 h2))
 go_ret
 exact ⟨rfl,(HE2.out.alloc _).alloc _⟩
theorem can4_0tf (x:Ex) (v:Value) (c:Int) (t:ByteArray) (b:Bool) (w:World) (HLC:Hid (∀ w,Calls Tryz.prog 89 #[.agg #[.int .i64 4,.int .i64 0,.int .u64 c,.string t,.bool b]] w fun e w'=>e = .returned (.int .i64 0)∧Ext w w')) (hc':(c != x.c)=false) (HCo:Hid (∀ w',Ext w w'→Calls Tryz.prog 90 #[v,.agg #[.int .i64 4,.int .i64 0,.int .u64 c,.string t,.bool b]] w' fun e w''=>e = .returned (.bool false)∧Ext w' w'')) (HB:Hid (x.b0=true)) (hp0 : ∀ w',Ext w w'→Calls Tryz.prog 64 #[.agg (x.arr v),.agg #[.int .i64 1,.int .i64 0,.int .u64 c,.string t,.bool b]] w' fun e w''=>e = .returned (.bool false)∧Ext w' w'') :
 Calls Tryz.prog 64 #[.agg (x.arr v),.agg #[.int .i64 4,.int .i64 0,.int .u64 c,.string t,.bool b]] w fun e w'=>e = .returned (.bool false)∧Ext w w':=by
 have HP0:=zd hp0
 clear hp0
 unfold Ex.arr
 go_enter Tryz.func64,Tryz.ntmps64
 go_wp2_with (first|(go_at_call 89;refine (HLC.out _).mono ?_;rintro e W1 ⟨rfl,hx⟩;obtain ⟨h1,h2,h3⟩:=ca_open (x:=x) (v:=v) (l:=⟨4,0,c,t,b⟩) hx;clear hx;have HX:=zd h1;have HLt:=zd h2;have HE:=zd h3;unfold Ex.arr at h1;have q1:=zQ h1;have q2:=zQ h2;have l1:w.heap.size<W1.heap.size:=(zL h1);have l2:w.heap.size+1<W1.heap.size:=(zL h2);clear h1 h2 h3;have hbb:=HB.out)|(go_at_call 90;refine (HCo.out _ HE.out).mono ?_;rintro e W2 ⟨rfl,hx⟩;clear q1 q2 l1 l2;have h1:=heap_ext HX.out hx;have h2:=HLt.out.ext hx;have HE2:=zd (HE.out.trans hx);have HX2:=zd h1;clear hx;unfold Ex.arr at h1;have q1:=zQ h1;have q2:=zQ h2;have l1:w.heap.size<W2.heap.size:=(zL h1);have l2:w.heap.size+1<W2.heap.size:=(zL h2);clear h1 h2)|(refine wpList_load_rowG rfl 33 _ rfl _ rfl _ _ (0,0) _ HX3.out zu33 rfl info_ex ?_)|(refine wpList_load_rowG rfl 33 _ rfl _ rfl _ _ (0,0) _ (heap_ext HX2.out ((zR.alloc _).alloc _)) zu33 rfl info_ex ?_)|(go_at_call 64;refine (HP0.out _ ((HE2.out.alloc _).alloc _)).mono ?_;rintro e W3 ⟨rfl,hx⟩;obtain ⟨h4,h5,h6⟩:=two_new hx;have h1:=heap_ext HX2.out h6;have HE3:=zd (HE2.out.trans h6);have HX3:=zd h1;clear hx q1 q2 l1 l2;unfold Ex.arr at h1;have q1:=zQ h1;have q2:=zQ h5;have l1:w.heap.size<W3.heap.size:=(zL h1);have l2:W2.heap.size+1<W3.heap.size:=(zL h5);clear h1 h4 h5 h6 HP0))
 go_ret
 exact ⟨rfl,HE3.out⟩
theorem can4_0tt (x:Ex) (v:Value) (c:Int) (t:ByteArray) (b:Bool) (w:World) (HLC:Hid (∀ w,Calls Tryz.prog 89 #[.agg #[.int .i64 4,.int .i64 0,.int .u64 c,.string t,.bool b]] w fun e w'=>e = .returned (.int .i64 0)∧Ext w w')) (hc':(c != x.c)=false) (HCo:Hid (∀ w',Ext w w'→Calls Tryz.prog 90 #[v,.agg #[.int .i64 4,.int .i64 0,.int .u64 c,.string t,.bool b]] w' fun e w''=>e = .returned (.bool false)∧Ext w' w'')) (HB:Hid (x.b0=true)) (hp0 : ∀ w',Ext w w'→Calls Tryz.prog 64 #[.agg (x.arr v),.agg #[.int .i64 1,.int .i64 0,.int .u64 c,.string t,.bool b]] w' fun e w''=>e = .returned (.bool true)∧Ext w' w'') (p1:Bool) (hp1 : ∀ w',Ext w w'→Calls Tryz.prog 64 #[.agg (x.arr v),.agg #[.int .i64 1,.int .i64 1,.int .u64 c,.string t,.bool b]] w' fun e w''=>e = .returned (.bool p1)∧Ext w' w'') :
 Calls Tryz.prog 64 #[.agg (x.arr v),.agg #[.int .i64 4,.int .i64 0,.int .u64 c,.string t,.bool b]] w fun e w'=>e = .returned (.bool p1)∧Ext w w':=by
 have HP0:=zd hp0
 clear hp0
 have HP1:=zd hp1
 clear hp1
 unfold Ex.arr
 go_enter Tryz.func64,Tryz.ntmps64
 go_wp2_with (first|(go_at_call 89;refine (HLC.out _).mono ?_;rintro e W1 ⟨rfl,hx⟩;obtain ⟨h1,h2,h3⟩:=ca_open (x:=x) (v:=v) (l:=⟨4,0,c,t,b⟩) hx;clear hx;have HX:=zd h1;have HLt:=zd h2;have HE:=zd h3;unfold Ex.arr at h1;have q1:=zQ h1;have q2:=zQ h2;have l1:w.heap.size<W1.heap.size:=(zL h1);have l2:w.heap.size+1<W1.heap.size:=(zL h2);clear h1 h2 h3;have hbb:=HB.out)|(go_at_call 90;refine (HCo.out _ HE.out).mono ?_;rintro e W2 ⟨rfl,hx⟩;clear q1 q2 l1 l2;have h1:=heap_ext HX.out hx;have h2:=HLt.out.ext hx;have HE2:=zd (HE.out.trans hx);have HX2:=zd h1;clear hx;unfold Ex.arr at h1;have q1:=zQ h1;have q2:=zQ h2;have l1:w.heap.size<W2.heap.size:=(zL h1);have l2:w.heap.size+1<W2.heap.size:=(zL h2);clear h1 h2)|(refine wpList_load_rowG rfl 33 _ rfl _ rfl _ _ (0,0) _ HX3.out zu33 rfl info_ex ?_)|(refine wpList_load_rowG rfl 33 _ rfl _ rfl _ _ (0,0) _ (heap_ext HX2.out ((zR.alloc _).alloc _)) zu33 rfl info_ex ?_)|(go_at_call 64;refine (HP0.out _ ((HE2.out.alloc _).alloc _)).mono ?_;rintro e W3 ⟨rfl,hx⟩;obtain ⟨h4,h5,h6⟩:=two_new hx;have h1:=heap_ext HX2.out h6;have HE3:=zd (HE2.out.trans h6);have HX3:=zd h1;clear hx q1 q2 l1 l2;unfold Ex.arr at h1;have q1:=zQ h1;have q2:=zQ h5;have l1:w.heap.size<W3.heap.size:=(zL h1);have l2:W2.heap.size+1<W3.heap.size:=(zL h5);clear h1 h4 h5 h6 HP0)|(go_at_call 64;refine (HP1.out _ HE3.out).mono ?_;rintro e w1 ⟨rfl,hx⟩;obtain ⟨x4,rfl⟩:=ext_of hx;clear hx))
 go_ret
 exact ⟨rfl,HE3.out.val x4⟩
theorem can4_1f (x:Ex) (v:Value) (c:Int) (t:ByteArray) (b:Bool) (w:World) (HLC:Hid (∀ w,Calls Tryz.prog 89 #[.agg #[.int .i64 4,.int .i64 1,.int .u64 c,.string t,.bool b]] w fun e w'=>e = .returned (.int .i64 0)∧Ext w w')) (hc':(c != x.c)=false) (HCo:Hid (∀ w',Ext w w'→Calls Tryz.prog 90 #[v,.agg #[.int .i64 4,.int .i64 1,.int .u64 c,.string t,.bool b]] w' fun e w''=>e = .returned (.bool false)∧Ext w' w'')) (HB:Hid (x.b1=false)) :
 Calls Tryz.prog 64 #[.agg (x.arr v),.agg #[.int .i64 4,.int .i64 1,.int .u64 c,.string t,.bool b]] w fun e w'=>e = .returned (.bool false)∧Ext w w':=by
 unfold Ex.arr
 go_enter Tryz.func64,Tryz.ntmps64
 go_wp2_with (first|(go_at_call 89;refine (HLC.out _).mono ?_;rintro e W1 ⟨rfl,hx⟩;obtain ⟨h1,h2,h3⟩:=ca_open (x:=x) (v:=v) (l:=⟨4,1,c,t,b⟩) hx;clear hx;have HX:=zd h1;have HLt:=zd h2;have HE:=zd h3;unfold Ex.arr at h1;have q1:=zQ h1;have q2:=zQ h2;have l1:w.heap.size<W1.heap.size:=(zL h1);have l2:w.heap.size+1<W1.heap.size:=(zL h2);clear h1 h2 h3;have hbb:=HB.out)|(go_at_call 90;refine (HCo.out _ HE.out).mono ?_;rintro e W2 ⟨rfl,hx⟩;clear q1 q2 l1 l2;have h1:=heap_ext HX.out hx;have h2:=HLt.out.ext hx;have HE2:=zd (HE.out.trans hx);have HX2:=zd h1;clear hx;unfold Ex.arr at h1;have q1:=zQ h1;have q2:=zQ h2;have l1:w.heap.size<W2.heap.size:=(zL h1);have l2:w.heap.size+1<W2.heap.size:=(zL h2);clear h1 h2))
 go_ret
 exact ⟨rfl,(HE2.out.alloc _).alloc _⟩
theorem can4_1tf (x:Ex) (v:Value) (c:Int) (t:ByteArray) (b:Bool) (w:World) (HLC:Hid (∀ w,Calls Tryz.prog 89 #[.agg #[.int .i64 4,.int .i64 1,.int .u64 c,.string t,.bool b]] w fun e w'=>e = .returned (.int .i64 0)∧Ext w w')) (hc':(c != x.c)=false) (HCo:Hid (∀ w',Ext w w'→Calls Tryz.prog 90 #[v,.agg #[.int .i64 4,.int .i64 1,.int .u64 c,.string t,.bool b]] w' fun e w''=>e = .returned (.bool false)∧Ext w' w'')) (HB:Hid (x.b1=true)) (hp0 : ∀ w',Ext w w'→Calls Tryz.prog 64 #[.agg (x.arr v),.agg #[.int .i64 1,.int .i64 0,.int .u64 c,.string t,.bool b]] w' fun e w''=>e = .returned (.bool false)∧Ext w' w'') :
 Calls Tryz.prog 64 #[.agg (x.arr v),.agg #[.int .i64 4,.int .i64 1,.int .u64 c,.string t,.bool b]] w fun e w'=>e = .returned (.bool false)∧Ext w w':=by
 have HP0:=zd hp0
 clear hp0
 unfold Ex.arr
 go_enter Tryz.func64,Tryz.ntmps64
 go_wp2_with (first|(go_at_call 89;refine (HLC.out _).mono ?_;rintro e W1 ⟨rfl,hx⟩;obtain ⟨h1,h2,h3⟩:=ca_open (x:=x) (v:=v) (l:=⟨4,1,c,t,b⟩) hx;clear hx;have HX:=zd h1;have HLt:=zd h2;have HE:=zd h3;unfold Ex.arr at h1;have q1:=zQ h1;have q2:=zQ h2;have l1:w.heap.size<W1.heap.size:=(zL h1);have l2:w.heap.size+1<W1.heap.size:=(zL h2);clear h1 h2 h3;have hbb:=HB.out)|(go_at_call 90;refine (HCo.out _ HE.out).mono ?_;rintro e W2 ⟨rfl,hx⟩;clear q1 q2 l1 l2;have h1:=heap_ext HX.out hx;have h2:=HLt.out.ext hx;have HE2:=zd (HE.out.trans hx);have HX2:=zd h1;clear hx;unfold Ex.arr at h1;have q1:=zQ h1;have q2:=zQ h2;have l1:w.heap.size<W2.heap.size:=(zL h1);have l2:w.heap.size+1<W2.heap.size:=(zL h2);clear h1 h2)|(refine wpList_load_rowG rfl 33 _ rfl _ rfl _ _ (0,0) _ HX3.out zu33 rfl info_ex ?_)|(refine wpList_load_rowG rfl 33 _ rfl _ rfl _ _ (0,0) _ (heap_ext HX2.out ((zR.alloc _).alloc _)) zu33 rfl info_ex ?_)|(go_at_call 64;refine (HP0.out _ ((HE2.out.alloc _).alloc _)).mono ?_;rintro e W3 ⟨rfl,hx⟩;obtain ⟨h4,h5,h6⟩:=two_new hx;have h1:=heap_ext HX2.out h6;have HE3:=zd (HE2.out.trans h6);have HX3:=zd h1;clear hx q1 q2 l1 l2;unfold Ex.arr at h1;have q1:=zQ h1;have q2:=zQ h5;have l1:w.heap.size<W3.heap.size:=(zL h1);have l2:W2.heap.size+1<W3.heap.size:=(zL h5);clear h1 h4 h5 h6 HP0))
 go_ret
 exact ⟨rfl,HE3.out⟩
theorem can4_1tt (x:Ex) (v:Value) (c:Int) (t:ByteArray) (b:Bool) (w:World) (HLC:Hid (∀ w,Calls Tryz.prog 89 #[.agg #[.int .i64 4,.int .i64 1,.int .u64 c,.string t,.bool b]] w fun e w'=>e = .returned (.int .i64 0)∧Ext w w')) (hc':(c != x.c)=false) (HCo:Hid (∀ w',Ext w w'→Calls Tryz.prog 90 #[v,.agg #[.int .i64 4,.int .i64 1,.int .u64 c,.string t,.bool b]] w' fun e w''=>e = .returned (.bool false)∧Ext w' w'')) (HB:Hid (x.b1=true)) (hp0 : ∀ w',Ext w w'→Calls Tryz.prog 64 #[.agg (x.arr v),.agg #[.int .i64 1,.int .i64 0,.int .u64 c,.string t,.bool b]] w' fun e w''=>e = .returned (.bool true)∧Ext w' w'') (p1:Bool) (hp1 : ∀ w',Ext w w'→Calls Tryz.prog 64 #[.agg (x.arr v),.agg #[.int .i64 1,.int .i64 1,.int .u64 c,.string t,.bool b]] w' fun e w''=>e = .returned (.bool p1)∧Ext w' w'') :
 Calls Tryz.prog 64 #[.agg (x.arr v),.agg #[.int .i64 4,.int .i64 1,.int .u64 c,.string t,.bool b]] w fun e w'=>e = .returned (.bool p1)∧Ext w w':=by
 have HP0:=zd hp0
 clear hp0
 have HP1:=zd hp1
 clear hp1
 unfold Ex.arr
 go_enter Tryz.func64,Tryz.ntmps64
 go_wp2_with (first|(go_at_call 89;refine (HLC.out _).mono ?_;rintro e W1 ⟨rfl,hx⟩;obtain ⟨h1,h2,h3⟩:=ca_open (x:=x) (v:=v) (l:=⟨4,1,c,t,b⟩) hx;clear hx;have HX:=zd h1;have HLt:=zd h2;have HE:=zd h3;unfold Ex.arr at h1;have q1:=zQ h1;have q2:=zQ h2;have l1:w.heap.size<W1.heap.size:=(zL h1);have l2:w.heap.size+1<W1.heap.size:=(zL h2);clear h1 h2 h3;have hbb:=HB.out)|(go_at_call 90;refine (HCo.out _ HE.out).mono ?_;rintro e W2 ⟨rfl,hx⟩;clear q1 q2 l1 l2;have h1:=heap_ext HX.out hx;have h2:=HLt.out.ext hx;have HE2:=zd (HE.out.trans hx);have HX2:=zd h1;clear hx;unfold Ex.arr at h1;have q1:=zQ h1;have q2:=zQ h2;have l1:w.heap.size<W2.heap.size:=(zL h1);have l2:w.heap.size+1<W2.heap.size:=(zL h2);clear h1 h2)|(refine wpList_load_rowG rfl 33 _ rfl _ rfl _ _ (0,0) _ HX3.out zu33 rfl info_ex ?_)|(refine wpList_load_rowG rfl 33 _ rfl _ rfl _ _ (0,0) _ (heap_ext HX2.out ((zR.alloc _).alloc _)) zu33 rfl info_ex ?_)|(go_at_call 64;refine (HP0.out _ ((HE2.out.alloc _).alloc _)).mono ?_;rintro e W3 ⟨rfl,hx⟩;obtain ⟨h4,h5,h6⟩:=two_new hx;have h1:=heap_ext HX2.out h6;have HE3:=zd (HE2.out.trans h6);have HX3:=zd h1;clear hx q1 q2 l1 l2;unfold Ex.arr at h1;have q1:=zQ h1;have q2:=zQ h5;have l1:w.heap.size<W3.heap.size:=(zL h1);have l2:W2.heap.size+1<W3.heap.size:=(zL h5);clear h1 h4 h5 h6 HP0)|(go_at_call 64;refine (HP1.out _ HE3.out).mono ?_;rintro e w1 ⟨rfl,hx⟩;obtain ⟨x4,rfl⟩:=ext_of hx;clear hx))
 go_ret
 exact ⟨rfl,HE3.out.val x4⟩
theorem mo_canX (x:Ex) (v:Value) (l:Lt) (w:World) (hR:Hrd w x v) (hP:l.k=4→∀ n,n=0∨n=1→∀ w',Ext w w'→Calls Tryz.prog 64 #[.agg (x.arr v),.agg #[.int .i64 1,.int .i64 n,.int .u64 l.c,.string l.t,.bool l.b]] w' fun e w''=>e = .returned (.bool (canP x ⟨1,n,l.c,l.t,l.b⟩))∧Ext w' w'') :
 Calls Tryz.prog 64 #[.agg (x.arr v),.agg #[.int .i64 l.k,.int .i64 l.f,.int .u64 l.c,.string l.t,.bool l.b]] w fun e w'=>e = .returned (.bool (canS x l))∧Ext w w':=by
 have key : ∀ b:Bool,canS x l=b→Hid (canS x l=b):=fun _ h=>zd h
 have HR:=zd hR
 clear hR
 have hlc:=le_check l
 have hwi:=fun W1 (h1:W1.heap[w.heap.size]?=some (.cells (x.arr v) 33 (0,0))) (h2:LtAt W1 (w.heap.size+1) l) (h3:Ext w W1)=>ca_wished v x.h l w.heap.size (w.heap.size+1) W1 (by rw [zQ h1 _];rfl) (Row.ext HR.out h3) h2
 have HWi:=zd hwi
 have hco:=fun w' (hw:Ext w w')=>sl_contains v x.h l w' (Row.ext HR.out hw)
 clear hwi
 obtain ⟨k,f,c,t,b⟩:=l
 simp only at hlc hco hP ⊢
 by_cases h0:lchk ⟨k,f,c,t,b⟩=0
 case neg=>
  have hK:=key false (by unfold canS;rw [if_pos (.inl h0)])
  have h0':(lchk ⟨k,f,c,t,b⟩ != 0)=true:=by simpa using h0
  have HLC:=zd hlc
  clear h0 hlc hco hP
  unfold Ex.arr
  go_enter Tryz.func64,Tryz.ntmps64
  go_wp2_with (go_at_call 89;refine (HLC.out _).mono ?_;rintro e W1 ⟨rfl,hx⟩;obtain ⟨h1,h2,h3⟩:=ca_open (x:=x) (v:=v) (l:=⟨k,f,c,t,b⟩) hx;clear hx;have HX:=zd h1;have HLt:=zd h2;have HE:=zd h3;unfold Ex.arr at h1;have q1:=zQ h1;have q2:=zQ h2;have l1:w.heap.size<W1.heap.size:=(zL h1);have l2:w.heap.size+1<W1.heap.size:=(zL h2);clear h1 h2 h3)
  go_ret
  exact ⟨by rw [hK.out];rfl,HE.out⟩
 rw [h0] at hlc
 have HLC:=zd hlc
 clear hlc
 by_cases hc:c=x.c
 case neg=>
  have hK:=key false (by unfold canS;rw [if_pos (.inr hc)])
  have hc':(c != x.c)=true:=by simpa using hc
  clear h0 hc hco hP
  unfold Ex.arr
  go_enter Tryz.func64,Tryz.ntmps64
  go_wp2_with (go_at_call 89;refine (HLC.out _).mono ?_;rintro e W1 ⟨rfl,hx⟩;obtain ⟨h1,h2,h3⟩:=ca_open (x:=x) (v:=v) (l:=⟨k,f,c,t,b⟩) hx;clear hx;have HX:=zd h1;have HLt:=zd h2;have HE:=zd h3;unfold Ex.arr at h1;have q1:=zQ h1;have q2:=zQ h2;have l1:w.heap.size<W1.heap.size:=(zL h1);have l2:w.heap.size+1<W1.heap.size:=(zL h2);clear h1 h2 h3)
  go_ret
  exact ⟨by rw [hK.out];rfl,HE.out⟩
 have hc':(c != x.c)=false:=by simpa using hc
 have hno : ¬(lchk ⟨k,f,c,t,b⟩≠0∨(⟨k,f,c,t,b⟩:Lt).c≠x.c):=by
  rintro (h|h)
  ·exact h h0
  ·exact h hc
 have hsz:=lchk_size h0
 clear h0 hc
 by_cases hm:(⟨k,f,c,t,b⟩:Lt)∈x.h
 ·have hK:=key true (by unfold canS;rw [if_neg hno,if_pos hm])
  rw [decide_eq_true hm] at hco
  have HCo:=zd hco
  clear hco hno hm hsz hP
  unfold Ex.arr
  go_enter Tryz.func64,Tryz.ntmps64
  go_wp2_with (first|(go_at_call 89;refine (HLC.out _).mono ?_;rintro e W1 ⟨rfl,hx⟩;obtain ⟨h1,h2,h3⟩:=ca_open (x:=x) (v:=v) (l:=⟨k,f,c,t,b⟩) hx;clear hx;have HX:=zd h1;have HLt:=zd h2;have HE:=zd h3;unfold Ex.arr at h1;have q1:=zQ h1;have q2:=zQ h2;have l1:w.heap.size<W1.heap.size:=(zL h1);have l2:w.heap.size+1<W1.heap.size:=(zL h2);clear h1 h2 h3)|(go_at_call 90;refine (HCo.out _ HE.out).mono ?_;rintro e w1 ⟨rfl,hx⟩;obtain ⟨x2,rfl⟩:=ext_of hx;clear hx))
  go_ret
  exact ⟨by rw [hK.out];rfl,HE.out.val x2⟩
 rw [decide_eq_false hm] at hco
 have HCo:=zd hco
 have key2:canS x ⟨k,f,c,t,b⟩=(if k=1 then x.bad (if b=true then 1 - f else f) || wishS x.h ⟨k,f,c,t,b⟩ else if k=2 then x.bad f else if k=3 then x.b0 else if k=4 then x.bad f && (canP x ⟨1,0,c,t,b⟩ && canP x ⟨1,1,c,t,b⟩) else decide (k=7)):=by unfold canS;rw [if_neg hno,if_neg hm]
 rw [key2]
 clear hco hno hm key2 key
 simp only at hsz
 obtain ⟨_,hf,hk1,hk7,_⟩:=hsz
 obtain rfl|rfl|rfl|rfl|hk:k=1∨k=2∨k=3∨k=4∨(k=5∨k=6∨k=7):=by omega
 ·rcases hf with rfl|rfl
  ·cases b
   ·exact can1_0false x v c t w HLC hc' HCo _ HWi
   ·exact can1_0true x v c t w HLC hc' HCo _ HWi
  ·cases b
   ·exact can1_1false x v c t w HLC hc' HCo _ HWi
   ·exact can1_1true x v c t w HLC hc' HCo _ HWi
 ·rcases hf with rfl|rfl
  ·exact can2_0 x v c t b w HLC hc' HCo
  ·exact can2_1 x v c t b w HLC hc' HCo
 ·exact can3 x v f c t b w HLC hc' HCo
 ·have hp0:=hP rfl 0 (.inl rfl)
  have hp1:=hP rfl 1 (.inr rfl)
  generalize canP x ⟨1,0,c,t,b⟩=p0 at hp0 ⊢
  generalize canP x ⟨1,1,c,t,b⟩=p1 at hp1 ⊢
  rcases hf with rfl|rfl
  ·show Calls Tryz.prog 64 _ w fun e w'=>e = .returned (.bool (x.b0 && (p0 && p1)))∧Ext w w'
   rcases hbb:x.b0
   ·exact can4_0f x v c t b w HLC hc' HCo (zd hbb)
   ·cases p0
    ·exact can4_0tf x v c t b w HLC hc' HCo (zd hbb) hp0
    ·exact can4_0tt x v c t b w HLC hc' HCo (zd hbb) hp0 p1 hp1
  ·show Calls Tryz.prog 64 _ w fun e w'=>e = .returned (.bool (x.b1 && (p0 && p1)))∧Ext w w'
   rcases hbb:x.b1
   ·exact can4_1f x v c t b w HLC hc' HCo (zd hbb)
   ·cases p0
    ·exact can4_1tf x v c t b w HLC hc' HCo (zd hbb) hp0
    ·exact can4_1tt x v c t b w HLC hc' HCo (zd hbb) hp0 p1 hp1
 ·rcases hk with rfl|rfl|rfl
  ·exact can5 x v f c t b w HLC hc' HCo
  ·exact can6 x v f c t b w HLC hc' HCo
  ·exact can7 x v f c t b w HLC hc' HCo
theorem canS_P (x:Ex) (l:Lt) (h:l.k=1):canS x l=canP x l:=by unfold canS canP;rw [if_pos h]
theorem mo_can (x:Ex) (v:Value) (l:Lt) (w:World) (hR:Hrd w x v) :
 Calls Tryz.prog 64 #[.agg (x.arr v),.agg #[.int .i64 l.k,.int .i64 l.f,.int .u64 l.c,.string l.t,.bool l.b]] w fun e w'=>e = .returned (.bool (canS x l))∧Ext w w':=by
 refine mo_canX x v l w hR fun _ n hn w' hw=>?_
 have:=mo_canX x v ⟨1,n,l.c,l.t,l.b⟩ w' (hR.ext hw) fun h=>absurd (show (1:Int)=4 from h) (by decide)
 rw [canS_P _ _ rfl] at this
 exact this
end Go.Proofs.YtlnmhocehgmbbaaGreatDoor
namespace Go.Proofs.YtlnmhocehgmbbaaGreatDoor
open Go.RowKit
section
variable {P:Program} {md:Region.Mode} {ops:Array Oper}
def wpAnyL (P:Program) (md:Region.Mode) (ops:Array Oper) (C:World→Prop) (late:Nat→Bool) (Q:Exit→Act→World→Prop):Nat→Array Bool→Act→World→Prop
 | 0,listed,a,w=>Region.ready md ops listed=[]∧∀ w',Ext w w'→Q .normal a w'
 | n+1,listed,a,w=>∀ w',Ext w w'→((Region.ready md ops listed=[]→Q .normal a w')∧
  ∀ i∈Region.ready md ops listed,wpOp P ops (Quiets Q) i (fun a' w''=>(late i=false→C w'')∧wpAnyL P md ops C late Q n (listed.setIfInBounds i true) a' w'') a w')
theorem wpAnyL_up {C:World→Prop} {late:Nat→Bool} {Q:Exit→Act→World→Prop} : ∀ (n:Nat) {l:Array Bool} {a:Act} {w w':World},wpAnyL P md ops C late Q n l a w→Ext w w'→wpAnyL P md ops C late Q n l a w'
 | 0,_,_,_,_,h,e=>⟨h.1,fun _ k=>h.2 _ (e.trans k)⟩
 | _+1,_,_,_,_,h,e=>fun _ k=>h _ (e.trans k)
theorem wpAny_of_L {C:World→Prop} {late:Nat→Bool} {Q:Exit→Act→World→Prop} : ∀ (n:Nat) (l:Array Bool) (a:Act) (w:World),wpAnyL P md ops C late Q n l a w→wpAny P md ops (Quiets Q) n l a w
 | 0,_,_,_,h=>⟨h.1,h.2 _ zR⟩
 | n+1,_,_,_,h=>⟨fun h0=>(h _ zR).1 h0,fun i hi=>wpOp_mono (fun a' w' h'=>wpAny_of_L n _ a' w' h'.2) ((h _ zR).2 i hi)⟩
def lateFor (md:Region.Mode) (ops:Array Oper) (late:Nat→Bool) (i:Nat):Prop:=∀ j oj,ops[j]?=some oj→late j=true→∃ e∈oj.after,Region.binds md e=true∧e.on=i
theorem wpAnyL_first {C:World→Prop} (hCE : ∀ w w',C w→Ext w w'→C w') {Q:Exit→Act→World→Prop} {late:Nat→Bool} {i:Nat} {oi:Oper} {v:Value} (hi:ops[i]?=some oi) (hlt:lateFor md ops late i)
 (hsel : ∀ (j:Nat) (o:Oper) cs b,ops[j]?=some o→o.op≠.select cs b) :
 ∀ (n:Nat) (l:Array Bool) (a:Act) (w:World),
  (∀ j oj,ops[j]?=some oj→j≠i→l.getD j true=false→(∀ e∈oj.after,Region.binds md e=true→e.on≠i)→oi.apart ops oj=true)→
  i∈Region.ready md ops l→YieldsE P ops C oi v a→C w→
  wpAnyL P md ops C late Q n (l.setIfInBounds i true) (a.put oi.dst v) w→wpAnyL P md ops C late Q (n+1) l a w:=by
 intro n
 induction n with
 | zero=>
  intro l a w _ hr hy hC H w' hw'
  refine ⟨fun h=>(by rw [h] at hr;cases hr),fun j hj=>?_⟩
  by_cases hji:j=i
  ·subst hji
   exact hy.wpOp hi (hCE _ _ hC hw') fun w'' hw''=>⟨fun _=>hCE _ _ (hCE _ _ hC hw') hw'',wpAnyL_up 0 H (hw'.trans hw'')⟩
  ·have:=ready_mono hj hji
   rw [H.1] at this
   cases this
 | succ n ih=>
  intro l a w hfree hr hy hC H w' hw'
  refine ⟨fun h=>(by rw [h] at hr;cases hr),fun j hj=>?_⟩
  by_cases hji:j=i
  ·subst hji
   exact hy.wpOp hi (hCE _ _ hC hw') fun w'' hw''=>⟨fun _=>hCE _ _ (hCE _ _ hC hw') hw'',wpAnyL_up (n+1) H (hw'.trans hw'')⟩
  ·have h1:=(H w' hw').2 j (ready_mono hj hji)
   obtain ⟨hjun,oj,hoj,hall⟩:=mem_ready.1 hj
   have hnot : ∀ e∈oj.after,Region.binds md e=true→e.on≠i:=fun e he hb heq=>by
    have h2:=hall e he hb
    have h0:=(mem_ready.1 hr).1
    rw [heq] at h2
    rcases Nat.lt_or_ge i l.size with h' | h'
    ·simp [h'] at h0 h2;rw [h0] at h2;cases h2
    ·simp [Array.getElem?_eq_none h'] at h2
   have h2:=wpOp_behind hoj (hfree j oj hoj hji hjun hnot) (fun cs b=>hsel i oi cs b hi) (fun cs b=>hsel j oj cs b hoj) hy h1
   have hfree' : ∀ k ok,ops[k]?=some ok→k≠i→(l.setIfInBounds j true).getD k true=false→
    (∀ e∈ok.after,Region.binds md e=true→e.on≠i)→oi.apart ops ok=true:=fun k ok hk hki hun hno=>by
    refine hfree k ok hk hki ?_ hno
    by_cases hjk:j=k
    ·subst hjk;exact hjun
    ·rw [getD_set_ne true hjk] at hun;exact hun
   have hlj:late j=false:=by
    cases hx:late j with
    | false=>rfl
    | true=>obtain ⟨e,he,hb,heq⟩:=hlt j oj hoj hx;exact absurd heq (hnot e he hb)
   refine wpOp_mono (fun a' w'' h3=>⟨h3.2.1,ih (l.setIfInBounds j true) a' w'' hfree' (ready_mono hr (Ne.symm hji)) h3.1 (h3.2.1 hlj) ?_⟩) h2
   rw [Array.setIfInBounds_comm _ _ hji]
   exact h3.2.2
theorem wpAnyL_lex {C:World→Prop} (hCE : ∀ w w',C w→Ext w w'→C w') {Q:Exit→Act→World→Prop} (hs:Region.noSelect ops=true) {af:Act} {le:Array Bool} {g:Nat} {late:Nat→Bool} :
 ∀ (m:List Bool) (l:List Oper) (k:Nat) (listed:Array Bool) (a:Act) (w:World),m.length=l.length→(∀ j,j<l.length→l[j]?=ops[k+j]?)→Region.lexMask md ops m k listed=some le→(∀ i,i<m.length→m[i]?=some true→lateFor md ops late (k+i))→
 walkE P ops C af (pickT m l) a→C w→wpAnyL P md ops C late Q g le af w→wpAnyL P md ops C late Q ((pickT m l).length+g) listed a w
 | [],[],_,_,_,_,_,_,hm,_,hw,_,h=>by
  simp only [Region.lexMask,Option.some.injEq] at hm
  simp only [pickT,walkE] at hw
  subst hm;subst hw
  simpa [pickT] using h
 | [],_::_,_,_,_,_,hl,_,_,_,_,_,_=>by simp at hl
 | _::_,[],_,_,_,_,hl,_,_,_,_,_,_=>by simp at hl
 | b::m,o::l,k,listed,a,w,hl,ho,hm,hlt,hw,hC,h=>by
  have hlt' : ∀ i,i<m.length→m[i]?=some true→lateFor md ops late (k+1+i):=fun i hi hb=>by
   have:=hlt (i+1) (by simp;omega) (by simpa using hb)
   rwa [show k+(i+1)=k+1+i by omega] at this
  have h0:ops[k]?=some o:=by simpa using (ho 0 (by simp)).symm
  have hl':m.length=l.length:=by simpa using hl
  have ho' : ∀ j,j<l.length→l[j]?=ops[k+1+j]?:=fun j hj=>by
   have:=ho (j+1) (by simp;omega)
   simpa [Nat.add_assoc,Nat.add_comm 1 j] using this
  cases b
  ·simp only [Region.lexMask,pickT,Bool.false_eq_true,if_false] at hm hw ⊢
   exact wpAnyL_lex hCE hs m l (k+1) listed a w hl' ho' hm hlt' hw hC h
  ·simp only [Region.lexMask,pickT,if_true] at hm hw ⊢
   split at hm
   case isFalse=>cases hm
   case isTrue hc=>
    simp only [Bool.and_eq_true] at hc
    obtain ⟨v,hy,hw'⟩:=hw
    have ih:=wpAnyL_lex hCE hs m l (k+1) _ _ w hl' ho' hm hlt' hw' hC h
    rw [List.length_cons,show (pickT m l).length+1+g=((pickT m l).length+g)+1 by omega]
    exact wpAnyL_first hCE h0 (by simpa using hlt 0 (by simp) rfl) (Region.noSelect_spec hs) _ listed a w (Region.free_spec h0 hc.2) (by simpa using hc.1) hy hC ih
def pickN:List Bool→Nat→List Oper→List (Nat×Oper)
 | b::m,k,o::l=>if b then pickN m (k+1) l else (k,o)::pickN m (k+1) l
 | _,_,_=>[]
theorem pickN_length : ∀ (m:List Bool) (k:Nat) (l:List Oper),(pickN m k l).length=(pickF m l).length
 | [],_,[]=>rfl
 | [],_,_::_=>rfl
 | _::_,_,[]=>rfl
 | b::m,k,o::l=>by cases b<;>simp [pickN,pickF,pickN_length m (k+1) l]
def wpChainL (P:Program) (ops:Array Oper) (C:World→Prop) (late:Nat→Bool) (Q:Exit→Act→World→Prop):List (Nat×Oper)→Act→World→Prop
 | [],a,w=>∀ x:ExtOf w,Q .normal a x.val
 | (k,o)::l,a,w=>∀ x:ExtOf w,wpList P ops (Exit.then (fun a' w''=>(late k=false→C w'')∧wpChainL P ops C late Q l a' w'') (Quiets Q)) [o] a x.val
theorem wpAnyL_of_chain {C:World→Prop} {late:Nat→Bool} {Q:Exit→Act→World→Prop} : ∀ (m:List Bool) (l:List Oper) (k:Nat) (listed:Array Bool) (a:Act) (w:World),m.length=l.length→
 (∀ j,j<l.length→l[j]?=ops[k+j]?)→seqMask md ops m k listed=true→wpChainL P ops C late Q (pickN m k l) a w→wpAnyL P md ops C late Q (pickN m k l).length listed a w
 | [],[],_,_,_,_,_,_,hm,h=>⟨by simpa [seqMask] using hm,fun w' hw'=>h ⟨w',hw'⟩⟩
 | [],_::_,_,_,_,_,hl,_,_,_=>by simp at hl
 | _::_,[],_,_,_,_,hl,_,_,_=>by simp at hl
 | b::m,o::l,k,listed,a,w,hl,ho,hm,h=>by
  have h0:ops[k]?=some o:=by simpa using (ho 0 (by simp)).symm
  have hl':m.length=l.length:=by simpa using hl
  have ho' : ∀ j,j<l.length→l[j]?=ops[k+1+j]?:=fun j hj=>by
   have:=ho (j+1) (by simp;omega)
   simpa [Nat.add_assoc,Nat.add_comm 1 j] using this
  cases b
  ·simp only [seqMask,pickN,Bool.false_eq_true,if_false,Bool.and_eq_true,decide_eq_true_eq] at hm h ⊢
   intro w' hw'
   refine ⟨fun h1=>(by rw [hm.1] at h1;cases h1),fun i hi=>?_⟩
   rw [hm.1] at hi
   have hik:i=k:=by simpa using hi
   subst hik
   have hw:=h ⟨w',hw'⟩
   simp only [wpList] at hw
   have hop:wpOp P ops (Quiets Q) i (fun a' w''=>(late i=false→C w'')∧wpChainL P ops C late Q (pickN m (i+1) l) a' w'') a w':=by
    unfold wpOp
    simp only [h0]
    by_cases hwd:Region.wanted o (yielded ops a.tmps)=true
    ·rw [if_pos hwd] at hw ⊢
     rcases hw with hw|hw
     ·refine .inl ?_
      unfold Oper.wp at *
      generalize (execOp a.eval o).run P w'=r at *
      cases r with
      | ok n w2=>
       cases n<;>simp only [Oper.upon] at hw ⊢
       case value u=>exact hw
       case skip=>exact hw
       case defer d=>exact hw
       case enter f args=>
        exact Calls.mono hw fun e w'' he=>by
         cases e with
         | returned u=>exact he
         | panicked c=>exact he
         | outgrown=>exact he
       case row row args=>exact hw
      | halt x w2=>
       cases x<;>simp only [Oper.upon] at hw ⊢
       case panic u=>exact hw
     ·exact .inr ⟨hw.1,hw.2⟩
    ·rw [if_neg hwd] at hw ⊢
     exact hw
   exact wpOp_mono (fun a' w'' h'=>⟨h'.1,wpAnyL_of_chain m l (i+1) _ a' w'' hl' ho' hm.2 h'.2⟩) hop
  ·simp only [seqMask,pickN,if_true] at hm h ⊢
   exact wpAnyL_of_chain m l (k+1) listed a w hl' ho' hm h
def lateB (md:Region.Mode) (ops:Array Oper) (m lt:List Bool) (l:List Oper) (n:Nat):Bool:=
 mixB md ops m l n && (List.range l.length).all fun i=>!m.getD i false || (List.range l.length).all fun j=>!lt.getD j false || (match ops[j]? with|some oj=>oj.after.any fun e=>Region.binds md e && e.on == i|none=>true)
theorem lateB_spec {md:Region.Mode} {ops:Array Oper} {m lt:List Bool} {l:List Oper} {n:Nat} (hops:ops.size=l.length) (h:lateB md ops m lt l n=true) (hl:m.length=l.length) :
 ∀ i,i<m.length→m[i]?=some true→lateFor md ops (fun j=>lt.getD j false) i:=fun i hi hm j oj hj hlt=>by
 simp only [lateB,Bool.and_eq_true] at h
 have h1:=List.all_eq_true.1 h.2 i (List.mem_range.2 (by omega))
 rw [List.getD_eq_getElem?_getD,hm] at h1
 simp only [Option.getD_some,Bool.not_true,Bool.false_or] at h1
 have hjl:j<l.length:=by rw [←hops];exact (zL hj)
 have h2:=List.all_eq_true.1 h1 j (List.mem_range.2 hjl)
 simp only at hlt
 rw [hlt,hj] at h2
 simp only [Bool.not_true,Bool.false_or] at h2
 obtain ⟨e,he,hb⟩:=Array.any_eq_true'.1 h2
 simp only [Bool.and_eq_true,beq_iff_eq] at hb
 exact ⟨e,he,hb.1,hb.2⟩
theorem wp_region_late {id:Nat} {Q:Exit→Act→World→Prop} {a af:Act} {w:World} {l:List Oper} (m lt:List Bool) (n:Nat) (C:World→Prop) (hm:P.follows .mixedOrders=true)
 (hn:a.tmps.size=n) (hB:lateB .any l.toArray m lt l n=true) (hCE : ∀ w w',C w→Ext w w'→C w') (hC:C w.drew)
 (h : ∀ w',C w'→wpQuiet P l.toArray (fun w''=>∃ x:ExtOf w',w''=x.val) (fun a'=>a'=af) (pickT m l) a)
 (hr:wpChainL P l.toArray C (fun j=>lt.getD j false) Q (pickN m 0 l) af w.drew):(Code.region id l.toArray true).wp P Q a w:=by
 subst hn
 have hB':=hB
 simp only [lateB,mixB,Bool.and_eq_true,decide_eq_true_eq] at hB
 obtain ⟨⟨⟨⟨hs,hl⟩,hd⟩,hx⟩,_⟩:=hB
 split at hx
 case h_2=>cases hx
 case h_1 le hle=>
  have hq:=walkE_of_quiet (P:=P) (ops:=l.toArray) ⟨_,hC⟩ (pickT m l) a hd h
  have hch:=wpAnyL_of_chain (P:=P) (md:=.any) (ops:=l.toArray) (C:=C) (Q:=Q) (late:=fun j=>lt.getD j false) m l 0 le af w.drew hl (fun j _=>by simp) hx hr
  have:=wpAnyL_lex (P:=P) (md:=.any) (ops:=l.toArray) (Q:=Q) hCE hs m l 0 _ a w.drew hl (fun j _=>by simp) hle (by simpa using lateB_spec (by simp) hB' hl) hq hC hch
  rw [pickN_length,pick_length m l hl] at this
  refine Code.wp_mono quiets_imp (wp_region_any hm ?_)
  have h2:=wpAny_of_L _ _ _ _ this
  simpa using h2
end
end Go.Proofs.YtlnmhocehgmbbaaGreatDoor

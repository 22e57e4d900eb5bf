/- No condition. -/
import Derived.Test.YtlnmhocehgmbbaaGreatDoorWY11
import Derived.Deep.MidRow
set_option linter.all false
set_option maxRecDepth 100000
set_option maxHeartbeats 6400000
namespace Go.Proofs.YtlnmhocehgmbbaaGreatDoor
open Go.RowKit
attribute [local go_sem ↓] eql_lEq eql_sEq eql_eEq eql_oEq neq_lEq neq_sEq neq_eEq neq_oEq eql_vEq neq_vEq eql_nil
attribute [local go_sem] ExtOf.cell ExtOf.frozen ExtOf.lt ExtOf.le
attribute [local go_sem high] ExtOf.cell2 ExtOf.frozen2 ExtOf.lt2 ExtOf.cell3 ExtOf.frozen3 ExtOf.lt3
theorem info_s2:(Tryz.prog.info? 27).map (·.size)=some 18:=by kernel_rfl
theorem info_b6:(Tryz.prog.info? 117).map (·.size)=some 6:=by kernel_rfl
def Ex.ss (x:Ex):List Value:=[.int .i64 x.s0.r,.int .u64 x.s0.c,.string x.s0.t,.int .i64 x.s0.ph,.int .i64 x.s0.p.k,.int .i64 x.s0.p.f,.int .u64 x.s0.p.c,.string x.s0.p.t,.bool x.s0.p.b,
 .int .i64 x.s1.r,.int .u64 x.s1.c,.string x.s1.t,.int .i64 x.s1.ph,.int .i64 x.s1.p.k,.int .i64 x.s1.p.f,.int .u64 x.s1.p.c,.string x.s1.p.t,.bool x.s1.p.b]
theorem ExAt.ss {w:World} {g:Nat} {x:Ex} {v:Value} (h:ExAt w g x v):w.rangeAt g 1 x.ss:=by
 unfold ExAt Ex.arr at h
 intro j u hj
 rw [zQ h _]
 have:j<18:=by simpa [Ex.ss] using (zM hj)
 match j,this with
 | 0,_|1,_|2,_|3,_|4,_|5,_|6,_|7,_|8,_|9,_|10,_|11,_|12,_|13,_|14,_|15,_|16,_|17,_=>simpa [Ex.ss] using hj
structure Brk (w W:World) (x:Ex) (v:Value) (hs es:Array Value):Prop where
 hx:ExAt W w.heap.size x v
 hh:W.heap[w.heap.size+1]?=some (.cells hs 117 (0,0))
 he:W.heap[w.heap.size+1+1]?=some (.cells es 55 (0,0))
 ext:Ext w W
theorem Brk.ext' {w W W':World} {x:Ex} {v:Value} {hs es:Array Value} (k:Brk w W x v hs es) (e:Ext W W'):Brk w W' x v hs es:=
 ⟨k.hx.ext e,heap_ext k.hh e,heap_ext k.he e,k.ext.trans e⟩
theorem Brk.setE {w W:World} {x:Ex} {v:Value} {hs es:Array Value} (k:Brk w W x v hs es) (i:Nat) (u:Value):Brk w (W.setCell ⟨w.heap.size+1+1,i,none⟩ u) x v hs (es.setIfInBounds i u):=
 ⟨(cell_other (by omega)).trans k.hx,(cell_other (by omega)).trans k.hh,setCell_row k.he _,k.ext.setCell (by simp only [];omega) _⟩
theorem Brk.setH {w W:World} {x:Ex} {v:Value} {hs es:Array Value} (k:Brk w W x v hs es) (i:Nat) (u:Value):Brk w (W.setCell ⟨w.heap.size+1,i,none⟩ u) x v (hs.setIfInBounds i u) es:=
 ⟨(cell_other (by omega)).trans k.hx,setCell_row k.hh _,(cell_other (by omega)).trans k.he,k.ext.setCell (by simp only [];omega) _⟩
theorem idx_s0 (x:Ex) (w:World):(Instr.index 27 (.agg x.ss.toArray) (.int .i64 0)).run Tryz.prog w = .ok (.agg #[.int .i64 x.s0.r,.int .u64 x.s0.c,.string x.s0.t,.int .i64 x.s0.ph,.int .i64 x.s0.p.k,.int .i64 x.s0.p.f,.int .u64 x.s0.p.c,.string x.s0.p.t,.bool x.s0.p.b]) w:=by
 unfold Ex.ss
 kernel_rfl
theorem idx_s1 (x:Ex) (w:World):(Instr.index 27 (.agg x.ss.toArray) (.int .i64 1)).run Tryz.prog w = .ok (.agg #[.int .i64 x.s1.r,.int .u64 x.s1.c,.string x.s1.t,.int .i64 x.s1.ph,.int .i64 x.s1.p.k,.int .i64 x.s1.p.f,.int .u64 x.s1.p.c,.string x.s1.p.t,.bool x.s1.p.b]) w:=by
 unfold Ex.ss
 kernel_rfl
attribute [local go_sem high] idx_s0 idx_s1
def part1 (x:Ex) (who:Int):Bool:=!x.bad who && ((x.st who).ph == 7 && decide (0<(boundX x who).length))
def part2 (x:Ex) (who:Int):Bool:=!x.bad who && ((x.st who).ph == 6 && !canS x (x.st who).p)
theorem holds1_eq (x:Ex):holds1 x=(part1 x 0 || part1 x 1):=rfl
theorem holds2_eq (x:Ex):holds2 x=(part2 x 0 || part2 x 1):=rfl
def hs2 (a1 a2:Bool):Array Value:=#[.bool false,.bool a1,.bool a2,.bool false,.bool false,.bool false]
def hs5 (a1 a2 a5:Bool):Array Value:=#[.bool false,.bool a1,.bool a2,.bool false,.bool false,.bool a5]
def hs35 (a1 a2 a3 a5:Bool):Array Value:=#[.bool false,.bool a1,.bool a2,.bool a3,.bool false,.bool a5]
def hs345 (a1 a2 a3 a4 a5:Bool):Array Value:=#[.bool false,.bool a1,.bool a2,.bool a3,.bool a4,.bool a5]
def i2E (a b c d:Int):Bool:=a == c && b == d
theorem holds4_eq (x:Ex):holds4 x=((!x.b0 && !x.b1) && (i2E x.s0.ph x.s1.ph 6 7 || i2E x.s0.ph x.s1.ph 7 6)):=rfl
theorem eqIn_i2 (a b c d:Int) (w:World):(Op.equalIn 10000 55 (.agg #[.int .i64 a,.int .i64 b]) (.agg #[.int .i64 c,.int .i64 d])).run Tryz.prog w = .ok (a == c && b == d) w:=by
 have u3:=zu3
 have a3:=Tryz.isAgg3
 have z3:=Tryz.sizeOf3
 rw [show (10000:Nat)=9999+1 from rfl,Op.equalIn]
 simp only [Sem.run_bind,run_underlying zu55,Result.andThen_ok]
 simp only [Std.Legacy.Range.forIn_eq_forIn_range',Std.Legacy.Range.size,Nat.sub_zero,Nat.add_sub_cancel,Nat.div_one,List.range'_succ,List.range'_zero,List.forIn_cons,List.forIn_nil]
 go_simp
 by_cases h1:a=c<;>by_cases h2:b=d<;>simp [h1,h2]
theorem eqIn_b2 (a b c d:Bool) (w:World):(Op.equalIn 10000 30 (.agg #[.bool a,.bool b]) (.agg #[.bool c,.bool d])).run Tryz.prog w = .ok (a == c && b == d) w:=by
 have u3:=zu4
 have a3:=Tryz.isAgg4
 have z3:=Tryz.sizeOf4
 rw [show (10000:Nat)=9999+1 from rfl,Op.equalIn]
 simp only [Sem.run_bind,run_underlying zu30,Result.andThen_ok]
 simp only [Std.Legacy.Range.forIn_eq_forIn_range',Std.Legacy.Range.size,Nat.sub_zero,Nat.add_sub_cancel,Nat.div_one,List.range'_succ,List.range'_zero,List.forIn_cons,List.forIn_nil]
 go_simp
 by_cases h1:a=c<;>by_cases h2:b=d<;>simp [h1,h2]
theorem eql_i2 (a b c d:Int) (w:World):(binOp .eql 55 (.agg #[.int .i64 a,.int .i64 b]) (.agg #[.int .i64 c,.int .i64 d])).run Tryz.prog w = .ok (.bool (i2E a b c d)) w:=by
 simp [go_sem,eqIn_i2,i2E]
theorem eql_b2 (a b c d:Bool) (w:World):(binOp .eql 30 (.agg #[.bool a,.bool b]) (.agg #[.bool c,.bool d])).run Tryz.prog w = .ok (.bool (a == c && b == d)) w:=by
 simp [go_sem,eqIn_b2]
attribute [local go_sem ↓] eql_i2 eql_b2
theorem info_int:(Tryz.prog.info? 3).map (fun i=>(i.zero,i.size,i.bytes))=some (some (.int .i64 0),1,8):=by kernel_rfl
section
variable (a0 a1 a2 a3 a4 a5:Bool) (w:World)
theorem idx_b0:(Instr.index 117 (.agg #[.bool a0,.bool a1,.bool a2,.bool a3,.bool a4,.bool a5]) (.int .i64 0)).run Tryz.prog w = .ok (.bool a0) w:=by kernel_rfl
theorem idx_b1:(Instr.index 117 (.agg #[.bool a0,.bool a1,.bool a2,.bool a3,.bool a4,.bool a5]) (.int .i64 1)).run Tryz.prog w = .ok (.bool a1) w:=by kernel_rfl
theorem idx_b2:(Instr.index 117 (.agg #[.bool a0,.bool a1,.bool a2,.bool a3,.bool a4,.bool a5]) (.int .i64 2)).run Tryz.prog w = .ok (.bool a2) w:=by kernel_rfl
theorem idx_b3:(Instr.index 117 (.agg #[.bool a0,.bool a1,.bool a2,.bool a3,.bool a4,.bool a5]) (.int .i64 3)).run Tryz.prog w = .ok (.bool a3) w:=by kernel_rfl
theorem idx_b4:(Instr.index 117 (.agg #[.bool a0,.bool a1,.bool a2,.bool a3,.bool a4,.bool a5]) (.int .i64 4)).run Tryz.prog w = .ok (.bool a4) w:=by kernel_rfl
theorem idx_b5:(Instr.index 117 (.agg #[.bool a0,.bool a1,.bool a2,.bool a3,.bool a4,.bool a5]) (.int .i64 5)).run Tryz.prog w = .ok (.bool a5) w:=by kernel_rfl
end
attribute [local go_sem high] idx_b0 idx_b1 idx_b2 idx_b3 idx_b4 idx_b5
def bad5 (sd l:Lt):Bool:=(l.k == 5 || l.k == 6) && !decide (l=sd)
theorem holds5_eq (x:Ex):holds5 x=x.h.any (bad5 (saysL x.v)):=rfl
theorem any_next {L:List Lt} {n:Nat} {z:Lt} {p:Lt→Bool} (h:L[n]?=some z):(L.take (n+1)).any p=((L.take n).any p || p z):=by
 rw [List.take_add_one,h]
 simp
theorem ltat_set {w:World} {b o g:Nat} {u:Value} {l:Lt} (h:LtAt w g l) (hg:g≠b):LtAt (w.setCell ⟨b,o,none⟩ u) g l:=(cell_other hg).trans h
def es2 (a b:Int):Array Value:=#[.int .i64 a,.int .i64 b]
def brkB (f:List Bool) (n:Nat):List Int:=((List.range n).filter fun i=>f[i]?.getD false).map fun i:Nat=>(i:Int)
theorem brk_no {f:List Bool} {n:Nat} (h:f[n]?.getD false=false):brkB f (n+1)=brkB f n:=by simp [brkB,List.range_succ,List.filter_append,h]
theorem brk_yes {f:List Bool} {n:Nat} (h:f[n]?.getD false=true):brkB f (n+1)=brkB f n++[(n:Int)]:=by simp [brkB,List.range_succ,List.filter_append,h]
theorem brk_len (f:List Bool) (n:Nat):(brkB f n).length≤n:=by
 unfold brkB
 rw [List.length_map]
 exact zT (List.length_filter_le _ _) (by simp)
def brkX (x:Ex):List Int:=brkB [false,holds1 x,holds2 x,holds3 x,holds4 x,holds5 x] 6
def vI (i:Int):Value:=.int .i64 i
theorem brk_ok (x:Ex):((brkX x).length == 0)=okX x:=by
 unfold brkX okX
 cases holds1 x<;>cases holds2 x<;>cases holds3 x<;>cases holds4 x<;>cases holds5 x<;>rfl
theorem mo_brokenL (x:Ex) (v:Value) (w:World) (hR:Hrd w x v) (hn:x.h.length≤100000):Calls Tryz.prog 37 #[.agg (x.arr v)] w (Made w 3 1 (brkX x).length ((brkX x).map vI)):=by
 have HR:=zd hR
 obtain ⟨a,cap,rfl,hm,hvw⟩:=row_view hR
 have HV:=zd hvw
 clear hR hvw hm
 go_enter Tryz.func37,Tryz.ntmps37
 go_upto_region 3 with fail
 refine wp_forget (fun w'=>Brk w w' x (.slice a x.h.length cap) (hs2 false false) (es2 0 0)) ⟨(three_new zR).1,(three_new zR).2.1,(three_new zR).2.2.1,(three_new zR).2.2.2⟩ ?_
 rintro W1 k1
 have K1:=zd k1
 clear k1
 go_wp2_with (refine wpList_load_mid rfl 27 _ rfl _ _ rfl x.ss _ K1.out.hx.ss zu27 rfl info_s2 ?_)
 go_loopg [20] 2 (fun g ii wr=>(g=2∧ii = .int .i64 0∧W1=wr)∨(g=1∧ii = .int .i64 1∧∃ a1 a2,Hid (Brk w wr x (.slice a x.h.length cap) (hs2 a1 a2) (es2 x.s0.ph 0)∧a1=part1 x 0∧a2=part2 x 0))∨(g=0∧ii = .int .i64 2∧∃ a1 a2,Hid (Brk w wr x (.slice a x.h.length cap) (hs2 a1 a2) (es2 x.s0.ph x.s1.ph)∧a1=holds1 x∧a2=holds2 x)))
 case atStart=>exact .inl ⟨rfl,rfl,rfl⟩
 case round=>
  obtain ⟨rfl,rfl,rfl⟩|⟨rfl,rfl,a1,a2,KA⟩|⟨rfl,rfl,a1,a2,KA⟩:=hrel
  ·skip
   have he1:=K1.out.he
   unfold es2 at he1
   have qe:=zQ he1
   have fe:=zF he1
   have le1:w.heap.size+1+1<W1.heap.size:=zL he1
   have hgt:w.heap.size+1+1<W1.heap.size:=le1
   clear he1
   go_upto_region 7 with fail
   refine wp_forget (fun w'=>Brk w w' x (.slice a x.h.length cap) (hs2 false false) (es2 x.s0.ph 0)∧w'.heap[W1.heap.size]?=some (.cells #[.int .i64 x.s0.r,.int .u64 x.s0.c,.string x.s0.t,.int .i64 x.s0.ph,.int .i64 x.s0.p.k,.int .i64 x.s0.p.f,.int .u64 x.s0.p.c,.string x.s0.p.t,.bool x.s0.p.b] 26 (0,0))) ⟨(K1.out.setE 0 _).ext' (zR.alloc _),heap_new (by simp [World.setCell])⟩ ?_
   clear qe fe le1
   rintro W2 ⟨k2,hs⟩
   have K2:=zd k2
   have qs:=zQ hs
   have ls:W1.heap.size<W2.heap.size:=zL hs
   clear k2 hs
   have hx2:=K2.out.hx
   unfold ExAt Ex.arr at hx2
   have qx:=zQ hx2
   have hh2:=K2.out.hh
   unfold hs2 at hh2
   have qh:=zQ hh2
   have fh:=zF hh2
   have lx:w.heap.size<W2.heap.size:=zL hx2
   have lh:w.heap.size+1<W2.heap.size:=zL hh2
   clear hx2 hh2
   have hnb : ∃ nb:Nat,(boundX x 0).length=nb:=⟨_,rfl⟩
   obtain ⟨nb,hnb⟩:=hnb
   have hB:=fun w' (hw:Ext w w')=>mo_bound x (.slice a x.h.length cap) 0 w' (HR.out.ext hw) hn
   rw [hnb] at hB
   have HB:=zd hB
   have hC:=fun w' (hw:Ext w w')=>mo_can x (.slice a x.h.length cap) x.s0.p w' (Row.ext HR.out hw)
   have HNB:=zd hnb
   clear hB hnb
   rcases hbad:x.b0
   case true=>
    have HC:=zd hC
    clear hC
    go_wp2_with (fail)
    go_roundg 1
    case rel=>exact .inr (.inl ⟨rfl,rfl,false,false,zd ⟨K2.out,by unfold part1;simp only [show x.bad 0=x.b0 from rfl,show x.st 0=x.s0 from rfl];simp [hbad],by unfold part2;simp only [show x.bad 0=x.b0 from rfl,show x.st 0=x.s0 from rfl];simp [hbad]⟩⟩)
    case measure=>omega
   rcases h7:(x.s0.ph == 7)
   case true=>
    have h6:(x.s0.ph == 6)=false:=by
     rw [beq_iff_eq] at h7
     rw [h7];rfl
    have HC:=zd hC
    clear hC
    by_cases hp:0<nb
    ·have hp':(0:Int)<(nb:Int):=by omega
     go_wp2_with (first|(go_at_call 44;refine (HB.out _ K2.out.ext).mono ?_;rintro e w3 ⟨ba,bc,rfl,hx3⟩;obtain ⟨y3,rfl⟩:=ext_of hx3;clear hx3)|(refine wpList_load_rowG rfl 33 _ rfl _ rfl _ _ (0,0) _ K2.out.hx zu33 rfl info_ex ?_))
     go_roundg 1
     case rel=>exact .inr (.inl ⟨rfl,rfl,true,false,zd ⟨(K2.out.ext' y3.ext).setH 1 _,by unfold part1;simp only [show x.bad 0=x.b0 from rfl,show x.st 0=x.s0 from rfl];simp [hbad,h7,HNB.out,hp],by unfold part2;simp only [show x.bad 0=x.b0 from rfl,show x.st 0=x.s0 from rfl];simp [hbad,h6]⟩⟩)
     case measure=>omega
    ·have hp' : ¬(0:Int)<(nb:Int):=by omega
     go_wp2_with (first|(go_at_call 44;refine (HB.out _ K2.out.ext).mono ?_;rintro e w3 ⟨ba,bc,rfl,hx3⟩;obtain ⟨y3,rfl⟩:=ext_of hx3;clear hx3)|(refine wpList_load_rowG rfl 33 _ rfl _ rfl _ _ (0,0) _ K2.out.hx zu33 rfl info_ex ?_))
     go_roundg 1
     case rel=>exact .inr (.inl ⟨rfl,rfl,false,false,zd ⟨K2.out.ext' y3.ext,by unfold part1;simp only [show x.bad 0=x.b0 from rfl,show x.st 0=x.s0 from rfl];simp [hbad,h7,HNB.out,hp],by unfold part2;simp only [show x.bad 0=x.b0 from rfl,show x.st 0=x.s0 from rfl];simp [hbad,h6]⟩⟩)
     case measure=>omega
   rcases h6:(x.s0.ph == 6)
   case false=>
    have HC:=zd hC
    clear hC
    go_wp2_with (fail)
    go_roundg 1
    case rel=>exact .inr (.inl ⟨rfl,rfl,false,false,zd ⟨K2.out,by unfold part1;simp only [show x.bad 0=x.b0 from rfl,show x.st 0=x.s0 from rfl];simp [hbad,h7],by unfold part2;simp only [show x.bad 0=x.b0 from rfl,show x.st 0=x.s0 from rfl];simp [hbad,h6]⟩⟩)
    case measure=>omega
   rcases hcan:canS x x.s0.p
   case true=>
    rw [hcan] at hC
    have HC:=zd hC
    clear hC
    go_wp2_with (first|(go_at_call 64;refine (HC.out _ K2.out.ext).mono ?_;rintro e w3 ⟨rfl,hx3⟩;obtain ⟨y3,rfl⟩:=ext_of hx3;clear hx3)|(refine wpList_load_rowG rfl 33 _ rfl _ rfl _ _ (0,0) _ K2.out.hx zu33 rfl info_ex ?_))
    go_roundg 1
    case rel=>exact .inr (.inl ⟨rfl,rfl,false,false,zd ⟨K2.out.ext' y3.ext,by unfold part1;simp only [show x.bad 0=x.b0 from rfl,show x.st 0=x.s0 from rfl];simp [hbad,h7],by unfold part2;simp only [show x.bad 0=x.b0 from rfl,show x.st 0=x.s0 from rfl];simp [hbad,h6,hcan]⟩⟩)
    case measure=>omega
   case false=>
    rw [hcan] at hC
    have HC:=zd hC
    clear hC
    go_wp2_with (first|(go_at_call 64;refine (HC.out _ K2.out.ext).mono ?_;rintro e w3 ⟨rfl,hx3⟩;obtain ⟨y3,rfl⟩:=ext_of hx3;clear hx3)|(refine wpList_load_rowG rfl 33 _ rfl _ rfl _ _ (0,0) _ K2.out.hx zu33 rfl info_ex ?_))
    go_roundg 1
    case rel=>exact .inr (.inl ⟨rfl,rfl,false,true,zd ⟨(K2.out.ext' y3.ext).setH 2 _,by unfold part1;simp only [show x.bad 0=x.b0 from rfl,show x.st 0=x.s0 from rfl];simp [hbad,h7],by unfold part2;simp only [show x.bad 0=x.b0 from rfl,show x.st 0=x.s0 from rfl];simp [hbad,h6,hcan]⟩⟩)
    case measure=>omega
  ·rename World=>Wr
   have he1:=KA.out.1.he
   unfold es2 at he1
   have qe:=zQ he1
   have fe:=zF he1
   have le1:w.heap.size+1+1<Wr.heap.size:=zL he1
   have hgt:w.heap.size+1+1<Wr.heap.size:=le1
   clear he1
   go_upto_region 7 with fail
   refine wp_forget (fun w'=>Brk w w' x (.slice a x.h.length cap) (hs2 a1 a2) (es2 x.s0.ph x.s1.ph)∧w'.heap[Wr.heap.size]?=some (.cells #[.int .i64 x.s1.r,.int .u64 x.s1.c,.string x.s1.t,.int .i64 x.s1.ph,.int .i64 x.s1.p.k,.int .i64 x.s1.p.f,.int .u64 x.s1.p.c,.string x.s1.p.t,.bool x.s1.p.b] 26 (0,0))) ⟨(KA.out.1.setE 1 _).ext' (zR.alloc _),heap_new (by simp [World.setCell])⟩ ?_
   clear qe fe le1
   rintro W2 ⟨k2,hs⟩
   have K2:=zd k2
   have qs:=zQ hs
   have ls:Wr.heap.size<W2.heap.size:=zL hs
   clear k2 hs
   have hx2:=K2.out.hx
   unfold ExAt Ex.arr at hx2
   have qx:=zQ hx2
   have hh2:=K2.out.hh
   unfold hs2 at hh2
   have qh:=zQ hh2
   have fh:=zF hh2
   have lx:w.heap.size<W2.heap.size:=zL hx2
   have lh:w.heap.size+1<W2.heap.size:=zL hh2
   clear hx2 hh2
   have hnb : ∃ nb:Nat,(boundX x 1).length=nb:=⟨_,rfl⟩
   obtain ⟨nb,hnb⟩:=hnb
   have hB:=fun w' (hw:Ext w w')=>mo_bound x (.slice a x.h.length cap) 1 w' (HR.out.ext hw) hn
   rw [hnb] at hB
   have HB:=zd hB
   have hC:=fun w' (hw:Ext w w')=>mo_can x (.slice a x.h.length cap) x.s1.p w' (Row.ext HR.out hw)
   have HNB:=zd hnb
   clear hB hnb
   rcases hbad:x.b1
   case true=>
    have HC:=zd hC
    clear hC
    go_wp2_with (fail)
    go_roundg 0
    case rel=>exact .inr (.inr ⟨rfl,rfl,a1,a2,zd ⟨K2.out,by rw [holds1_eq,←KA.out.2.1];unfold part1;simp only [show x.bad 1=x.b1 from rfl,show x.st 1=x.s1 from rfl];simp [hbad],by rw [holds2_eq,←KA.out.2.2];unfold part2;simp only [show x.bad 1=x.b1 from rfl,show x.st 1=x.s1 from rfl];simp [hbad]⟩⟩)
    case measure=>omega
   rcases h7:(x.s1.ph == 7)
   case true=>
    have h6:(x.s1.ph == 6)=false:=by
     rw [beq_iff_eq] at h7
     rw [h7];rfl
    have HC:=zd hC
    clear hC
    by_cases hp:0<nb
    ·have hp':(0:Int)<(nb:Int):=by omega
     go_wp2_with (first|(go_at_call 44;refine (HB.out _ K2.out.ext).mono ?_;rintro e w3 ⟨ba,bc,rfl,hx3⟩;obtain ⟨y3,rfl⟩:=ext_of hx3;clear hx3)|(refine wpList_load_rowG rfl 33 _ rfl _ rfl _ _ (0,0) _ K2.out.hx zu33 rfl info_ex ?_))
     go_roundg 0
     case rel=>exact .inr (.inr ⟨rfl,rfl,true,a2,zd ⟨(K2.out.ext' y3.ext).setH 1 _,by rw [holds1_eq,←KA.out.2.1];unfold part1;simp only [show x.bad 1=x.b1 from rfl,show x.st 1=x.s1 from rfl];simp [hbad,h7,HNB.out,hp],by rw [holds2_eq,←KA.out.2.2];unfold part2;simp only [show x.bad 1=x.b1 from rfl,show x.st 1=x.s1 from rfl];simp [hbad,h6]⟩⟩)
     case measure=>omega
    ·have hp' : ¬(0:Int)<(nb:Int):=by omega
     go_wp2_with (first|(go_at_call 44;refine (HB.out _ K2.out.ext).mono ?_;rintro e w3 ⟨ba,bc,rfl,hx3⟩;obtain ⟨y3,rfl⟩:=ext_of hx3;clear hx3)|(refine wpList_load_rowG rfl 33 _ rfl _ rfl _ _ (0,0) _ K2.out.hx zu33 rfl info_ex ?_))
     go_roundg 0
     case rel=>exact .inr (.inr ⟨rfl,rfl,a1,a2,zd ⟨K2.out.ext' y3.ext,by rw [holds1_eq,←KA.out.2.1];unfold part1;simp only [show x.bad 1=x.b1 from rfl,show x.st 1=x.s1 from rfl];simp [hbad,h7,HNB.out,hp],by rw [holds2_eq,←KA.out.2.2];unfold part2;simp only [show x.bad 1=x.b1 from rfl,show x.st 1=x.s1 from rfl];simp [hbad,h6]⟩⟩)
     case measure=>omega
   rcases h6:(x.s1.ph == 6)
   case false=>
    have HC:=zd hC
    clear hC
    go_wp2_with (fail)
    go_roundg 0
    case rel=>exact .inr (.inr ⟨rfl,rfl,a1,a2,zd ⟨K2.out,by rw [holds1_eq,←KA.out.2.1];unfold part1;simp only [show x.bad 1=x.b1 from rfl,show x.st 1=x.s1 from rfl];simp [hbad,h7],by rw [holds2_eq,←KA.out.2.2];unfold part2;simp only [show x.bad 1=x.b1 from rfl,show x.st 1=x.s1 from rfl];simp [hbad,h6]⟩⟩)
    case measure=>omega
   rcases hcan:canS x x.s1.p
   case true=>
    rw [hcan] at hC
    have HC:=zd hC
    clear hC
    go_wp2_with (first|(go_at_call 64;refine (HC.out _ K2.out.ext).mono ?_;rintro e w3 ⟨rfl,hx3⟩;obtain ⟨y3,rfl⟩:=ext_of hx3;clear hx3)|(refine wpList_load_rowG rfl 33 _ rfl _ rfl _ _ (0,0) _ K2.out.hx zu33 rfl info_ex ?_))
    go_roundg 0
    case rel=>exact .inr (.inr ⟨rfl,rfl,a1,a2,zd ⟨K2.out.ext' y3.ext,by rw [holds1_eq,←KA.out.2.1];unfold part1;simp only [show x.bad 1=x.b1 from rfl,show x.st 1=x.s1 from rfl];simp [hbad,h7],by rw [holds2_eq,←KA.out.2.2];unfold part2;simp only [show x.bad 1=x.b1 from rfl,show x.st 1=x.s1 from rfl];simp [hbad,h6,hcan]⟩⟩)
    case measure=>omega
   case false=>
    rw [hcan] at hC
    have HC:=zd hC
    clear hC
    go_wp2_with (first|(go_at_call 64;refine (HC.out _ K2.out.ext).mono ?_;rintro e w3 ⟨rfl,hx3⟩;obtain ⟨y3,rfl⟩:=ext_of hx3;clear hx3)|(refine wpList_load_rowG rfl 33 _ rfl _ rfl _ _ (0,0) _ K2.out.hx zu33 rfl info_ex ?_))
    go_roundg 0
    case rel=>exact .inr (.inr ⟨rfl,rfl,a1,true,zd ⟨(K2.out.ext' y3.ext).setH 2 _,by rw [holds1_eq,←KA.out.2.1];unfold part1;simp only [show x.bad 1=x.b1 from rfl,show x.st 1=x.s1 from rfl];simp [hbad,h7],by rw [holds2_eq,←KA.out.2.2];unfold part2;simp only [show x.bad 1=x.b1 from rfl,show x.st 1=x.s1 from rfl];simp [hbad,h6,hcan]⟩⟩)
    case measure=>omega
  ·clear K1
   rename World=>W3
   have hx2:=KA.out.1.hx
   unfold ExAt Ex.arr at hx2
   have qx:=zQ hx2
   have lx:w.heap.size<W3.heap.size:=zL hx2
   clear hx2
   have hS:=fun w=>ve_says x.v.c x.v.k x.v.t w
   rw [show (⟨x.v.c,x.v.k,x.v.t⟩:Vd)=x.v from rfl] at hS
   obtain ⟨sd,hsd⟩ : ∃ sd,saysL x.v=sd:=⟨_,rfl⟩
   rw [hsd] at hS
   have HS:=zd hS
   have HSd:=zd hsd
   clear hS hsd
   go_upto_region 14 with (go_at_call 65;refine (HS.out _).mono ?_;rintro e w3 ⟨rfl,hx3⟩;obtain ⟨y3,rfl⟩:=ext_of hx3;clear hx3)
   refine wp_forget (fun w'=>Brk w w' x (.slice a x.h.length cap) (hs2 a1 a2) (es2 x.s0.ph x.s1.ph)∧LtAt w' y3.val.heap.size sd∧w.heap.size+1+1<y3.val.heap.size) ⟨KA.out.1.ext' ((zR.val y3).alloc _),heap_new rfl,zU (zL KA.out.1.he) y3.ext.size⟩ ?_
   clear qx lx
   rintro W4 ⟨k4,s4,hg4⟩
   generalize y3.val.heap.size=gs at s4 hg4 ⊢
   have hx2:=k4.hx
   unfold ExAt Ex.arr at hx2
   have qx:=zQ hx2
   have lx:w.heap.size<W4.heap.size:=zL hx2
   clear hx2
   have K4:=zd k4
   have S4:=zd s4
   clear k4 s4
   go_wp2_with fail
   go_loopg [9,10,64] x.h.length (fun g s9 s10 ii wr=>∃ (n:Nat) (tk ins h5:Bool),s9 = .bool tk∧s10 = .bool ins∧ii = .int .i64 (n:Int)∧n+g=x.h.length∧Hid (Brk w wr x (.slice a x.h.length cap) (hs5 a1 a2 h5) (es2 x.s0.ph x.s1.ph)∧LtAt wr gs sd∧tk=(x.h.take n).any (·.k == 5)∧ins=(x.h.take n).any (·.k == 6)∧h5=(x.h.take n).any (bad5 sd)))
   case atStart=>exact ⟨0,false,false,false,rfl,rfl,rfl,by omega,zd ⟨K4.out,S4.out,by simp,by simp,by simp⟩⟩
   case round=>
    clear qx lx
    obtain ⟨n,tk,ins,h5,rfl,rfl,rfl,hg,HN⟩:=hrel
    rename World=>Wr
    by_cases hlt:n<x.h.length
    ·obtain ⟨g,off,rfl,hgl,hcell⟩:=HV.out (by omega)
     have hgl:=hgl (by omega)
     obtain ⟨z,hz⟩ : ∃ z,x.h[n]?=some z:=⟨_,zG hlt⟩
     obtain ⟨q0,q1,q2,q3,q4⟩:=lt_cellsO (fun j u hj=>cell_keep (hcell j u hj) HN.out.1.ext) hz
     have HZ:=zd hz
     have hgl1:g<Wr.heap.size:=zU hgl HN.out.1.ext.size
     have hgsr:gs<Wr.heap.size:=zL HN.out.2.1
     clear hz hcell hgl
     have hlt':(n:Int)<(x.h.length:Int):=by omega
     go_upto_region 18 with fail
     refine wp_forget (fun w'=>Brk w w' x (.slice (some ⟨g,off,none⟩) x.h.length cap) (hs5 a1 a2 h5) (es2 x.s0.ph x.s1.ph)∧LtAt w' gs sd∧LtAt w' Wr.heap.size z) ⟨HN.out.1.ext' (zR.alloc _),HN.out.2.1.ext (zR.alloc _),heap_new rfl⟩ ?_
     clear q0 q1 q2 q3 q4 hgl1
     rintro W5 ⟨k5,s5,z5⟩
     have hTk:=HN.out.2.2.1
     have hIns:=HN.out.2.2.2.1
     have hH5:=HN.out.2.2.2.2
     have HTk:=zd hTk
     have HIns:=zd hIns
     have HH5:=zd hH5
     clear hTk hIns hH5 HN
     have hh2:=k5.hh
     unfold hs5 at hh2
     have qh:=zQ hh2
     have fh:=zF hh2
     have lh:w.heap.size+1<W5.heap.size:=zL hh2
     have qs:=zQ s5
     have ls:gs<W5.heap.size:=zL s5
     have K5:=zd k5
     have S5:=zd s5
     clear k5 s5 hh2
     obtain ⟨zk,zf,zc,zt,zb⟩:=z
     simp only [LtAt] at z5
     by_cases hk5:zk=5
     ·subst hk5
      have qz:=zQ z5
      have lz:Wr.heap.size<W5.heap.size:=zL z5
      clear z5
      obtain ⟨ins',ei⟩ : ∃ b,b=ins:=⟨_,rfl⟩
      by_cases he:(⟨5,zf,zc,zt,zb⟩:Lt)=sd
      ·have he2:lEq 5 zf zc zt zb sd.k sd.f sd.c sd.t sd.b=true:=by rw [show lEq 5 zf zc zt zb sd.k sd.f sd.c sd.t sd.b=decide ((⟨5,zf,zc,zt,zb⟩:Lt)=sd) from lEq_lt ⟨5,zf,zc,zt,zb⟩ sd];exact decide_eq_true he
       have HEq:=zd (decide_eq_true he)
       obtain ⟨h5',eh⟩ : ∃ b,b=(h5 || !true):=⟨_,rfl⟩
       clear he
       rcases tk<;>rcases ins<;>rcases h5
       all_goals
        go_wp2_with fail
        go_roundg (gk - 1)
        case rel=>exact ⟨n+1,true,ins',h5',rfl,by rw [ei],rfl,by omega,zd ⟨by rw [eh];exact K5.out.setH 5 _,ltat_set S5.out (by omega),by rw [any_next HZ.out,←HTk.out];rfl,by rw [any_next HZ.out,←HIns.out,ei];rfl,by rw [any_next HZ.out,←HH5.out,eh];unfold bad5;rw [HEq.out];rfl⟩⟩
        case measure=>omega
      ·have he2:lEq 5 zf zc zt zb sd.k sd.f sd.c sd.t sd.b=false:=by rw [show lEq 5 zf zc zt zb sd.k sd.f sd.c sd.t sd.b=decide ((⟨5,zf,zc,zt,zb⟩:Lt)=sd) from lEq_lt ⟨5,zf,zc,zt,zb⟩ sd];exact decide_eq_false he
       have HEq:=zd (decide_eq_false he)
       obtain ⟨h5',eh⟩ : ∃ b,b=(h5 || !false):=⟨_,rfl⟩
       clear he
       rcases tk<;>rcases ins<;>rcases h5
       all_goals
        go_wp2_with fail
        go_roundg (gk - 1)
        case rel=>exact ⟨n+1,true,ins',h5',rfl,by rw [ei],rfl,by omega,zd ⟨by rw [eh];exact K5.out.setH 5 _,ltat_set S5.out (by omega),by rw [any_next HZ.out,←HTk.out];rfl,by rw [any_next HZ.out,←HIns.out,ei];rfl,by rw [any_next HZ.out,←HH5.out,eh];unfold bad5;rw [HEq.out];rfl⟩⟩
        case measure=>omega
     by_cases hk6:zk=6
     ·subst hk6
      have qz:=zQ z5
      have lz:Wr.heap.size<W5.heap.size:=zL z5
      clear z5 hk5
      obtain ⟨tk',ei⟩ : ∃ b,b=tk:=⟨_,rfl⟩
      by_cases he:(⟨6,zf,zc,zt,zb⟩:Lt)=sd
      ·have he2:lEq 6 zf zc zt zb sd.k sd.f sd.c sd.t sd.b=true:=by rw [show lEq 6 zf zc zt zb sd.k sd.f sd.c sd.t sd.b=decide ((⟨6,zf,zc,zt,zb⟩:Lt)=sd) from lEq_lt ⟨6,zf,zc,zt,zb⟩ sd];exact decide_eq_true he
       have HEq:=zd (decide_eq_true he)
       obtain ⟨h5',eh⟩ : ∃ b,b=(h5 || !true):=⟨_,rfl⟩
       clear he
       rcases tk<;>rcases ins<;>rcases h5
       all_goals
        go_wp2_with fail
        go_roundg (gk - 1)
        case rel=>exact ⟨n+1,tk',true,h5',by rw [ei],rfl,rfl,by omega,zd ⟨by rw [eh];exact K5.out.setH 5 _,ltat_set S5.out (by omega),by rw [any_next HZ.out,←HTk.out,ei];rfl,by rw [any_next HZ.out,←HIns.out];rfl,by rw [any_next HZ.out,←HH5.out,eh];unfold bad5;rw [HEq.out];rfl⟩⟩
        case measure=>omega
      ·have he2:lEq 6 zf zc zt zb sd.k sd.f sd.c sd.t sd.b=false:=by rw [show lEq 6 zf zc zt zb sd.k sd.f sd.c sd.t sd.b=decide ((⟨6,zf,zc,zt,zb⟩:Lt)=sd) from lEq_lt ⟨6,zf,zc,zt,zb⟩ sd];exact decide_eq_false he
       have HEq:=zd (decide_eq_false he)
       obtain ⟨h5',eh⟩ : ∃ b,b=(h5 || !false):=⟨_,rfl⟩
       clear he
       rcases tk<;>rcases ins<;>rcases h5
       all_goals
        go_wp2_with fail
        go_roundg (gk - 1)
        case rel=>exact ⟨n+1,tk',true,h5',by rw [ei],rfl,rfl,by omega,zd ⟨by rw [eh];exact K5.out.setH 5 _,ltat_set S5.out (by omega),by rw [any_next HZ.out,←HTk.out,ei];rfl,by rw [any_next HZ.out,←HIns.out];rfl,by rw [any_next HZ.out,←HH5.out,eh];unfold bad5;rw [HEq.out];rfl⟩⟩
        case measure=>omega
     ·have hk5n:(zk != 5)=true:=by simpa using hk5
      have hk6n:(zk != 6)=true:=by simpa using hk6
      have qz:=zQ z5
      have lz:Wr.heap.size<W5.heap.size:=zL z5
      clear z5
      go_wp2_with fail
      go_roundg (gk - 1)
      case rel=>exact ⟨n+1,tk,ins,h5,rfl,rfl,rfl,by omega,zd ⟨K5.out,S5.out,by rw [any_next HZ.out,HTk.out];simp [hk5],by rw [any_next HZ.out,HIns.out];simp [hk6],by rw [any_next HZ.out,HH5.out];simp [bad5,hk5,hk6]⟩⟩
      case measure=>omega
    ·have hn:n=x.h.length:=by omega
     subst hn
     have hge : ¬(x.h.length:Int)<(x.h.length:Int):=by omega
     clear hg hlt
     have HE:Hid (Brk w Wr x (.slice a x.h.length cap) (hs5 a1 a2 h5) (es2 x.s0.ph x.s1.ph)):=zd HN.out.1
     have HT3:Hid ((tk && ins)=holds3 x):=zd (by have h1:=HN.out.2.2.1;have h2:=HN.out.2.2.2.1;rw [List.take_length] at h1 h2;rw [h1,h2];rfl)
     have HT5:Hid (h5=holds5 x):=zd (by have h1:=HN.out.2.2.2.2;rw [List.take_length] at h1;rw [h1,holds5_eq,HSd.out])
     have HT1:=zd KA.out.2
     clear HN KA
     have hh2:=HE.out.hh
     unfold hs5 at hh2
     have qh:=zQ hh2
     have fh:=zF hh2
     have lh:w.heap.size+1<Wr.heap.size:=zL hh2
     clear hh2
     go_upto_region 23 with fail
     go_cut [] from 97 (fun wc=>Hid (Brk w wc x (.slice a x.h.length cap) (hs35 a1 a2 (tk && ins) h5) (es2 x.s0.ph x.s1.ph)))
     case first=>
      rcases tk<;>rcases ins
      all_goals
       go_wp2_with fail
       go_meet
       case rel=>exact zd (HE.out.setH 3 _)
     case rest=>
      clear qh fh lh
      rename World=>W6
      have hx2:=hcut.out.hx
      unfold ExAt Ex.arr at hx2
      have qx:=zQ hx2
      have lx:w.heap.size<W6.heap.size:=zL hx2
      have HK:=zd hcut.out
      clear hx2 hcut
      go_upto_region 26 with fail
      refine wp_forget (fun w'=>Brk w w' x (.slice a x.h.length cap) (hs35 a1 a2 (tk && ins) h5) (es2 x.s0.ph x.s1.ph)∧w'.heap[W6.heap.size]?=some (.cells #[.int .i64 6,.int .i64 7] 55 (0,0))∧w'.heap[W6.heap.size+1]?=some (.cells #[.int .i64 7,.int .i64 6] 55 (0,0))) ⟨HK.out.ext' ((zR.alloc _).alloc _),(two_new zR).1,(two_new zR).2.1⟩ ?_
      clear qx lx
      rintro W7 ⟨k7,m7,n7⟩
      have hx2:=k7.hx
      unfold ExAt Ex.arr at hx2
      have qx:=zQ hx2
      have lx:w.heap.size<W7.heap.size:=zL hx2
      have hh2:=k7.hh
      unfold hs35 at hh2
      have qh:=zQ hh2
      have fh:=zF hh2
      have lh:w.heap.size+1<W7.heap.size:=zL hh2
      have he2:=k7.he
      unfold es2 at he2
      have qe:=zQ he2
      have le:w.heap.size+1+1<W7.heap.size:=zL he2
      have q6:=zQ m7
      have l6:W6.heap.size<W7.heap.size:=zL m7
      have q7:=zQ n7
      have l7:W6.heap.size+1<W7.heap.size:=zL n7
      have K7:=zd k7
      clear k7 m7 n7 hx2 hh2 he2 HK
      go_cut [] from 104 (fun wc=>Hid (Brk w wc x (.slice a x.h.length cap) (hs345 a1 a2 (tk && ins) (holds4 x) h5) (es2 x.s0.ph x.s1.ph)))
      case first=>
       rcases hb0:x.b0
       case true=>
        go_wp2_with fail
        go_meet
        case rel=>exact zd (by rw [show holds4 x=false by unfold holds4;rw [hb0];rfl];exact K7.out.setH 4 _)
       rcases hb1:x.b1
       case true=>
        go_wp2_with fail
        go_meet
        case rel=>exact zd (by rw [show holds4 x=false by unfold holds4;rw [hb0,hb1];rfl];exact K7.out.setH 4 _)
       rcases e1:i2E x.s0.ph x.s1.ph 6 7
       case true=>
        go_wp2_with fail
        go_meet
        case rel=>exact zd (by rw [holds4_eq,hb0,hb1,e1];exact K7.out.setH 4 _)
       rcases e2:i2E x.s0.ph x.s1.ph 7 6
       all_goals
        go_wp2_with fail
        go_meet
        case rel=>exact zd (by rw [holds4_eq,hb0,hb1,e1,e2];exact K7.out.setH 4 _)
      case rest=>
       clear qx lx qh fh lh qe le q6 l6 q7 l7 K7
       rename World=>W8
       have hh2:=hcut.out.hh
       have HH:=zd hh2
       unfold hs345 at hh2
       have HK:=zd hcut.out
       clear hh2 hcut
       obtain ⟨i0,hi,hz0,hz1,hz2⟩:=info_parts info_int
       obtain ⟨b3,hb3⟩ : ∃ b,(tk && ins)=b:=⟨_,rfl⟩
       obtain ⟨b4,hb4⟩ : ∃ b,holds4 x=b:=⟨_,rfl⟩
       rw [hb3,hb4] at HH HK
       have HB3:=zd hb3
       have HB4:=zd hb4
       clear hb3 hb4
       have HOK:Hid (brkX x=brkB [false,a1,a2,b3,b4,h5] 6):=zd (by unfold brkX;rw [←HT1.out.1,←HT1.out.2,←HT3.out,←HT5.out,HB3.out,HB4.out])
       go_upto_region 29 with (refine wpList_load_row rfl 117 _ rfl _ rfl _ _ (0,0) _ HH.out zu117 rfl info_b6 ?_)
       unfold hs345
       go_loopg [15,120] 6 (fun g l ii wr=>∃ (n:Nat),ii = .int .i64 (n:Int)∧n+g=6∧Hid (wr.ownsRow W8.heap.size 3 1 l (brkB [false,a1,a2,b3,b4,h5] n).length ((brkB [false,a1,a2,b3,b4,h5] n).map vI)∧Ext W8 wr))
       case atStart=>exact ⟨0,rfl,rfl,zd ⟨World.ownsRow_nil _ _ _ _,zR⟩⟩
       case round=>
        obtain ⟨n,rfl,hg,HM⟩:=hrel
        rename World=>Wr
        have hMl:=brk_len [false,a1,a2,b3,b4,h5] n
        have hor:n=0∨n=1∨n=2∨n=3∨n=4∨n=5∨n=6:=by omega
        have hszW:W8.heap.size≤Wr.heap.size:=HM.out.2.size
        rcases hor with rfl|rfl|rfl|rfl|rfl|rfl|rfl
        ·go_wp2_with fail
         go_roundg (gk - 1)
         case rel=>exact ⟨1,rfl,by omega,zd ⟨HM.out.1,HM.out.2⟩⟩
         case measure=>omega
        ·rcases a1
         ·go_wp2_with fail
          go_roundg (gk - 1)
          case rel=>exact ⟨2,rfl,by omega,zd ⟨by rw [brk_no rfl];exact HM.out.1,HM.out.2⟩⟩
          case measure=>omega
         ·go_wp2_with (at_builtin;refine wpList_app W8.heap.size 95 3 i0 _ 1 8 zu95 hi hz0 hz1 hz2 rfl (by decide) rfl _ _ rfl _ _ _ rfl (own_ext HM.out.1 ((Ext.refl Wr).alloc _)) (zT hszW ((Ext.refl Wr).alloc _).size) Wr.heap.size 1 1 _ rfl (heap_new rfl) rfl (by simp [Value.oneCell']) (by unfold maxLen;omega) (by omega) ?_;intro v2 w2 hv2 hb2 _)
          go_roundg (gk - 1)
          case rel=>exact ⟨2,rfl,by omega,zd ⟨by rw [brk_yes rfl,List.length_append,List.map_append];exact hv2,(HM.out.2.alloc _).trans' hb2⟩⟩
          case measure=>omega
        ·rcases a2
         ·go_wp2_with fail
          go_roundg (gk - 1)
          case rel=>exact ⟨3,rfl,by omega,zd ⟨by rw [brk_no rfl];exact HM.out.1,HM.out.2⟩⟩
          case measure=>omega
         ·go_wp2_with (at_builtin;refine wpList_app W8.heap.size 95 3 i0 _ 1 8 zu95 hi hz0 hz1 hz2 rfl (by decide) rfl _ _ rfl _ _ _ rfl (own_ext HM.out.1 ((Ext.refl Wr).alloc _)) (zT hszW ((Ext.refl Wr).alloc _).size) Wr.heap.size 1 1 _ rfl (heap_new rfl) rfl (by simp [Value.oneCell']) (by unfold maxLen;omega) (by omega) ?_;intro v2 w2 hv2 hb2 _)
          go_roundg (gk - 1)
          case rel=>exact ⟨3,rfl,by omega,zd ⟨by rw [brk_yes rfl,List.length_append,List.map_append];exact hv2,(HM.out.2.alloc _).trans' hb2⟩⟩
          case measure=>omega
        ·rcases b3
         ·go_wp2_with fail
          go_roundg (gk - 1)
          case rel=>exact ⟨4,rfl,by omega,zd ⟨by rw [brk_no rfl];exact HM.out.1,HM.out.2⟩⟩
          case measure=>omega
         ·go_wp2_with (at_builtin;refine wpList_app W8.heap.size 95 3 i0 _ 1 8 zu95 hi hz0 hz1 hz2 rfl (by decide) rfl _ _ rfl _ _ _ rfl (own_ext HM.out.1 ((Ext.refl Wr).alloc _)) (zT hszW ((Ext.refl Wr).alloc _).size) Wr.heap.size 1 1 _ rfl (heap_new rfl) rfl (by simp [Value.oneCell']) (by unfold maxLen;omega) (by omega) ?_;intro v2 w2 hv2 hb2 _)
          go_roundg (gk - 1)
          case rel=>exact ⟨4,rfl,by omega,zd ⟨by rw [brk_yes rfl,List.length_append,List.map_append];exact hv2,(HM.out.2.alloc _).trans' hb2⟩⟩
          case measure=>omega
        ·rcases b4
         ·go_wp2_with fail
          go_roundg (gk - 1)
          case rel=>exact ⟨5,rfl,by omega,zd ⟨by rw [brk_no rfl];exact HM.out.1,HM.out.2⟩⟩
          case measure=>omega
         ·go_wp2_with (at_builtin;refine wpList_app W8.heap.size 95 3 i0 _ 1 8 zu95 hi hz0 hz1 hz2 rfl (by decide) rfl _ _ rfl _ _ _ rfl (own_ext HM.out.1 ((Ext.refl Wr).alloc _)) (zT hszW ((Ext.refl Wr).alloc _).size) Wr.heap.size 1 1 _ rfl (heap_new rfl) rfl (by simp [Value.oneCell']) (by unfold maxLen;omega) (by omega) ?_;intro v2 w2 hv2 hb2 _)
          go_roundg (gk - 1)
          case rel=>exact ⟨5,rfl,by omega,zd ⟨by rw [brk_yes rfl,List.length_append,List.map_append];exact hv2,(HM.out.2.alloc _).trans' hb2⟩⟩
          case measure=>omega
        ·rcases h5
         ·go_wp2_with fail
          go_roundg (gk - 1)
          case rel=>exact ⟨6,rfl,by omega,zd ⟨by rw [brk_no rfl];exact HM.out.1,HM.out.2⟩⟩
          case measure=>omega
         ·go_wp2_with (at_builtin;refine wpList_app W8.heap.size 95 3 i0 _ 1 8 zu95 hi hz0 hz1 hz2 rfl (by decide) rfl _ _ rfl _ _ _ rfl (own_ext HM.out.1 ((Ext.refl Wr).alloc _)) (zT hszW ((Ext.refl Wr).alloc _).size) Wr.heap.size 1 1 _ rfl (heap_new rfl) rfl (by simp [Value.oneCell']) (by unfold maxLen;omega) (by omega) ?_;intro v2 w2 hv2 hb2 _)
          go_roundg (gk - 1)
          case rel=>exact ⟨6,rfl,by omega,zd ⟨by rw [brk_yes rfl,List.length_append,List.map_append];exact hv2,(HM.out.2.alloc _).trans' hb2⟩⟩
          case measure=>omega
        ·go_wp2_with fail
         go_ret
         have ho:=HM.out.1
         rw [←HOK.out] at ho
         exact ⟨_,rfl,own_base ho HK.out.ext.size,HK.out.ext.trans HM.out.2⟩
theorem mo_broken (x:Ex) (v:Value) (w:World) (hR:Hrd w x v) (hn:x.h.length≤100000):Calls Tryz.prog 37 #[.agg (x.arr v)] w fun e w'=>∃ a n c,e = .returned (.slice a n c)∧(n == 0)=okX x∧Ext w w':=by
 refine (mo_brokenL x v w hR hn).mono ?_
 rintro e w' ⟨v',rfl,ho,hx⟩
 obtain ⟨a,c,rfl,_⟩:=own_view ho
 exact ⟨a,_,c,rfl,brk_ok x,hx⟩
end Go.Proofs.YtlnmhocehgmbbaaGreatDoor
namespace Go.Proofs.YtlnmhocehgmbbaaGreatDoor
def set9 (w:World) (g o:Nat) (s:St):World:=((((((((w.setCell ⟨g,o,none⟩ (.int .i64 s.r)).setCell ⟨g,o+1,none⟩ (.int .u64 s.c)).setCell ⟨g,o+2,none⟩ (.string s.t)).setCell ⟨g,o+3,none⟩ (.int .i64 s.ph)).setCell ⟨g,o+4,none⟩ (.int .i64 s.p.k)).setCell ⟨g,o+5,none⟩ (.int .i64 s.p.f)).setCell ⟨g,o+6,none⟩ (.int .u64 s.p.c)).setCell ⟨g,o+7,none⟩ (.string s.p.t)).setCell ⟨g,o+8,none⟩ (.bool s.p.b)
theorem set9_but (w:World) (g o:Nat) (s:St):But g w (set9 w g o s):=(((((((((But.refl g w).setCell _ _).setCell _ _).setCell _ _).setCell _ _).setCell _ _).setCell _ _).setCell _ _).setCell _ _).setCell _ _
theorem arr9_0 (x:Ex) (v:Value) (s:St):((((((((((x.arr v).setIfInBounds 1 (.int .i64 s.r)).setIfInBounds 2 (.int .u64 s.c)).setIfInBounds 3 (.string s.t)).setIfInBounds 4 (.int .i64 s.ph)).setIfInBounds 5 (.int .i64 s.p.k)).setIfInBounds 6 (.int .i64 s.p.f)).setIfInBounds 7 (.int .u64 s.p.c)).setIfInBounds 8 (.string s.p.t)).setIfInBounds 9 (.bool s.p.b))=({ x with s0:=s } : Ex).arr v:=by
 refine Array.ext' ?_
 simp [Ex.arr]
theorem set9_0 {w:World} {g:Nat} {x:Ex} {v:Value} (h:ExAt w g x v) (s:St):ExAt (set9 w g 1 s) g { x with s0:=s } v:=by
 have h9:=setCell_row (o:=1+8) (setCell_row (o:=1+7) (setCell_row (o:=1+6) (setCell_row (o:=1+5) (setCell_row (o:=1+4) (setCell_row (o:=1+3) (setCell_row (o:=1+2) (setCell_row (o:=1+1) (setCell_row (o:=1) h (.int .i64 s.r)) (.int .u64 s.c)) (.string s.t)) (.int .i64 s.ph)) (.int .i64 s.p.k)) (.int .i64 s.p.f)) (.int .u64 s.p.c)) (.string s.p.t)) (.bool s.p.b)
 have e:=arr9_0 x v s
 simp only [Nat.reduceAdd] at h9
 rw [e] at h9
 exact h9
theorem arr9_1 (x:Ex) (v:Value) (s:St):((((((((((x.arr v).setIfInBounds 10 (.int .i64 s.r)).setIfInBounds 11 (.int .u64 s.c)).setIfInBounds 12 (.string s.t)).setIfInBounds 13 (.int .i64 s.ph)).setIfInBounds 14 (.int .i64 s.p.k)).setIfInBounds 15 (.int .i64 s.p.f)).setIfInBounds 16 (.int .u64 s.p.c)).setIfInBounds 17 (.string s.p.t)).setIfInBounds 18 (.bool s.p.b))=({ x with s1:=s } : Ex).arr v:=by
 refine Array.ext' ?_
 simp [Ex.arr]
theorem set9_1 {w:World} {g:Nat} {x:Ex} {v:Value} (h:ExAt w g x v) (s:St):ExAt (set9 w g 10 s) g { x with s1:=s } v:=by
 have h9:=setCell_row (o:=10+8) (setCell_row (o:=10+7) (setCell_row (o:=10+6) (setCell_row (o:=10+5) (setCell_row (o:=10+4) (setCell_row (o:=10+3) (setCell_row (o:=10+2) (setCell_row (o:=10+1) (setCell_row (o:=10) h (.int .i64 s.r)) (.int .u64 s.c)) (.string s.t)) (.int .i64 s.ph)) (.int .i64 s.p.k)) (.int .i64 s.p.f)) (.int .u64 s.p.c)) (.string s.p.t)) (.bool s.p.b)
 have e:=arr9_1 x v s
 simp only [Nat.reduceAdd] at h9
 rw [e] at h9
 exact h9
end Go.Proofs.YtlnmhocehgmbbaaGreatDoor

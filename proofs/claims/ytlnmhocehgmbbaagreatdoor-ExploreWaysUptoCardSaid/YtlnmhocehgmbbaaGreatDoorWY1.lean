/- No condition. -/
import Derived.Test.YtlnmhocehgmbbaaGreatDoorProg
import Derived.WalkKit
import Derived.WalkSpells
import Derived.WalkLawsBesides
import Derived.Deep.QuietTactic
import Derived.BigQuiet
import Derived.Lib.Hide
set_option linter.all false
namespace Go.Proofs.YtlnmhocehgmbbaaGreatDoor
open Go.RowKit
def Ext (w w':World):Prop:=Below w.heap.size w w'
theorem Ext.refl (w:World):Ext w w:=Below.refl _ _
theorem Ext.trans {a b c:World} (h:Ext a b) (k:Ext b c):Ext a c:=Below.trans h (Below.mono k h.size)
theorem Ext.trans' {a b c:World} (h:Ext a b) (k:Below a.heap.size b c):Ext a c:=Below.trans h k
theorem Ext.drew {a w:World} (h:Ext a w):Ext a w.drew:=Below.drew h
theorem Ext.drewN {a w:World} (h:Ext a w) (n:Nat):Ext a (w.drewN n):=⟨h.os,h.tape,h.output,h.size,h.block⟩
theorem Ext.alloc {a w:World} (h:Ext a w) (o:Obj):Ext a (w.alloc o):=Below.alloc h h.size o
theorem Ext.setCell {a w:World} (h:Ext a w) {p:Addr} (hp:a.heap.size≤p.block) (u:Value):Ext a (w.setCell p u):=Below.setCell h hp u
theorem Ext.size {a w:World} (h:Ext a w):a.heap.size≤w.heap.size:=Below.size h
structure ExtOf (w:World) where
 val:World
 ext:Ext w val
instance (w:World):Nonempty (ExtOf w):=⟨⟨w,Ext.refl w⟩⟩
theorem ext_of {w w':World} (h:Ext w w') : ∃ x:ExtOf w,w'=x.val:=⟨⟨w',h⟩,rfl⟩
theorem Ext.val {a w:World} (h:Ext a w) (x:ExtOf w):Ext a x.val:=h.trans x.ext
theorem ExtOf.cell {w:World} (x:ExtOf w) {a:Addr} (h:a.block<w.heap.size):x.val.cell? a=w.cell? a:=Below.cell x.ext h
theorem ExtOf.frozen {w:World} (x:ExtOf w) {a:Addr} (h:a.block<w.heap.size):x.val.frozen? a=w.frozen? a:=Below.frozen x.ext h
theorem ExtOf.lt {w:World} (x:ExtOf w) {n:Nat} (h:n<w.heap.size):(n<x.val.heap.size)=True:=by
 have:=x.ext.size
 exact eq_true (by omega)
theorem ExtOf.le {w:World} (x:ExtOf w) {n:Nat} (h:n≤w.heap.size):(n≤x.val.heap.size)=True:=by
 have:=x.ext.size
 exact eq_true (by omega)
theorem ExtOf.cell2 {w:World} {x:ExtOf w} (y:ExtOf x.val) {a:Addr} (h:a.block<w.heap.size):y.val.cell? a=w.cell? a:=Below.cell (x.ext.trans y.ext) h
theorem ExtOf.frozen2 {w:World} {x:ExtOf w} (y:ExtOf x.val) {a:Addr} (h:a.block<w.heap.size):y.val.frozen? a=w.frozen? a:=Below.frozen (x.ext.trans y.ext) h
theorem ExtOf.lt2 {w:World} {x:ExtOf w} (y:ExtOf x.val) {n:Nat} (h:n<w.heap.size):(n<y.val.heap.size)=True:=by
 have:=(x.ext.trans y.ext).size
 exact eq_true (by omega)
theorem ExtOf.cell3 {w:World} {x:ExtOf w} {y:ExtOf x.val} (z:ExtOf y.val) {a:Addr} (h:a.block<w.heap.size):z.val.cell? a=w.cell? a:=Below.cell ((x.ext.trans y.ext).trans z.ext) h
theorem ExtOf.frozen3 {w:World} {x:ExtOf w} {y:ExtOf x.val} (z:ExtOf y.val) {a:Addr} (h:a.block<w.heap.size):z.val.frozen? a=w.frozen? a:=Below.frozen ((x.ext.trans y.ext).trans z.ext) h
theorem ExtOf.lt3 {w:World} {x:ExtOf w} {y:ExtOf x.val} (z:ExtOf y.val) {n:Nat} (h:n<w.heap.size):(n<z.val.heap.size)=True:=by
 have:=((x.ext.trans y.ext).trans z.ext).size
 exact eq_true (by omega)
structure BelOf (B:Nat) (w:World) where
 val:World
 bel:Below B w val
instance (B:Nat) (w:World):Nonempty (BelOf B w):=⟨⟨w,Below.refl B w⟩⟩
theorem bel_of {B:Nat} {w w':World} (h:Below B w w') : ∃ x:BelOf B w,w'=x.val:=⟨⟨w',h⟩,rfl⟩
theorem bel_ext {B:Nat} {a w w':World} (h:Below B a w) (e:Ext w w') (hB:B≤a.heap.size):Below B a w':=Below.trans h (Below.mono e (Nat.le_trans hB h.size))
theorem BelOf.cell {B:Nat} {w:World} (x:BelOf B w) {a:Addr} (h:a.block<B):x.val.cell? a=w.cell? a:=Below.cell x.bel h
theorem BelOf.frozen {B:Nat} {w:World} (x:BelOf B w) {a:Addr} (h:a.block<B):x.val.frozen? a=w.frozen? a:=Below.frozen x.bel h
theorem BelOf.lt {B:Nat} {w:World} (x:BelOf B w) {n:Nat} (h:n<w.heap.size):(n<x.val.heap.size)=True:=by
 have:=x.bel.size
 exact eq_true (by omega)
theorem ExtOf.cellB {B:Nat} {w:World} {x:BelOf B w} (y:ExtOf x.val) {a:Addr} (h:a.block<B) (hB:B≤w.heap.size):y.val.cell? a=w.cell? a:=
 Below.cell (bel_ext x.bel y.ext hB) h
theorem ExtOf.frozenB {B:Nat} {w:World} {x:BelOf B w} (y:ExtOf x.val) {a:Addr} (h:a.block<B) (hB:B≤w.heap.size):y.val.frozen? a=w.frozen? a:=
 Below.frozen (bel_ext x.bel y.ext hB) h
structure ButOf (X:Nat) (w:World) where
 val:World
 but:w.grownBy val (some X)
theorem but_refl (X:Nat) (w:World):w.grownBy w (some X):=⟨rfl,rfl,rfl,Nat.le_refl _,fun _ _ _=>rfl⟩
theorem but_ext {X:Nat} {a w w':World} (h:a.grownBy w (some X)) (e:Ext w w'):a.grownBy w' (some X):=
 ⟨e.os.trans h.os,e.tape.trans h.tape,e.output.trans h.output,Nat.le_trans h.size e.size,fun k hk hn=>(e.block k (Nat.lt_of_lt_of_le hk h.size)).trans (h.block k hk hn)⟩
theorem but_setRow {X:Nat} {a w:World} (h:a.grownBy w (some X)) (cs:Array Value):a.grownBy (w.setRow X cs) (some X):=
 ⟨h.os,h.tape,h.output,by simpa using h.size,fun k hk hn=>(setRow_other w X k cs (fun e=>hn (by rw [e]))).trans (h.block k hk hn)⟩
instance (X:Nat) (w:World):Nonempty (ButOf X w):=⟨⟨w,but_refl X w⟩⟩
theorem ButOf.cell0 {X:Nat} {w:World} (x:ButOf X w) {a:Addr} (h:a.block<w.heap.size) (hn:a.block≠X):x.val.cell? a=w.cell? a:=
 World.cell?_of_block (x.but.block a.block h (by simpa using hn))
theorem ButOf.frozen0 {X:Nat} {w:World} (x:ButOf X w) {a:Addr} (h:a.block<w.heap.size) (hn:a.block≠X):x.val.frozen? a=w.frozen? a:=
 World.frozen?_of_block (x.but.block a.block h (by simpa using hn))
theorem ExtOf.cellX {X:Nat} {w:World} {x:ButOf X w} (y:ExtOf x.val) {a:Addr} (h:a.block<w.heap.size) (hn:a.block<X):y.val.cell? a=w.cell? a:=
 ButOf.cell0 ⟨y.val,but_ext x.but y.ext⟩ h (Nat.ne_of_lt hn)
theorem ExtOf.frozenX {X:Nat} {w:World} {x:ButOf X w} (y:ExtOf x.val) {a:Addr} (h:a.block<w.heap.size) (hn:a.block<X):y.val.frozen? a=w.frozen? a:=
 ButOf.frozen0 ⟨y.val,but_ext x.but y.ext⟩ h (Nat.ne_of_lt hn)
theorem ExtOf.cellX' {X:Nat} {w:World} {x:ButOf X w} (y:ExtOf x.val) {a:Addr} (h:a.block<w.heap.size) (hn:X<a.block):y.val.cell? a=w.cell? a:=
 ButOf.cell0 ⟨y.val,but_ext x.but y.ext⟩ h (Nat.ne_of_gt hn)
theorem ExtOf.frozenX' {X:Nat} {w:World} {x:ButOf X w} (y:ExtOf x.val) {a:Addr} (h:a.block<w.heap.size) (hn:X<a.block):y.val.frozen? a=w.frozen? a:=
 ButOf.frozen0 ⟨y.val,but_ext x.but y.ext⟩ h (Nat.ne_of_gt hn)
theorem Ext.setRow {a w:World} (h:Ext a w) {g:Nat} (hg:a.heap.size≤g) (cs:Array Value):Ext a (w.setRow g cs):=
 ⟨h.os,h.tape,h.output,by simpa using h.size,fun k hk=>(setRow_other w g k cs (by omega)).trans (h.block k hk)⟩
theorem heap_ext {w w':World} {G:Nat} {o:Obj} (h:w.heap[G]?=some o) (e:Ext w w'):w'.heap[G]?=some o:=by
 rw [Below.block e G (Array.getElem?_eq_some_iff.1 h).1];exact h
section
variable {P:Program}
theorem wp_region_ext {id:Nat} {Q:Exit→Act→World→Prop} {a:Act} {w:World} {l:List Oper} (hm:P.follows .mixedOrders=true) (hB:Region.lexB .any l.toArray=true)
 (h:wpQuiet P l.toArray (fun w'=>∃ x:ExtOf w,w'=x.val) (fun a'=>∀ w',(∃ x:ExtOf w,w'=x.val)→Q .normal a' w') l a):(Code.region id l.toArray true).wp P Q a w:=
 wp_region_quiet (C:=fun w'=>∃ x:ExtOf w,w'=x.val) hm hB ⟨⟨_,(Ext.refl w).drew⟩,rfl⟩ (by simpa using h)
theorem calls_ext {f:FuncId} {args:Array Value} {w:World} {x:ExtOf w} {v:Value}
 (h:Calls P f args x.val fun e w'=>e = .returned v∧Ext x.val w'):Calls P f args x.val fun e w''=>e = .returned v∧∃ y:ExtOf w,w''=y.val:=
 h.mono fun _ w' ⟨he,hw⟩=>⟨he,⟨w',x.ext.trans hw⟩,rfl⟩
end
theorem zL {α:Type} {xs:Array α} {i:Nat} {b:α} (h:xs[i]?=some b):i<xs.size:=(Array.getElem?_eq_some_iff.1 h).1
theorem zM {α:Type} {xs:List α} {i:Nat} {b:α} (h:xs[i]?=some b):i<xs.length:=(List.getElem?_eq_some_iff.1 h).1
theorem zQ {w:World} {b:Nat} {arr:Array Value} {e:TypeId} {fr:Nat×Nat} (h:w.heap[b]?=some (.cells arr e fr)) (j:Nat):w.cell? ⟨b,j,none⟩=arr[j]?:=cell_of_row w b j arr e fr h
theorem zF {w:World} {b:Nat} {arr:Array Value} {e:TypeId} (h:w.heap[b]?=some (.cells arr e (0,0))) (j:Nat):w.frozen? ⟨b,j,none⟩=false:=frozen_of_row w b j arr e h
theorem zR {w:World}:Ext w w:=Ext.refl w
theorem zd {p:Prop} (h:p):Hid p:=Lib.hid h
theorem zU {a b c:Nat} (h:a<b) (k:b≤c):a<c:=Nat.lt_of_lt_of_le h k
theorem zT {a b c:Nat} (h:a≤b) (k:b≤c):a≤c:=Nat.le_trans h k
theorem zG {α:Type} {xs:List α} {i:Nat} (h:i<xs.length):xs[i]?=some xs[i]:=List.getElem?_eq_getElem h
theorem zN {a:Nat}:a≤a:=Nat.le_refl a
theorem zE {α:Type} {xs:List α} {i:Nat} {b:α} (h:xs[i]?=some b):b∈xs:=List.mem_of_getElem? h
theorem zu0:type_of% Tryz.underlying0:=Tryz.underlying0
theorem zu2:type_of% Tryz.underlying2:=Tryz.underlying2
theorem zu3:type_of% Tryz.underlying3:=Tryz.underlying3
theorem zu4:type_of% Tryz.underlying4:=Tryz.underlying4
theorem zu5:type_of% Tryz.underlying5:=Tryz.underlying5
theorem zu9:type_of% Tryz.underlying9:=Tryz.underlying9
theorem zu20:type_of% Tryz.underlying20:=Tryz.underlying20
theorem zu22:type_of% Tryz.underlying22:=Tryz.underlying22
theorem zu24:type_of% Tryz.underlying24:=Tryz.underlying24
theorem zu26:type_of% Tryz.underlying26:=Tryz.underlying26
theorem zu27:type_of% Tryz.underlying27:=Tryz.underlying27
theorem zu29:type_of% Tryz.underlying29:=Tryz.underlying29
theorem zu30:type_of% Tryz.underlying30:=Tryz.underlying30
theorem zu31:type_of% Tryz.underlying31:=Tryz.underlying31
theorem zu33:type_of% Tryz.underlying33:=Tryz.underlying33
theorem zu34:type_of% Tryz.underlying34:=Tryz.underlying34
theorem zu36:type_of% Tryz.underlying36:=Tryz.underlying36
theorem zu41:type_of% Tryz.underlying41:=Tryz.underlying41
theorem zu44:type_of% Tryz.underlying44:=Tryz.underlying44
theorem zu48:type_of% Tryz.underlying48:=Tryz.underlying48
theorem zu52:type_of% Tryz.underlying52:=Tryz.underlying52
theorem zu55:type_of% Tryz.underlying55:=Tryz.underlying55
theorem zu58:type_of% Tryz.underlying58:=Tryz.underlying58
theorem zu62:type_of% Tryz.underlying62:=Tryz.underlying62
theorem zu64:type_of% Tryz.underlying64:=Tryz.underlying64
theorem zu68:type_of% Tryz.underlying68:=Tryz.underlying68
theorem zu83:type_of% Tryz.underlying83:=Tryz.underlying83
theorem zu88:type_of% Tryz.underlying88:=Tryz.underlying88
theorem zu95:type_of% Tryz.underlying95:=Tryz.underlying95
theorem zu102:type_of% Tryz.underlying102:=Tryz.underlying102
theorem zu107:type_of% Tryz.underlying107:=Tryz.underlying107
theorem zu109:type_of% Tryz.underlying109:=Tryz.underlying109
theorem zu117:type_of% Tryz.underlying117:=Tryz.underlying117
theorem zu140:type_of% Tryz.underlying140:=Tryz.underlying140
theorem zu157:type_of% Tryz.underlying157:=Tryz.underlying157
theorem zu161:type_of% Tryz.underlying161:=Tryz.underlying161
theorem zu163:type_of% Tryz.underlying163:=Tryz.underlying163
theorem zu164:type_of% Tryz.underlying164:=Tryz.underlying164
theorem zu166:type_of% Tryz.underlying166:=Tryz.underlying166
theorem zu168:type_of% Tryz.underlying168:=Tryz.underlying168
theorem zu169:type_of% Tryz.underlying169:=Tryz.underlying169
theorem zu178:type_of% Tryz.underlying178:=Tryz.underlying178
theorem zu183:type_of% Tryz.underlying183:=Tryz.underlying183
theorem zu193:type_of% Tryz.underlying193:=Tryz.underlying193
theorem zu195:type_of% Tryz.underlying195:=Tryz.underlying195
theorem zu196:type_of% Tryz.underlying196:=Tryz.underlying196
theorem zu203:type_of% Tryz.underlying203:=Tryz.underlying203
theorem zu209:type_of% Tryz.underlying209:=Tryz.underlying209
theorem zu212:type_of% Tryz.underlying212:=Tryz.underlying212
theorem zu214:type_of% Tryz.underlying214:=Tryz.underlying214
theorem zu216:type_of% Tryz.underlying216:=Tryz.underlying216
theorem zu220:type_of% Tryz.underlying220:=Tryz.underlying220
theorem zu226:type_of% Tryz.underlying226:=Tryz.underlying226
theorem zu227:type_of% Tryz.underlying227:=Tryz.underlying227
theorem zu228:type_of% Tryz.underlying228:=Tryz.underlying228
theorem zu229:type_of% Tryz.underlying229:=Tryz.underlying229
theorem zu231:type_of% Tryz.underlying231:=Tryz.underlying231
theorem zu232:type_of% Tryz.underlying232:=Tryz.underlying232
section
variable {P:Program} {md:Region.Mode} {ops:Array Oper}
def Quiets (Q:Exit→Act→World→Prop):Exit→Act→World→Prop
 | .panic _,_,_=>False
 | e,a,w=>Q e a w
theorem quiets_imp {Q:Exit→Act→World→Prop} : ∀ (e:Exit) (a:Act) (w:World),Quiets Q e a w→Q e a w:=fun e a w h=>by
 cases e<;>first|exact h|exact h.elim
def wpAnyE (P:Program) (md:Region.Mode) (ops:Array Oper) (C:World→Prop) (Q:Exit→Act→World→Prop):Nat→Array Bool→Act→World→Prop
 | 0,listed,a,w=>Region.ready md ops listed=[]∧∀ w',Ext w w'→Q .normal a w'
 | n+1,listed,a,w=>∀ w',Ext w w'→((Region.ready md ops listed=[]→Q .normal a w')∧
  ∀ i∈Region.ready md ops listed,wpOp P ops (Quiets Q) i (fun a' w''=>C w''∧wpAnyE P md ops C Q n (listed.setIfInBounds i true) a' w'') a w')
theorem wpAnyE_up {C:World→Prop} {Q:Exit→Act→World→Prop} : ∀ (n:Nat) {l:Array Bool} {a:Act} {w w':World},wpAnyE P md ops C Q n l a w→Ext w w'→wpAnyE P md ops C Q n l a w'
 | 0,_,_,_,_,h,e=>⟨h.1,fun _ k=>h.2 _ (e.trans k)⟩
 | _+1,_,_,_,_,h,e=>fun _ k=>h _ (e.trans k)
theorem wpAny_of_E {C:World→Prop} {Q:Exit→Act→World→Prop} : ∀ (n:Nat) (l:Array Bool) (a:Act) (w:World),wpAnyE P md ops C Q n l a w→wpAny P md ops (Quiets Q) n l a w
 | 0,_,_,_,h=>⟨h.1,h.2 _ zR⟩
 | n+1,_,_,_,h=>⟨fun h0=>(h _ zR).1 h0,fun i hi=>wpOp_mono (fun a' w' h'=>wpAny_of_E n _ a' w' h'.2) ((h _ zR).2 i hi)⟩
def YieldsE (P:Program) (ops:Array Oper) (C:World→Prop) (o:Oper) (v:Value) (a:Act):Prop:=
 (Region.wanted o (yielded ops a.tmps)=true∧∀ w,C w→o.quietAt P a (Ext w) w v)∨
 (Region.wanted o (yielded ops a.tmps)=false∧v=undef)
theorem YieldsE.wpOp {C:World→Prop} {Q:Exit→Act→World→Prop} {i:Nat} {o:Oper} {v:Value} {a:Act} (hi:ops[i]?=some o) (hy:YieldsE P ops C o v a)
 {K:Act→World→Prop} {w:World} (hC:C w) (h : ∀ w',Ext w w'→K (a.put o.dst v) w'):Go.wpOp P ops Q i K a w:=by
 unfold Go.wpOp
 simp only [hi]
 rcases hy with ⟨hw,hv⟩|⟨hw,rfl⟩
 ·rw [if_pos hw]
  refine .inl ?_
  have h1:=hv w hC
  unfold Oper.quietAt at h1
  unfold Oper.wp
  generalize (execOp a.eval o).run P w=r at *
  cases r with
  | ok n w'=>
   cases n<;>simp only [Oper.quietUpon] at h1<;>simp only [Oper.upon]
   case value u=>obtain ⟨e1,e2⟩:=h1;rw [e1,e2];exact h _ zR
   case skip=>obtain ⟨e1,e2⟩:=h1;rw [e1,←e2];exact h _ zR
   case enter f args=>
    obtain ⟨e1,hc⟩:=h1
    rw [e1]
    exact hc.mono fun e w'' ⟨he,hw''⟩=>by subst he;exact h _ hw''
  | halt x w'=>simp only [Oper.quietUpon] at h1
 ·rw [if_neg (by rw [hw];exact Bool.false_ne_true)]
  exact h _ zR
theorem YieldsE.of_same {C:World→Prop} {o:Oper} {v:Value} {a a':Act} (hy:YieldsE P ops C o v a) (he:execOp a'.eval o=execOp a.eval o)
 (hw:Region.wanted o (yielded ops a'.tmps)=Region.wanted o (yielded ops a.tmps)):YieldsE P ops C o v a':=by
 unfold YieldsE Oper.quietAt at *
 rw [he,hw]
 exact hy
theorem wpOp_behind {C:World→Prop} {Q:Exit→Act→World→Prop} {j:Nat} {oi oj:Oper} {v:Value} (hj:ops[j]?=some oj) (hap:oi.apart ops oj=true)
 (hsi : ∀ cs b,oi.op≠.select cs b) (hsj : ∀ cs b,oj.op≠.select cs b) {K:Act→World→Prop} {a:Act} {w:World}
 (hy:YieldsE P ops C oi v a) (h:wpOp P ops (Quiets Q) j K (a.put oi.dst v) w) :
 wpOp P ops (Quiets Q) j (fun a' w'=>YieldsE P ops C oi v a'∧K (a'.put oi.dst v) w') a w:=by
 obtain ⟨h1,h2,h3⟩:=Oper.apart_spec hap
 have keep : ∀ (a:Act),YieldsE P ops C oi v a→∀ u,YieldsE P ops C oi v (a.put oj.dst u):=fun a hy u=>
  hy.of_same (execOp_put oi hsi a oj.dst u h3) (wanted_put oi a oj.dst u h3)
 have comm : ∀ (a:Act) u,(a.put oj.dst u).put oi.dst v=(a.put oi.dst v).put oj.dst u:=fun a u=>(Act.put_comm a v u h2).symm
 unfold wpOp at *
 simp only [hj] at *
 rw [wanted_put oj a oi.dst v h1] at h
 by_cases hw:Region.wanted oj (yielded ops a.tmps)=true
 ·rw [if_pos hw] at h ⊢
  have he:=execOp_put oj hsj a oi.dst v h1
  rcases h with h|h
  ·refine .inl ?_
   unfold Oper.wp at *
   rw [he] at h
   generalize (execOp a.eval oj).run P w=r at *
   cases r with
   | ok n w'=>
    cases n<;>simp only [Oper.upon] at h ⊢
    case value u=>exact ⟨keep a hy u,by rw [comm];exact h⟩
    case skip=>exact ⟨keep a hy _,by rw [comm];exact h⟩
    case defer d=>
     refine ⟨keep { a with defers:=d::a.defers } (hy.of_same rfl rfl) _,?_⟩
     rw [comm,←Act.put_defers]
     exact h
    case enter f args=>
     refine Calls.mono h fun e w'' he=>?_
     cases e with
     | returned u=>exact ⟨keep a hy u,by rw [comm];exact he⟩
     | panicked c=>exact (he:False).elim
     | outgrown=>exact he
    case row row args=>exact Rows.mono h fun u w'' he=>⟨keep a hy u,by rw [comm];exact he⟩
   | halt x w'=>
    cases x<;>simp only [Oper.upon] at h ⊢
    case panic u=>exact (h:False).elim
  ·refine .inr ⟨?_,h.2⟩
   have h4:=h.1
   unfold Oper.asks at *
   rwa [he] at h4
 ·rw [if_neg hw] at h ⊢
  exact ⟨keep a hy _,by rw [comm];exact h⟩
theorem wpAnyE_first {C:World→Prop} (hCE : ∀ w w',C w→Ext w w'→C w') {Q:Exit→Act→World→Prop} {i:Nat} {oi:Oper} {v:Value} (hi:ops[i]?=some oi)
 (hsel : ∀ (j:Nat) (o:Oper) cs b,ops[j]?=some o→o.op≠.select cs b) :
 ∀ (n:Nat) (l:Array Bool) (a:Act) (w:World),
  (∀ j oj,ops[j]?=some oj→j≠i→l.getD j true=false→(∀ e∈oj.after,Region.binds md e=true→e.on≠i)→oi.apart ops oj=true)→
  i∈Region.ready md ops l→YieldsE P ops C oi v a→C w→
  wpAnyE P md ops C Q n (l.setIfInBounds i true) (a.put oi.dst v) w→wpAnyE P md ops C Q (n+1) l a w:=by
 intro n
 induction n with
 | zero=>
  intro l a w _ hr hy hC H w' hw'
  refine ⟨fun h=>(by rw [h] at hr;cases hr),fun j hj=>?_⟩
  by_cases hji:j=i
  ·subst hji
   exact hy.wpOp hi (hCE _ _ hC hw') fun w'' hw''=>⟨hCE _ _ (hCE _ _ hC hw') hw'',wpAnyE_up 0 H (hw'.trans hw'')⟩
  ·have:=ready_mono hj hji
   rw [H.1] at this
   cases this
 | succ n ih=>
  intro l a w hfree hr hy hC H w' hw'
  refine ⟨fun h=>(by rw [h] at hr;cases hr),fun j hj=>?_⟩
  by_cases hji:j=i
  ·subst hji
   exact hy.wpOp hi (hCE _ _ hC hw') fun w'' hw''=>⟨hCE _ _ (hCE _ _ hC hw') hw'',wpAnyE_up (n+1) H (hw'.trans hw'')⟩
  ·have h1:=(H w' hw').2 j (ready_mono hj hji)
   obtain ⟨hjun,oj,hoj,hall⟩:=mem_ready.1 hj
   have hnot : ∀ e∈oj.after,Region.binds md e=true→e.on≠i:=fun e he hb heq=>by
    have h2:=hall e he hb
    have h0:=(mem_ready.1 hr).1
    rw [heq] at h2
    rcases Nat.lt_or_ge i l.size with h' | h'
    ·simp [h'] at h0 h2;rw [h0] at h2;cases h2
    ·simp [Array.getElem?_eq_none h'] at h2
   have h2:=wpOp_behind hoj (hfree j oj hoj hji hjun hnot) (fun cs b=>hsel i oi cs b hi) (fun cs b=>hsel j oj cs b hoj) hy h1
   have hfree' : ∀ k ok,ops[k]?=some ok→k≠i→(l.setIfInBounds j true).getD k true=false→
    (∀ e∈ok.after,Region.binds md e=true→e.on≠i)→oi.apart ops ok=true:=fun k ok hk hki hun hno=>by
    refine hfree k ok hk hki ?_ hno
    by_cases hjk:j=k
    ·subst hjk;exact hjun
    ·rw [getD_set_ne true hjk] at hun;exact hun
   refine wpOp_mono (fun a' w'' h3=>⟨h3.2.1,ih (l.setIfInBounds j true) a' w'' hfree' (ready_mono hr (Ne.symm hji)) h3.1 h3.2.1 ?_⟩) h2
   rw [Array.setIfInBounds_comm _ _ hji]
   exact h3.2.2
def pickT:List Bool→List Oper→List Oper
 | b::m,o::l=>if b then o::pickT m l else pickT m l
 | _,_=>[]
def Region.lexMask (md:Region.Mode) (ops:Array Oper):List Bool→Nat→Array Bool→Option (Array Bool)
 | [],_,l=>some l
 | b::m,k,l=>
  if b then
   if (Region.ready md ops l).contains k && Region.free md ops l k then Region.lexMask md ops m (k+1) (l.setIfInBounds k true) else none
  else Region.lexMask md ops m (k+1) l
def walkE (P:Program) (ops:Array Oper) (C:World→Prop) (af:Act):List Oper→Act→Prop
 | [],a=>a=af
 | o::l,a=>∃ v,YieldsE P ops C o v a∧walkE P ops C af l (a.put o.dst v)
theorem wpAnyE_lex {C:World→Prop} (hCE : ∀ w w',C w→Ext w w'→C w') {Q:Exit→Act→World→Prop} (hs:Region.noSelect ops=true) {af:Act} {le:Array Bool} {g:Nat} :
 ∀ (m:List Bool) (l:List Oper) (k:Nat) (listed:Array Bool) (a:Act) (w:World),m.length=l.length→(∀ j,j<l.length→l[j]?=ops[k+j]?)→Region.lexMask md ops m k listed=some le→
 walkE P ops C af (pickT m l) a→C w→wpAnyE P md ops C Q g le af w→wpAnyE P md ops C Q ((pickT m l).length+g) listed a w
 | [],[],_,_,_,_,_,_,hm,hw,_,h=>by
  simp only [Region.lexMask,Option.some.injEq] at hm
  simp only [pickT,walkE] at hw
  subst hm;subst hw
  simpa [pickT] using h
 | [],_::_,_,_,_,_,hl,_,_,_,_,_=>by simp at hl
 | _::_,[],_,_,_,_,hl,_,_,_,_,_=>by simp at hl
 | b::m,o::l,k,listed,a,w,hl,ho,hm,hw,hC,h=>by
  have h0:ops[k]?=some o:=by simpa using (ho 0 (by simp)).symm
  have hl':m.length=l.length:=by simpa using hl
  have ho' : ∀ j,j<l.length→l[j]?=ops[k+1+j]?:=fun j hj=>by
   have:=ho (j+1) (by simp;omega)
   simpa [Nat.add_assoc,Nat.add_comm 1 j] using this
  cases b
  ·simp only [Region.lexMask,pickT,Bool.false_eq_true,if_false] at hm hw ⊢
   exact wpAnyE_lex hCE hs m l (k+1) listed a w hl' ho' hm hw hC h
  ·simp only [Region.lexMask,pickT,if_true] at hm hw ⊢
   split at hm
   case isFalse=>cases hm
   case isTrue hc=>
    simp only [Bool.and_eq_true] at hc
    obtain ⟨v,hy,hw'⟩:=hw
    have ih:=wpAnyE_lex hCE hs m l (k+1) _ _ w hl' ho' hm hw' hC h
    rw [List.length_cons,show (pickT m l).length+1+g=((pickT m l).length+g)+1 by omega]
    exact wpAnyE_first hCE h0 (Region.noSelect_spec hs) _ listed a w (Region.free_spec h0 hc.2) (by simpa using hc.1) hy hC ih
def dstsOk (n:Nat):List Oper→Bool
 | []=>true
 | o::l=>(match o.dst with|some d=>decide (d<n) && l.all (fun p=>p.dst != some d)|none=>false) && dstsOk n l
theorem put_size (a:Act) (d:Option Tmp) (v:Value):(a.put d v).tmps.size=a.tmps.size:=by
 cases d<;>simp [Act.put]
theorem final_slot {C:World→Prop} {af:Act} {d:Tmp} : ∀ (l:List Oper) (a:Act),l.all (fun p=>p.dst != some d)=true→wpQuiet P ops C (fun a'=>a'=af) l a→af.tmps[d]?=a.tmps[d]?
 | [],a,_,h=>by simp only [wpQuiet] at h;rw [h]
 | o::l,a,hd,h=>by
  simp only [List.all_cons,Bool.and_eq_true] at hd
  have hne:o.dst≠some d:=by simpa using hd.1
  have hput : ∀ v,(a.put o.dst v).tmps[d]?=a.tmps[d]?:=fun v=>by
   cases hx:o.dst with
   | none=>rfl
   | some e=>
    have:e≠d:=fun he=>hne (by rw [hx,he])
    simp [Act.put,Array.getElem?_setIfInBounds_ne this]
  simp only [wpQuiet] at h
  split at h
  ·obtain ⟨v,_,hv⟩:=h
   rw [final_slot l _ hd.2 hv,hput]
  ·rw [final_slot l _ hd.2 h,hput]
theorem quietAt_ext {o:Oper} {a:Act} {w:World} {v:Value} (h:o.quietAt P a (fun w'=>∃ x:ExtOf w,w'=x.val) w v):o.quietAt P a (Ext w) w v:=by
 unfold Oper.quietAt at *
 generalize (execOp a.eval o).run P w=r at *
 cases r with
 | ok n w'=>
  cases n<;>simp only [Oper.quietUpon] at h ⊢
  case value u=>exact h
  case skip=>exact h
  case enter f args=>exact ⟨h.1,h.2.mono fun e w'' ⟨he,x,hx⟩=>⟨he,by rw [hx];exact x.ext⟩⟩
 | halt x w'=>simp only [Oper.quietUpon] at h
theorem walkE_of_quiet {C:World→Prop} {af:Act} (hne : ∃ w,C w) : ∀ (l:List Oper) (a:Act),dstsOk a.tmps.size l=true→
 (∀ w,C w→wpQuiet P ops (fun w'=>∃ x:ExtOf w,w'=x.val) (fun a'=>a'=af) l a)→walkE P ops C af l a
 | [],a,_,h=>by
  obtain ⟨w,hw⟩:=hne
  simpa only [walkE,wpQuiet] using h w hw
 | o::l,a,hd,h=>by
  simp only [dstsOk,Bool.and_eq_true] at hd
  obtain ⟨hd1,hd2⟩:=hd
  cases hx:o.dst with
  | none=>rw [hx] at hd1;cases hd1
  | some d=>
   rw [hx] at hd1
   simp only [Bool.and_eq_true,decide_eq_true_eq] at hd1
   by_cases hw:Region.wanted o (yielded ops a.tmps)=true
   ·obtain ⟨w₀,hw₀⟩:=hne
    have h0:=h w₀ hw₀
    simp only [wpQuiet,hw,if_true] at h0
    obtain ⟨v,_,hv⟩:=h0
    have e0:=final_slot l _ hd1.2 hv
    have key : ∀ w,C w→o.quietAt P a (Ext w) w v∧wpQuiet P ops (fun w'=>∃ x:ExtOf w,w'=x.val) (fun a'=>a'=af) l (a.put o.dst v):=fun w hC=>by
     have h1:=h w hC
     simp only [wpQuiet,hw,if_true] at h1
     obtain ⟨u,hu,hn⟩:=h1
     have e1:=final_slot l _ hd1.2 hn
     rw [e0,hx] at e1
     simp only [Act.put,Array.getElem?_setIfInBounds_self_of_lt hd1.1,Option.some.injEq] at e1
     subst e1
     exact ⟨quietAt_ext (hu w ⟨⟨w,Ext.refl w⟩,rfl⟩),hn⟩
    exact ⟨v,.inl ⟨hw,fun w hC=>(key w hC).1⟩,walkE_of_quiet ⟨w₀,hw₀⟩ l _ (by rw [put_size];exact hd2) fun w hC=>(key w hC).2⟩
   ·have hw':Region.wanted o (yielded ops a.tmps)=false:=by simpa using hw
    refine ⟨undef,.inr ⟨hw',rfl⟩,walkE_of_quiet hne l _ (by rw [put_size];exact hd2) fun w hC=>?_⟩
    have h1:=h w hC
    simpa only [wpQuiet,hw',Bool.false_eq_true,if_false] using h1
def seqMask (md:Region.Mode) (ops:Array Oper):List Bool→Nat→Array Bool→Bool
 | [],_,l=>(Region.ready md ops l).isEmpty
 | b::m,k,l=>if b then seqMask md ops m (k+1) l else decide (Region.ready md ops l=[k]) && seqMask md ops m (k+1) (l.setIfInBounds k true)
def pickF:List Bool→List Oper→List Oper
 | b::m,o::l=>if b then pickF m l else o::pickF m l
 | _,_=>[]
def wpChain (P:Program) (ops:Array Oper) (C:World→Prop) (Q:Exit→Act→World→Prop):List Oper→Act→World→Prop
 | [],a,w=>∀ x:ExtOf w,Q .normal a x.val
 | o::l,a,w=>∀ x:ExtOf w,wpList P ops (Exit.then (fun a' w''=>C w''∧wpChain P ops C Q l a' w'') (Quiets Q)) [o] a x.val
theorem wpAnyE_of_chain {C:World→Prop} {Q:Exit→Act→World→Prop} : ∀ (m:List Bool) (l:List Oper) (k:Nat) (listed:Array Bool) (a:Act) (w:World),m.length=l.length→
 (∀ j,j<l.length→l[j]?=ops[k+j]?)→seqMask md ops m k listed=true→wpChain P ops C Q (pickF m l) a w→wpAnyE P md ops C Q (pickF m l).length listed a w
 | [],[],_,_,_,_,_,_,hm,h=>⟨by simpa [seqMask] using hm,fun w' hw'=>h ⟨w',hw'⟩⟩
 | [],_::_,_,_,_,_,hl,_,_,_=>by simp at hl
 | _::_,[],_,_,_,_,hl,_,_,_=>by simp at hl
 | b::m,o::l,k,listed,a,w,hl,ho,hm,h=>by
  have h0:ops[k]?=some o:=by simpa using (ho 0 (by simp)).symm
  have hl':m.length=l.length:=by simpa using hl
  have ho' : ∀ j,j<l.length→l[j]?=ops[k+1+j]?:=fun j hj=>by
   have:=ho (j+1) (by simp;omega)
   simpa [Nat.add_assoc,Nat.add_comm 1 j] using this
  cases b
  ·simp only [seqMask,pickF,Bool.false_eq_true,if_false,Bool.and_eq_true,decide_eq_true_eq] at hm h ⊢
   intro w' hw'
   refine ⟨fun h1=>(by rw [hm.1] at h1;cases h1),fun i hi=>?_⟩
   rw [hm.1] at hi
   have hik:i=k:=by simpa using hi
   subst hik
   have hw:=h ⟨w',hw'⟩
   simp only [wpList] at hw
   have hop:wpOp P ops (Quiets Q) i (fun a' w''=>C w''∧wpChain P ops C Q (pickF m l) a' w'') a w':=by
    unfold wpOp
    simp only [h0]
    by_cases hwd:Region.wanted o (yielded ops a.tmps)=true
    ·rw [if_pos hwd] at hw ⊢
     rcases hw with hw|hw
     ·refine .inl ?_
      unfold Oper.wp at *
      generalize (execOp a.eval o).run P w'=r at *
      cases r with
      | ok n w2=>
       cases n<;>simp only [Oper.upon] at hw ⊢
       case value u=>exact hw
       case skip=>exact hw
       case defer d=>exact hw
       case enter f args=>
        exact Calls.mono hw fun e w'' he=>by
         cases e with
         | returned u=>exact he
         | panicked c=>exact he
         | outgrown=>exact he
       case row row args=>exact hw
      | halt x w2=>
       cases x<;>simp only [Oper.upon] at hw ⊢
       case panic u=>exact hw
     ·exact .inr ⟨hw.1,hw.2⟩
    ·rw [if_neg hwd] at hw ⊢
     exact hw
   exact wpOp_mono (fun a' w'' h'=>⟨h'.1,wpAnyE_of_chain m l (i+1) _ a' w'' hl' ho' hm.2 h'.2⟩) hop
  ·simp only [seqMask,pickF,if_true] at hm h ⊢
   exact wpAnyE_of_chain m l (k+1) listed a w hl' ho' hm h
def mixB (md:Region.Mode) (ops:Array Oper) (m:List Bool) (l:List Oper) (n:Nat):Bool:=
 Region.noSelect ops && decide (m.length=l.length) && dstsOk n (pickT m l) &&
  (match Region.lexMask md ops m 0 (Array.replicate l.length false) with|some le=>seqMask md ops m 0 le|none=>false)
theorem pick_length : ∀ (m:List Bool) (l:List Oper),m.length=l.length→(pickT m l).length+(pickF m l).length=l.length
 | [],[],_=>rfl
 | [],_::_,h=>by simp at h
 | _::_,[],h=>by simp at h
 | b::m,o::l,h=>by
  have:=pick_length m l (by simpa using h)
  cases b<;>simp [pickT,pickF]<;>omega
theorem wp_region_mix {id:Nat} {Q:Exit→Act→World→Prop} {a af:Act} {w:World} {l:List Oper} (m:List Bool) (n:Nat) (C:World→Prop) (hm:P.follows .mixedOrders=true)
 (hn:a.tmps.size=n) (hB:mixB .any l.toArray m l n=true) (hCE : ∀ w w',C w→Ext w w'→C w') (hC:C w.drew)
 (h : ∀ w',C w'→wpQuiet P l.toArray (fun w''=>∃ x:ExtOf w',w''=x.val) (fun a'=>a'=af) (pickT m l) a)
 (hr:wpChain P l.toArray C Q (pickF m l) af w.drew):(Code.region id l.toArray true).wp P Q a w:=by
 subst hn
 simp only [mixB,Bool.and_eq_true,decide_eq_true_eq] at hB
 obtain ⟨⟨⟨hs,hl⟩,hd⟩,hx⟩:=hB
 split at hx
 case h_2=>cases hx
 case h_1 le hle=>
  have hq:=walkE_of_quiet (P:=P) (ops:=l.toArray) ⟨_,hC⟩ (pickT m l) a hd h
  have hch:=wpAnyE_of_chain (P:=P) (md:=.any) (ops:=l.toArray) (C:=C) (Q:=Q) m l 0 le af w.drew hl (fun j _=>by simp) hx hr
  have:=wpAnyE_lex (P:=P) (md:=.any) (ops:=l.toArray) (Q:=Q) hCE hs m l 0 _ a w.drew hl (fun j _=>by simp) hle hq hC hch
  rw [pick_length m l hl] at this
  refine Code.wp_mono quiets_imp (wp_region_any hm ?_)
  have h2:=wpAny_of_E _ _ _ _ this
  simpa using h2
theorem wp_region_mixE {id:Nat} {Q:Exit→Act→World→Prop} {a af:Act} {w:World} {l:List Oper} (m:List Bool) (n:Nat) (hm:P.follows .mixedOrders=true)
 (hn:a.tmps.size=n) (hB:mixB .any l.toArray m l n=true)
 (h : ∀ x:ExtOf w,wpQuiet P l.toArray (fun w''=>∃ y:ExtOf x.val,w''=y.val) (fun a'=>a'=af) (pickT m l) a)
 (hr:wpChain P l.toArray (Ext w) Q (pickF m l) af w.drew):(Code.region id l.toArray true).wp P Q a w:=
 wp_region_mix m n (Ext w) hm hn hB (fun _ _ h e=>Ext.trans h e) zR.drew (fun w' hw'=>h ⟨w',hw'⟩) hr
theorem wp_region_mixB {id:Nat} {Q:Exit→Act→World→Prop} {a af:Act} {w:World} {l:List Oper} (B:Nat) (hBw:B≤w.heap.size) (m:List Bool) (n:Nat) (hm:P.follows .mixedOrders=true)
 (hn:a.tmps.size=n) (hB:mixB .any l.toArray m l n=true)
 (h : ∀ x:BelOf B w,wpQuiet P l.toArray (fun w''=>∃ y:ExtOf x.val,w''=y.val) (fun a'=>a'=af) (pickT m l) a)
 (hr:wpChain P l.toArray (Below B w) Q (pickF m l) af w.drew):(Code.region id l.toArray true).wp P Q a w:=
 wp_region_mix m n (Below B w) hm hn hB (fun _ _ h e=>bel_ext h e hBw) (Below.refl _ _).drew (fun w' hw'=>h ⟨w',hw'⟩) hr
theorem wp_region_mixX {id:Nat} {Q:Exit→Act→World→Prop} {a af:Act} {w:World} {l:List Oper} (X:Nat) (m:List Bool) (n:Nat) (hm:P.follows .mixedOrders=true)
 (hn:a.tmps.size=n) (hB:mixB .any l.toArray m l n=true)
 (h : ∀ x:ButOf X w,wpQuiet P l.toArray (fun w''=>∃ y:ExtOf x.val,w''=y.val) (fun a'=>a'=af) (pickT m l) a)
 (hr:wpChain P l.toArray (fun w'=>w.grownBy w' (some X)) Q (pickF m l) af w.drew):(Code.region id l.toArray true).wp P Q a w:=
 wp_region_mix m n (fun w'=>w.grownBy w' (some X)) hm hn hB (fun _ _ h e=>but_ext h e) (but_ext (but_refl X w) (Ext.refl w).drew) (fun w' hw'=>h ⟨w',hw'⟩) hr
theorem results_row_tmp {fn:Func} {p u:Tmp} {ty:TypeId} (h:fn.results = #[.cell p ty,.tmp u]) (tmps:Array Value) (w:World) (g:Nat) (t:TypeId) (cs:Array Value) (fr:Nat×Nat) (d:TypeDesc)
 (hp:tmps.getD p undef = .pointer (some ⟨g,0,none⟩)) (hg:w.heap[g]?=some (.cells cs t fr))
 (hu:P.underlying ty=some d) (hd:(match d with | .struct _ | .array _ _=>true|_=>false)=true) (hi:(P.info? ty).map (·.size)=some cs.size) :
 (results fn tmps).run P w = .ok (.tuple #[.agg cs,tmps.getD u undef]) w:=by
 rw [results_cell_tmp h,hp]
 simp [asAddr,run_loadVar_row w g t ty cs fr d hg hu hd hi]
end
end Go.Proofs.YtlnmhocehgmbbaaGreatDoor

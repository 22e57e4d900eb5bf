/- No condition. -/
import Derived.Test.YtlnmhocehgmbbaaGreatDoorWY2
import Derived.Test.YtlnmhocehgmbbaaGreatDoorWY3
import Derived.Test.YtlnmhocehgmbbaaGreatDoorWY4
import Derived.Laws.AppendOwnNone
import Derived.Deep.LoopGhost
import Derived.Laws.Cover3
set_option linter.all false
set_option maxRecDepth 100000
set_option maxHeartbeats 1600000
namespace Go.Proofs.YtlnmhocehgmbbaaGreatDoor
instance:DecidableEq Lt:=fun a b=>decidable_of_iff (a.k=b.k∧a.f=b.f∧a.c=b.c∧a.t=b.t∧a.b=b.b) (by cases a;cases b;simp)
theorem lEq_lt (a b:Lt):lEq a.k a.f a.c a.t a.b b.k b.f b.c b.t b.b=decide (a=b):=by
 cases a;cases b;simp [lEq]
def lchk (l:Lt):Int:=
 if l.k<1∨7<l.k then 110
 else if ¬(l.f=0∨l.f=1) then 110
 else if ¬(l.k=1∨l.k=2∨l.k=4)∧l.f≠0 then 110
 else if ¬(l.k=1∨l.k=2∨l.k=4∨l.k=6)∧l.t≠{ data:=#[] } then 110
 else if ¬(l.k=1∨l.k=4)∧l.b=true then 110
 else if 64<l.t.size then 1
 else 0
theorem lchk_size {l:Lt} (h:lchk l=0):l.t.size≤64∧(l.f=0∨l.f=1)∧1≤l.k∧l.k≤7∧(l.b=true→l.k=1∨l.k=4):=by
 unfold lchk at h
 repeat' (split at h;(first|(exact absurd h (by decide))|skip))
 rename_i h1 h2 h3 h4 h5 h6
 refine ⟨by omega,by omega,by omega,by omega,fun hb=>?_⟩
 by_cases hk:l.k=1∨l.k=4
 ·exact hk
 ·exact absurd ⟨hk,hb⟩ h5
theorem lchk_ok {k f c:Int} {t:ByteArray} (hk:k=1∨k=2∨k=4∨(k=6∧f=0)∨((k=3∨k=5∨k=7)∧f=0∧t = { data:=#[] })) (hf:f=0∨f=1) (ht:t.size≤64):lchk ⟨k,f,c,t,false⟩=0:=by
 unfold lchk
 simp only
 rw [if_neg (by omega),if_neg (by omega),if_neg (by omega),if_neg ?_,if_neg (by simp),if_neg (by omega)]
 rintro ⟨h1,h2⟩
 rcases hk with h|h|h|h|⟨_,_,h⟩
 ·omega
 ·omega
 ·omega
 ·omega
 ·exact h2 h
def rsA (c:Int) (t:ByteArray):Lt:=⟨4,1,c,t,false⟩
def chkA (s:St):Bool:=
 decide (s.r=1∧s.t.size≤64) &&
  (if s.ph=0 then decide (s.t = { data:=#[] }) && decide (s.p=l0)
   else if s.ph=1∨s.ph=2∨s.ph=5∨s.ph=7 then decide (s.p=l0)
   else if s.ph=6 then decide (s.p=sgS s.c s.t 0) || decide (s.p=inS s.c s.t)
   else false)
def toldA (s:St) (l:Lt):Int:=
 if lchk l≠0∨l.b=true∨l.c≠s.c then 0
 else if l=prS s.c s.t 0∨l=sgS s.c s.t 0∨l=inS s.c s.t∨l=tkS s.c then l.k
 else 0
def takesA (s:St) (l:Lt):St×List Ou:=
 if s.ph=1 then (if toldA s l=1 then (⟨s.r,s.c,s.t,2,s.p⟩,[⟨0,prS s.c s.t 1⟩]) else (s,[]))
 else if s.ph=5 then
  (if toldA s l=6 then (⟨s.r,s.c,s.t,6,l⟩,[]) else if toldA s l=5 then (⟨s.r,s.c,s.t,7,s.p⟩,[])
   else if toldA s l=2 then (⟨s.r,s.c,s.t,6,l⟩,[⟨0,sgS s.c s.t 1⟩]) else (s,[]))
 else if s.ph=2 then
  (if toldA s l=2 then (⟨s.r,s.c,s.t,6,l⟩,[⟨0,sgS s.c s.t 1⟩]) else if toldA s l=1 then (s,[⟨0,prS s.c s.t 1⟩]) else (s,[]))
 else if s.ph=6 then (if toldA s l=2 then (s,[⟨0,sgS s.c s.t 1⟩]) else (s,[]))
 else (s,[])
def ticksA (s:St):St×List Ou:=
 if s.ph=1 then (⟨s.r,s.c,s.t,7,s.p⟩,[])
 else if s.ph=2∨s.ph=5 then (⟨s.r,s.c,s.t,5,s.p⟩,[⟨2,rsA s.c s.t⟩])
 else (s,[])
def stepA (s:St) (e:Ev):St×List Ou:=
 if chkA s=true then
  if e.k=2 then takesA s e.l
  else if e.c=s.c then
   if e.k=3 then ticksA s
   else if e.k=1∧s.ph=0∧e.t.size≤64 then (⟨s.r,s.c,e.t,1,s.p⟩,[]) else (s,[])
  else (s,[])
 else (s,[])
def finA (s:St):Bool:=chkA s && (s.ph == 6 || s.ph == 7)
structure Vd where
 c:Int
 k:Int
 t:ByteArray
instance:DecidableEq Vd:=fun a b=>decidable_of_iff (a.c=b.c∧a.k=b.k∧a.t=b.t) (by cases a;cases b;simp)
def v0:Vd:=⟨0,0,{ data:=#[] }⟩
def saysS (v:Vd):Option Lt:=
 if v.k=1∧v.t = { data:=#[] } then some ⟨5,0,v.c,{ data:=#[] },false⟩
 else if v.k=2∧v.t.size≤64 then some ⟨6,0,v.c,v.t,false⟩
 else none
structure Ex where
 c:Int
 s0:St
 s1:St
 v:Vd
 b0:Bool
 b1:Bool
 full:Bool
 h:List Lt
structure Mv where
 k:Int
 who:Int
 t:ByteArray
 l:Lt
 lost:Bool
def Ex.bad (x:Ex) (who:Int):Bool:=if who=0 then x.b0 else x.b1
def Ex.st (x:Ex) (who:Int):St:=if who=0 then x.s0 else x.s1
def newX (c:Int):Ex:=⟨c,⟨0,c,{ data:=#[] },0,l0⟩,⟨1,c,{ data:=#[] },0,l0⟩,v0,false,false,false,[]⟩
def wishS (h:List Lt) (l:Lt):Bool:=h.any fun x=>x.k == 4 && (x.b == l.b && decide (x.t=l.t))
def canP (x:Ex) (l:Lt):Bool:=
 if lchk l≠0∨l.c≠x.c then false
 else if l∈x.h then true
 else x.bad (if l.b=true then 1 - l.f else l.f) || wishS x.h l
def canS (x:Ex) (l:Lt):Bool:=
 if lchk l≠0∨l.c≠x.c then false
 else if l∈x.h then true
 else if l.k=1 then x.bad (if l.b=true then 1 - l.f else l.f) || wishS x.h l
 else if l.k=2 then x.bad l.f
 else if l.k=3 then x.b0
 else if l.k=4 then x.bad l.f && (canP x ⟨1,0,l.c,l.t,l.b⟩ && canP x ⟨1,1,l.c,l.t,l.b⟩)
 else decide (l.k=7)
def hearS (h:List Lt) (lost:Bool) (l:Lt):List Lt:=if lost=true∨l∈h then h else h++[l]
def hearsS (h:List Lt) (lost:Bool) (ls:List Lt):List Lt:=ls.foldl (fun h l=>hearS h lost l) h
def askV (x:Ex) (l:Lt):Vd:=if x.v.k=0∧x.full=false then (if l.k=4∧l.b=false then ⟨x.c,2,l.t⟩ else ⟨x.c,1,{ data:=#[] }⟩) else x.v
def tellS (c:Int) (v:Vd):Lt:=(saysS v).getD ⟨7,0,c,{ data:=#[] },false⟩
def askX (x:Ex) (m:Mv):Ex:=
 if (m.l.k=4∧m.l.b=false)∨m.l.k=3 then { x with v:=askV x m.l,h:=hearS x.h m.lost (tellS x.c (askV x m.l)) }
 else x
def evX (x:Ex) (m:Mv):Ev:=
 if m.k=1 then ⟨1,x.c,m.t,l0⟩ else if m.k=2 then ⟨2,x.c,{ data:=#[] },m.l⟩ else ⟨3,x.c,{ data:=#[] },l0⟩
def partyX (x:Ex) (m:Mv):Ex:=
 if m.who=0 then { x with s0:=(stepS x.s0 (evX x m)).1,h:=hearsS x.h m.lost ((stepS x.s0 (evX x m)).2.map (·.l)) }
 else { x with s1:=(stepA x.s1 (evX x m)).1,h:=hearsS x.h m.lost ((stepA x.s1 (evX x m)).2.map (·.l)) }
def stepX (x:Ex) (m:Mv):Ex×Bool:=
 if m.k=4 then (if canS x m.l=true then (askX x m,true) else (x,false))
 else if m.k=6 then ({ x with full:=true },true)
 else if m.who=0∨m.who=1 then
  if m.k=5 then ((if m.who=0 then { x with b0:=true } else { x with b1:=true }),true)
  else if m.k=1∨m.k=3∨(m.k=2∧canS x m.l=true) then
   if x.bad m.who=true then (x,false) else (partyX x m,true)
  else (x,false)
 else (x,false)
def boundX (x:Ex) (who:Int):List Lt:=x.h.filter fun l=>(l.k == 2 && l.f == who) || l.k == 6
def saidX (x:Ex):Lt:=(saysS x.v).getD l0
def holds1 (x:Ex):Bool:=(!x.b0 && (x.s0.ph == 7 && decide (0<(boundX x 0).length))) || (!x.b1 && (x.s1.ph == 7 && decide (0<(boundX x 1).length)))
def holds2 (x:Ex):Bool:=(!x.b0 && (x.s0.ph == 6 && !canS x x.s0.p)) || (!x.b1 && (x.s1.ph == 6 && !canS x x.s1.p))
def holds3 (x:Ex):Bool:=x.h.any (·.k == 5) && x.h.any (·.k == 6)
def holds4 (x:Ex):Bool:=(!x.b0 && !x.b1) && ((x.s0.ph == 6 && x.s1.ph == 7) || (x.s0.ph == 7 && x.s1.ph == 6))
def holds5 (x:Ex):Bool:=x.h.any fun l=>(l.k == 5 || l.k == 6) && !decide (l=saidX x)
def okX (x:Ex):Bool:=!(holds1 x || (holds2 x || (holds3 x || (holds4 x || holds5 x))))
def finX (x:Ex) (who:Int):Bool:=if who=0 then finS x.s0 else if who=1 then finA x.s1 else false
inductive EdgeO (s:St) (e:Ev):St×List Ou→Prop
 | same:EdgeO s e (s,[])
 | start (h0:s.ph=0) (ht:e.t.size≤64):EdgeO s e (⟨s.r,s.c,e.t,2,s.p⟩,[⟨1,prS s.c e.t 0⟩])
 | sign (h0:s.ph=2∨s.ph=3) (hk:e.k=2) (hl:e.l=prS s.c s.t 1):EdgeO s e (⟨s.r,s.c,s.t,3,s.p⟩,[⟨1,sgS s.c s.t 0⟩])
 | abort (h0:s.ph=2∨s.ph=4):EdgeO s e (⟨s.r,s.c,s.t,4,s.p⟩,[⟨2,abS s.c⟩])
 | resolve (h0:s.ph=3∨s.ph=5):EdgeO s e (⟨s.r,s.c,s.t,5,s.p⟩,[⟨2,rsS s.c s.t⟩])
 | signed (h0:s.ph=3∨s.ph=5) (hk:e.k=2) (hl:e.l=sgS s.c s.t 1):EdgeO s e (⟨s.r,s.c,s.t,6,e.l⟩,[])
 | token (h0:s.ph=4) (hk:e.k=2) (hl:e.l=tkS s.c):EdgeO s e (⟨s.r,s.c,s.t,7,s.p⟩,[])
 | instead (h0:s.ph=4∨s.ph=5) (hk:e.k=2) (hl:e.l=inS s.c s.t):EdgeO s e (⟨s.r,s.c,s.t,6,e.l⟩,[])
theorem lt_eta {a b:Lt} (h:lEq a.k a.f a.c a.t a.b b.k b.f b.c b.t b.b=true):a=b:=by
 rw [lEq_lt] at h;simpa using h
theorem edge_o (s:St) (e:Ev):EdgeO s e (stepS s e):=by
 by_cases hc:chkS s=true
 ·by_cases h0:s.ph=0
  ·unfold stepS
   rw [if_pos hc,if_pos h0]
   split
   ·rename_i h
    exact .start h0 h.2.2
   ·exact .same
  ·rcases step_cases s e with h1|⟨h1,_⟩|⟨x,hx,_,_,ht,h1⟩
   ·rw [h1];exact .same
   ·exact absurd h1 h0
   ·rw [h1]
    have key : ∀ l:Lt,takesS false l.k l.f l.c l.t l.b s.c e.k e.c e.l.k e.l.f e.l.c e.l.t e.l.b=true→e.k=2∧e.l=l:=fun l h=>by
     unfold takesS at h
     simp only [Bool.false_eq_true,if_false,Bool.and_eq_true,decide_eq_true_eq] at h
     exact ⟨h.1,lt_eta h.2⟩
    have fin : ∀ l:Lt,e.l=l→(⟨s.r,s.c,s.t,6,l⟩:St)=⟨s.r,s.c,s.t,6,e.l⟩:=fun l h=>by rw [h]
    rcases rows_mem hx with ⟨hp,hr⟩|⟨hp,hr⟩|⟨hp,hr⟩|⟨hp,hr⟩
    ·rcases hr with rfl|rfl
     ·obtain ⟨hk,hl⟩:=key _ ht
      exact .sign (.inl hp) hk hl
     ·exact .abort (.inl hp)
    ·rcases hr with rfl|rfl|rfl
     ·obtain ⟨hk,hl⟩:=key _ ht
      exact .sign (.inr hp) hk hl
     ·obtain ⟨hk,hl⟩:=key _ ht
      have:=EdgeO.signed (s:=s) (e:=e) (.inl hp) hk hl
      rw [hl] at this
      exact this
     ·exact .resolve (.inl hp)
    ·rcases hr with rfl|rfl|rfl
     ·exact .abort (.inr hp)
     ·obtain ⟨hk,hl⟩:=key _ ht
      exact .token hp hk hl
     ·obtain ⟨hk,hl⟩:=key _ ht
      have:=EdgeO.instead (s:=s) (e:=e) (.inl hp) hk hl
      rw [hl] at this
      exact this
    ·rcases hr with rfl|rfl|rfl
     ·exact .resolve (.inr hp)
     ·obtain ⟨hk,hl⟩:=key _ ht
      have:=EdgeO.signed (s:=s) (e:=e) (.inr hp) hk hl
      rw [hl] at this
      exact this
     ·obtain ⟨hk,hl⟩:=key _ ht
      have:=EdgeO.instead (s:=s) (e:=e) (.inr hp) hk hl
      rw [hl] at this
      exact this
 ·have:stepS s e=(s,[]):=stepS_A s e (by simpa using hc)
  rw [this];exact .same
inductive EdgeA (s:St) (e:Ev):St×List Ou→Prop
 | same:EdgeA s e (s,[])
 | start (h0:s.ph=0) (ht:e.t.size≤64):EdgeA s e (⟨s.r,s.c,e.t,1,s.p⟩,[])
 | promise (h0:s.ph=1):EdgeA s e (⟨s.r,s.c,s.t,2,s.p⟩,[⟨0,prS s.c s.t 1⟩])
 | again (h0:s.ph=2):EdgeA s e (s,[⟨0,prS s.c s.t 1⟩])
 | signed (h0:s.ph=2∨s.ph=5) (hk:e.k=2) (hl:e.l=sgS s.c s.t 0):EdgeA s e (⟨s.r,s.c,s.t,6,e.l⟩,[⟨0,sgS s.c s.t 1⟩])
 | told (h0:s.ph=6):EdgeA s e (s,[⟨0,sgS s.c s.t 1⟩])
 | instead (h0:s.ph=5) (hk:e.k=2) (hl:e.l=inS s.c s.t):EdgeA s e (⟨s.r,s.c,s.t,6,e.l⟩,[])
 | token (h0:s.ph=5) (hk:e.k=2) (hl:e.l=tkS s.c):EdgeA s e (⟨s.r,s.c,s.t,7,s.p⟩,[])
 | quit (h0:s.ph=1):EdgeA s e (⟨s.r,s.c,s.t,7,s.p⟩,[])
 | resolve (h0:s.ph=2∨s.ph=5):EdgeA s e (⟨s.r,s.c,s.t,5,s.p⟩,[⟨2,rsA s.c s.t⟩])
theorem told_of {s:St} {l:Lt} {k:Int} (h:toldA s l=k) (hk:k≠0):l.k=k∧(l=prS s.c s.t 0∨l=sgS s.c s.t 0∨l=inS s.c s.t∨l=tkS s.c):=by
 unfold toldA at h
 split at h
 ·exact absurd h.symm hk
 ·split at h
  ·exact ⟨h,‹_›⟩
  ·exact absurd h.symm hk
theorem told_2 {s:St} {l:Lt} (h:toldA s l=2):l=sgS s.c s.t 0:=by
 obtain ⟨hk,h1|h1|h1|h1⟩:=told_of h (by decide)
 ·rw [h1] at hk;exact absurd hk (by simp [prS])
 ·exact h1
 ·rw [h1] at hk;exact absurd hk (by simp [inS])
 ·rw [h1] at hk;exact absurd hk (by simp [tkS])
theorem told_6 {s:St} {l:Lt} (h:toldA s l=6):l=inS s.c s.t:=by
 obtain ⟨hk,h1|h1|h1|h1⟩:=told_of h (by decide)
 ·rw [h1] at hk;exact absurd hk (by simp [prS])
 ·rw [h1] at hk;exact absurd hk (by simp [sgS])
 ·exact h1
 ·rw [h1] at hk;exact absurd hk (by simp [tkS])
theorem told_5 {s:St} {l:Lt} (h:toldA s l=5):l=tkS s.c:=by
 obtain ⟨hk,h1|h1|h1|h1⟩:=told_of h (by decide)
 ·rw [h1] at hk;exact absurd hk (by simp [prS])
 ·rw [h1] at hk;exact absurd hk (by simp [sgS])
 ·rw [h1] at hk;exact absurd hk (by simp [inS])
 ·exact h1
theorem edge_a (s:St) (e:Ev):EdgeA s e (stepA s e):=by
 unfold stepA
 split
 ·split
  ·rename_i hk
   unfold takesA
   split
   ·split
    ·exact .promise ‹_›
    ·exact .same
   ·split
    ·split
     ·exact .instead ‹_› hk (told_6 ‹_›)
     ·split
      ·exact .token ‹_› hk (told_5 ‹_›)
      ·split
       ·exact .signed (.inr ‹_›) hk (told_2 ‹_›)
       ·exact .same
    ·split
     ·split
      ·exact .signed (.inl ‹_›) hk (told_2 ‹_›)
      ·split
       ·exact .again ‹_›
       ·exact .same
     ·split
      ·split
       ·exact .told ‹_›
       ·exact .same
      ·exact .same
  ·split
   ·split
    ·unfold ticksA
     split
     ·exact .quit ‹_›
     ·split
      ·exact .resolve ‹_›
      ·exact .same
    ·split
     ·rename_i h
      exact .start h.2.1 h.2.2
     ·exact .same
   ·exact .same
 ·exact .same
structure HeardOk (x:Ex) (l:Lt):Prop where
 c:l.c=x.c
 chk:lchk l=0
 b:l.b=false
 f:l.f=0∨l.f=1
 own:l.k=1∨l.k=2∨l.k=4→l.t=(x.st l.f).t∧(x.st l.f).ph≠0
 tok:l.k=5→x.v=⟨x.c,1,{ data:=#[] }⟩∧l=tkS x.c
 ins:l.k=6→x.v=⟨x.c,2,l.t⟩∧l=inS x.c l.t
def Q1 (x:Ex):Prop:=x.b1=true∨x.s1.ph=2∨x.s1.ph=5∨x.s1.ph=6∨(x.s1.ph=7∧x.v.k=1)
structure Inv2 (cn:Int) (x:Ex):Prop where
 c:x.c=cn
 c0:x.s0.c=cn
 c1:x.s1.c=cn
 k0:chkS x.s0=true
 k1:chkA x.s1=true
 v:x.v=v0∨x.v=⟨cn,1,{ data:=#[] }⟩∨(x.v.c=cn∧x.v.k=2∧x.v.t.size≤64)
 nd:x.h.Nodup
 h : ∀ l∈x.h,HeardOk x l
 p0 : ∀ l∈x.h,l.k=2→l.f=0→x.b0=true∨x.s0.ph=3∨x.s0.ph=5∨x.s0.ph=6
 p1 : ∀ l∈x.h,l.k=2→l.f=1→x.b1=true∨x.s1.ph=6
 q1 : ∀ l∈x.h,(l.k=1∧l.f=1)∨l.k=4→Q1 x
 r0:x.s0.ph=3∨x.s0.ph=5→Q1 x
 qv:x.v.k=2→Q1 x
 f0:x.b0=false→x.s0.ph=6→canS x x.s0.p=true
 f1:x.b1=false→x.s1.ph=6→canS x x.s1.p=true
 a0:x.b0=false→x.s0.ph=7→x.v.k=1
structure Grows (x y:Ex):Prop where
 c:y.c=x.c
 h : ∀ l∈x.h,l∈y.h
 b0:x.b0=true→y.b0=true
 b1:x.b1=true→y.b1=true
theorem Grows.bad {x y:Ex} (g:Grows x y) {n:Int} (h:x.bad n=true):y.bad n=true:=by
 unfold Ex.bad at *
 split<;>simp_all [g.b0,g.b1]
 all_goals first|exact g.b0 h|exact g.b1 h
theorem Grows.wish {x y:Ex} (g:Grows x y) {l:Lt} (h:wishS x.h l=true):wishS y.h l=true:=by
 unfold wishS at *
 rw [List.any_eq_true] at *
 obtain ⟨z,hz,h⟩:=h
 exact ⟨z,g.h z hz,h⟩
theorem Grows.canP {x y:Ex} (g:Grows x y) {l:Lt} (h:canP x l=true):canP y l=true:=by
 unfold Proofs.YtlnmhocehgmbbaaGreatDoor.canP at *
 rw [g.c]
 split at h
 ·cases h
 ·rename_i h1
  rw [if_neg h1]
  split at h
  ·rename_i h2
   rw [if_pos (g.h _ h2)]
  ·split
   ·rfl
   ·simp only [Bool.or_eq_true] at h ⊢
    exact h.imp g.bad g.wish
theorem Grows.canS {x y:Ex} (g:Grows x y) {l:Lt} (h:canS x l=true):canS y l=true:=by
 unfold Proofs.YtlnmhocehgmbbaaGreatDoor.canS at *
 rw [g.c]
 split at h
 ·cases h
 ·rename_i h1
  rw [if_neg h1]
  split at h
  ·rename_i h2
   rw [if_pos (g.h _ h2)]
  ·split
   ·rfl
   ·split at h
    ·rename_i hk
     rw [if_pos hk]
     simp only [Bool.or_eq_true] at h ⊢
     exact h.imp g.bad g.wish
    ·rename_i k1
     rw [if_neg k1]
     split at h
     ·rename_i hk
      rw [if_pos hk];exact g.bad h
     ·rename_i k2
      rw [if_neg k2]
      split at h
      ·rename_i hk
       rw [if_pos hk];exact g.b0 h
      ·rename_i k3
       rw [if_neg k3]
       split at h
       ·rename_i hk
        rw [if_pos hk]
        simp only [Bool.and_eq_true] at h ⊢
        exact ⟨g.bad h.1,g.canP h.2.1,g.canP h.2.2⟩
       ·rename_i k4
        rw [if_neg k4];exact h
theorem hears_nil (h:List Lt) (lost:Bool):hearsS h lost []=h:=rfl
theorem hears_one (h:List Lt) (lost:Bool) (l:Lt):hearsS h lost [l]=hearS h lost l:=rfl
theorem Inv2.wish {c:Int} {x:Ex} (i:Inv2 c x) {l:Lt} (h:wishS x.h l=true):Q1 x:=by
 unfold wishS at h
 rw [List.any_eq_true] at h
 obtain ⟨z,hz,h⟩:=h
 simp only [Bool.and_eq_true,beq_iff_eq] at h
 exact i.q1 z hz (.inr h.1)
theorem Inv2.promise {c:Int} {x:Ex} (i:Inv2 c x) {l:Lt} (hk:l.k=1) (hf:l.f=1) (hb:l.b=false) (h:canP x l=true):Q1 x:=by
 unfold canP at h
 split at h
 ·cases h
 ·split at h
  ·exact i.q1 l ‹_› (.inl ⟨hk,hf⟩)
  ·simp only [Bool.or_eq_true] at h
   rcases h with h|h
   ·rw [hb,if_neg (by simp),hf] at h
    exact .inl h
   ·exact i.wish h
theorem Inv2.resolve {c:Int} {x:Ex} (i:Inv2 c x) {l:Lt} (hk:l.k=4) (hb:l.b=false) (h:canS x l=true):Q1 x:=by
 unfold canS at h
 split at h
 ·cases h
 ·split at h
  ·exact i.q1 l ‹_› (.inr hk)
  ·simp [hk] at h
   exact i.promise (l:=⟨1,1,l.c,l.t,l.b⟩) rfl rfl hb h.2.2
structure Ok0 (x:Ex) (s':St) (ls:List Lt):Prop where
 c:s'.c=x.s0.c
 k:chkS s'=true
 t:x.s0.ph≠0→s'.t=x.s0.t∧s'.ph≠0
 h : ∀ l∈ls,l.c=x.c∧lchk l=0∧l.b=false∧l.f=0∧l.k≠5∧l.k≠6∧(l.k=1∨l.k=2∨l.k=4→l.t=s'.t∧s'.ph≠0)
 p0 : ∀ l∈ls,l.k=2→s'.ph=3∨s'.ph=5∨s'.ph=6
 p0':x.s0.ph=3∨x.s0.ph=5∨x.s0.ph=6→s'.ph=3∨s'.ph=5∨s'.ph=6
 q1 : ∀ l∈ls,l.k=4→Q1 x
 r0:s'.ph=3∨s'.ph=5→Q1 x
 f0:s'.ph=6→canS x s'.p=true
 a0:s'.ph=7→x.v.k=1
structure Ok1 (x:Ex) (s':St) (ls:List Lt):Prop where
 c:s'.c=x.s1.c
 k:chkA s'=true
 t:x.s1.ph≠0→s'.t=x.s1.t∧s'.ph≠0
 h : ∀ l∈ls,l.c=x.c∧lchk l=0∧l.b=false∧l.f=1∧l.k≠5∧l.k≠6∧(l.k=1∨l.k=2∨l.k=4→l.t=s'.t∧s'.ph≠0)
 p1 : ∀ l∈ls,l.k=2→s'.ph=6
 p1':x.s1.ph=6→s'.ph=6
 q1 : ∀ l∈ls,l.k=1∨l.k=4→s'.ph=2∨s'.ph=5∨s'.ph=6
 q1':x.s1.ph=2∨x.s1.ph=5∨x.s1.ph=6∨(x.s1.ph=7∧x.v.k=1)→s'.ph=2∨s'.ph=5∨s'.ph=6∨(s'.ph=7∧x.v.k=1)
 f1:s'.ph=6→canS x s'.p=true
structure Kept (cn:Int) (x y:Ex):Prop where
 inv:Inv2 cn y
 g:Grows x y
 v:x.v.k≠0→y.v=x.v
 fin : ∀ who,who=0∨who=1→finX x who=true→y.st who=x.st who
end Go.Proofs.YtlnmhocehgmbbaaGreatDoor
namespace Go.Proofs.YtlnmhocehgmbbaaGreatDoor
open Go.RowKit
section
variable {P:Program} {ops:Array Oper} {C:World→Prop} {Q:Exit→Act→World→Prop}
end
theorem wpList_app4 {P:Program} {ops:Array Oper} {rest:List Oper} {o:Oper} {a:Act} {Q:Exit→Act→World→Prop} {w:World} (B:Nat) (t e:TypeId) (i:TypeInfo) (z:Value) (size bytes:Nat)
 (ht:P.underlying t=some (.slice e)) (hi:P.info? e=some i) (hz:i.zero=some z) (hsize:i.size=size) (hby:i.bytes=bytes) (hzs:z.cells.size=size) (hsz:0<size)
 (hgd:o.guard=none) (s x:Operand) (ho:o.op = .call { callee:=.builtin .append,args:=#[s,x],argTypes:=#[t,t] })
 (v:Value) (n:Nat) (xs:List Value) (hs:a.eval s=v) (hown:w.ownsRow B e size v n xs) (hB:B≤w.heap.size)
 (v2:Value) (m:Nat) (news:List Value) (hx:a.eval x=v2) (hrow:Row w size v2 m news) (hnil:v2 = .slice none 0 0∨∃ a n c,v2 = .slice (some a) n c) (h1 : ∀ u∈news,u.oneCell'=true)
 (h63:n+m≤maxLen) (hbytes:(n+m)*bytes≤140737488355328)
 (h : ∀ v' w',w'.ownsRow B e size v' (n+m) (xs++news)→Below B w w'→w.grownBy w' v.ownBlock→wpList P ops Q rest (a.put o.dst v') w'):wpList P ops Q (o::rest) a w:=by
 rcases hnil with hnil|⟨ad,n',c',hnil⟩
 ·have hm0:m=0:=by
   rcases hrow.2 with ⟨h0,_⟩|⟨g,off,cap,hv,_⟩
   ·exact h0
   ·rw [hnil] at hv;cases hv
  subst hm0
  have hnews:news=[]:=List.length_eq_zero_iff.1 (by simpa using hrow.1)
  subst hnews
  refine wpList_append_own_none hgd s x t ho B e i size ht hi v n xs hs hown (by rw [hx,hnil]) (h v w (by simpa using hown) (Below.refl _ _) ⟨rfl,rfl,rfl,Nat.le_refl _,fun _ _ _=>rfl⟩)
 ·have key:v2 = .slice (some ad) m c'∧∀ j u,news[j]?=some u→w.cell? (ad.add j)=some u:=by
   rcases hrow.2 with ⟨h0,a',c2,hv⟩|⟨g,off,cap,hv,_,hc⟩
   ·rw [hnil] at hv
    simp only [Value.slice.injEq] at hv
    refine ⟨by rw [hnil,hv.2.1,h0],fun j u hj=>?_⟩
    have:news=[]:=List.length_eq_zero_iff.1 (by rw [hrow.1,h0,Nat.zero_mul])
    rw [this] at hj;simp at hj
   ·rw [hnil] at hv
    simp only [Value.slice.injEq,Option.some.injEq] at hv
    refine ⟨by rw [hnil,hv.2.1],fun j u hj=>?_⟩
    rw [hv.1]
    have:(⟨g,off,none⟩:Addr).add j=⟨g,off+j,none⟩:=by unfold Addr.add;split<;>simp_all
    rw [this];exact hc j u hj
  exact wpList_append_own w hgd s x t ho B e i z size bytes ht hi hz hsize hby hzs hsz v n xs hs hown ad m c' news (by rw [hx,key.1]) hrow.1 key.2 h1 h63 hbytes hB
   fun v' w' k1 k2 _=>h v' w' k1 (Below.grown (Below.refl _ _) k2 hB fun k hk=>(hown.lt k hk).1) k2
theorem cell_keep {w w':World} {a:Addr} {v:Value} (h:w.cell? a=some v) (e:Ext w w'):w'.cell? a=some v:=by
 rw [Below.cell e (World.block_lt_of_cell? w _ h)];exact h
theorem row_view {w:World} {size:Nat} {v:Value} {n:Nat} {xs:List Value} (h:Row w size v n xs) :
 ∃ a cap,v = .slice a n cap∧n≤maxLen∧(0<n→∃ g off,a=some ⟨g,off,none⟩∧(0<size→g<w.heap.size)∧∀ j u,xs[j]?=some u→w.cell? ⟨g,off+j,none⟩=some u):=by
 obtain ⟨hl,h0⟩:=h
 rcases h0 with ⟨hn,a,c,hv⟩|⟨g,off,cap,hv,hm,hc⟩
 ·exact ⟨a,c,by rw [hv,hn],by omega,fun h=>by omega⟩
 ·refine ⟨_,cap,hv,hm,fun hn=>⟨g,off,rfl,fun hs=>?_,hc⟩⟩
  have h0:0<xs.length:=by rw [hl];exact Nat.mul_pos hn hs
  have:=hc 0 _ (zG h0)
  exact World.block_lt_of_cell? w _ this
theorem lt_cellsO {w:World} {g off:Nat} {L:List Lt} {k:Nat} {x:Lt} (h : ∀ j u,(L.flatMap Lt.cs)[j]?=some u→w.cell? ⟨g,off+j,none⟩=some u) (hx:L[k]?=some x) :
 w.cell? ⟨g,off+k*5,none⟩=some (.int .i64 x.k)∧w.cell? ⟨g,off+k*5+1,none⟩=some (.int .i64 x.f)∧w.cell? ⟨g,off+k*5+2,none⟩=some (.int .u64 x.c)∧w.cell? ⟨g,off+k*5+3,none⟩=some (.string x.t)∧w.cell? ⟨g,off+k*5+4,none⟩=some (.bool x.b):=by
 have key:=fun j hj=>flat_get Lt.cs 5 (fun _=>rfl) L k x hx j hj
 refine ⟨h _ _ (key 0 (by omega)),?_,?_,?_,?_⟩
 ·rw [Nat.add_assoc];exact h _ _ (key 1 (by omega))
 ·rw [Nat.add_assoc];exact h _ _ (key 2 (by omega))
 ·rw [Nat.add_assoc];exact h _ _ (key 3 (by omega))
 ·rw [Nat.add_assoc];exact h _ _ (key 4 (by omega))
def vEq (c k:Int) (t:ByteArray) (c' k':Int) (t':ByteArray):Bool:=decide (c=c'∧k=k'∧t=t')
theorem vEq_vd (a b:Vd):vEq a.c a.k a.t b.c b.k b.t=decide (a=b):=by cases a;cases b;simp [vEq]
theorem eql_vEq (c k:Int) (t:ByteArray) (c' k':Int) (t':ByteArray) (w:World):(binOp .eql 29 (.agg #[.int .u64 c,.int .i64 k,.string t]) (.agg #[.int .u64 c',.int .i64 k',.string t'])).run Tryz.prog w = .ok (.bool (vEq c k t c' k' t')) w:=by
 simp [go_sem,toList_beq,vEq]
 by_cases h_c:c=c'
 case neg=>simp [h_c]
 by_cases h_k:k=k'
 case neg=>simp [h_k]
 by_cases h_t:t=t'
 case neg=>simp [h_t]
 simp [h_c,h_k,h_t]
theorem neq_vEq (c k:Int) (t:ByteArray) (c' k':Int) (t':ByteArray) (w:World):(binOp .neq 29 (.agg #[.int .u64 c,.int .i64 k,.string t]) (.agg #[.int .u64 c',.int .i64 k',.string t'])).run Tryz.prog w = .ok (.bool (!(vEq c k t c' k' t'))) w:=by
 simp [go_sem,toList_beq,vEq]
 by_cases h_c:c=c'
 case neg=>simp [h_c]
 by_cases h_k:k=k'
 case neg=>simp [h_k]
 by_cases h_t:t=t'
 case neg=>simp [h_t]
 simp [h_c,h_k,h_t]
theorem eql_nil (a:Option Addr) (l c:Nat) (w:World):(binOp .eql 31 (.slice a l c) (.slice none 0 0)).run Tryz.prog w = .ok (.bool a.isNone) w:=by
 simp only [binOp]
 simp [run_equal_slice_nil w 31 24 a l c zu31]
def Hd2 (p:Prop):Prop:=p
theorem unHd {p:Prop} (h:Hd2 p):p:=h
theorem mem_of_get {L:List Lt} {k:Nat} {x:Lt} (h:L[k]?=some x):x∈L:=zE h
theorem not_mem_of_all {L:List Lt} {l:Lt} (h : ∀ (j:Nat) z,L[j]?=some z→z≠l):l∉L:=fun hm=>by
 obtain ⟨j,hj⟩:=List.getElem?_of_mem hm
 exact h j l hj rfl
end Go.Proofs.YtlnmhocehgmbbaaGreatDoor
namespace Go.Proofs.YtlnmhocehgmbbaaGreatDoor
open Go.RowKit
attribute [local go_sem ↓] eql_lEq eql_sEq eql_eEq eql_oEq neq_lEq neq_sEq neq_eEq neq_oEq eql_vEq neq_vEq eql_nil
attribute [local go_sem] ExtOf.cell ExtOf.frozen ExtOf.lt ExtOf.le
attribute [local go_sem high] ExtOf.cell2 ExtOf.frozen2 ExtOf.lt2 ExtOf.cell3 ExtOf.frozen3 ExtOf.lt3
theorem sl_index (v:Value) (L:List Lt) (l:Lt) (w:World) (hR:Row w 5 v L.length (L.flatMap Lt.cs)) :
 Calls Tryz.prog 82 #[v,.agg #[.int .i64 l.k,.int .i64 l.f,.int .u64 l.c,.string l.t,.bool l.b]] w fun e w'=>∃ n:Int,e = .returned (.int .i64 n)∧decide (0≤n)=decide (l∈L)∧Ext w w':=by
 obtain ⟨a,cap,rfl,hm,hvw⟩:=row_view hR
 have HV:=zd hvw
 clear hvw hR
 unfold maxLen at hm
 go_enter Tryz.func82,Tryz.ntmps82
 go_wp2_with fail
 refine wp_forget (fun w'=>w'.heap[w.heap.size]?=some (.cells #[.int .i64 l.k,.int .i64 l.f,.int .u64 l.c,.string l.t,.bool l.b] 24 (0,0))∧Ext w w') ⟨heap_new rfl,zR.alloc _⟩ ?_
 rintro W1 ⟨h1,x1⟩
 have c1:=zQ h1
 have l1:w.heap.size<W1.heap.size:=zL h1
 have X1:=zd x1
 clear h1 x1
 go_loopg [8] L.length (fun g ii wr=>∃ (n:Nat) (y:ExtOf W1),ii = .int .i64 (n:Int)∧n+g=L.length∧wr=y.val∧Hid (∀ (j:Nat) z,j<n→L[j]?=some z→z≠l))
 case atStart=>exact ⟨0,⟨W1,zR⟩,rfl,by omega,rfl,zd fun _ _ h=>by omega⟩
 case round=>
  obtain ⟨n,y,rfl,hg,rfl,HN⟩:=hrel
  by_cases hlt:n<L.length
  ·obtain ⟨g,off,rfl,hgl,hcell⟩:=HV.out (by omega)
   have hgl:=hgl (by omega)
   obtain ⟨x,hx⟩ : ∃ x,L[n]?=some x:=⟨_,zG hlt⟩
   obtain ⟨q0,q1,q2,q3,q4⟩:=lt_cellsO (fun j u hj=>cell_keep (hcell j u hj) X1.out) hx
   have HX:=zd hx
   have hgl1:g<W1.heap.size:=zU hgl X1.out.size
   clear hx hcell hgl
   have hlt':(n:Int)<(L.length:Int):=by omega
   by_cases he:l=x
   ·have he':lEq l.k l.f l.c l.t l.b x.k x.f x.c x.t x.b=true:=by rw [lEq_lt];simpa using he
    have HE:=zd he
    clear he
    go_wp2_with fail
    refine wp_region_ext (by kernel_rfl) (by kernel_rfl) ?_
    repeat (go_big_quiet_step (fail))
    refine wpQuiet_nil ?_
    intro _ hx'
    obtain ⟨z,rfl⟩:=hx'
    go_wp2_with fail
    go_ret
    refine ⟨n,rfl,?_,X1.out.trans (y.ext.val z)⟩
    rw [HE.out,decide_eq_decide]
    exact ⟨fun _=>mem_of_get HX.out,fun _=>by omega⟩
   ·have he':lEq l.k l.f l.c l.t l.b x.k x.f x.c x.t x.b=false:=by rw [lEq_lt];simpa using he
    have HE:=zd he
    clear he
    go_wp2_with fail
    refine wp_region_ext (by kernel_rfl) (by kernel_rfl) ?_
    repeat (go_big_quiet_step (fail))
    refine wpQuiet_nil ?_
    intro _ hx'
    obtain ⟨z,rfl⟩:=hx'
    go_wp2_with fail
    go_roundg (gk - 1)
    case rel=>
     refine ⟨n+1,⟨z.val,y.ext.val z⟩,rfl,by omega,rfl,zd fun j u hj hu=>?_⟩
     by_cases hjn:j=n
     ·subst hjn
      rw [HX.out,Option.some.injEq] at hu
      rw [←hu]
      exact fun h=>HE.out h.symm
     ·exact HN.out j u (by omega) hu
    case measure=>omega
  ·have hge:(L.length:Int)≤(n:Int):=by omega
   go_wp2_with fail
   go_ret
   refine ⟨-1,rfl,?_,X1.out.val y⟩
   rw [decide_eq_decide]
   refine ⟨fun h=>by omega,fun h=>absurd h (not_mem_of_all fun j z hz=>HN.out j z ?_ hz)⟩
   have:=zM hz
   omega
theorem sl_contains (v:Value) (L:List Lt) (l:Lt) (w:World) (hR:Row w 5 v L.length (L.flatMap Lt.cs)) :
 Calls Tryz.prog 90 #[v,.agg #[.int .i64 l.k,.int .i64 l.f,.int .u64 l.c,.string l.t,.bool l.b]] w fun e w'=>e = .returned (.bool (decide (l∈L)))∧Ext w w':=by
 have HR:=zd hR
 clear hR
 go_enter Tryz.func90,Tryz.ntmps90
 go_wp2_with fail
 refine (sl_index v L l _ (HR.out.ext (zR.alloc _))).mono ?_
 rintro e w1 ⟨n,rfl,hn,hx⟩
 have HN:=zd hn
 have HX:=zd hx
 clear hn hx
 go_wp2_with fail
 go_ret
 exact ⟨by rw [HN.out];rfl,(zR.alloc _).trans HX.out⟩
theorem info_letter:(Tryz.prog.info? 24).map (fun i=>(i.zero,i.size,i.bytes))=some (some (.agg #[.int .i64 0,.int .i64 0,.int .u64 0,.string { data:=#[] },.bool false]),5,48):=by kernel_rfl
theorem lt_one (L:List Lt) : ∀ u∈L.flatMap Lt.cs,u.oneCell'=true:=fun u hu=>by
 obtain ⟨x,_,hx⟩:=List.mem_flatMap.1 hu
 simp only [Lt.cs,List.mem_cons,List.not_mem_nil,or_false] at hx
 rcases hx with rfl|rfl|rfl|rfl|rfl<;>rfl
theorem own_nil_or {w:World} {B n:Nat} {e:TypeId} {size:Nat} {v:Value} {xs:List Value} (h:w.ownsRow B e size v n xs):v = .slice none 0 0∨∃ a n c,v = .slice (some a) n c:=by
 rcases h.2 with ⟨hv,_⟩|⟨g,cap,cur,hv,_⟩
 ·exact .inl hv
 ·exact .inr ⟨_,_,_,hv⟩
theorem sl_clone (v:Value) (B:Nat) (L:List Lt) (w:World) (hO:w.ownsRow B 24 5 v L.length (L.flatMap Lt.cs)) (hl:L.length≤100000) :
 Calls Tryz.prog 51 #[v] w fun e w'=>∃ v',e = .returned v'∧w'.ownsRow w.heap.size 24 5 v' L.length (L.flatMap Lt.cs)∧Ext w w':=by
 obtain ⟨i0,hi,hz0,hz1,hz2⟩:=info_parts info_letter
 rcases own_nil_or hO with hv|⟨a,n,c,hv⟩
 ·subst hv
  have hL:L.length=0:=by
   rcases hO.2 with ⟨_,h⟩|⟨g,cap,cur,h,_⟩
   ·exact h
   ·cases h
  have hL0:L=[]:=List.length_eq_zero_iff.1 hL
  subst hL0
  go_enter Tryz.func51,Tryz.ntmps51
  go_wp2_with fail
  go_ret
  exact ⟨_,rfl,World.ownsRow_nil _ _ _ _,zR⟩
 ·subst hv
  have HO:=zd hO
  clear hO
  go_enter Tryz.func51,Tryz.ntmps51
  go_wp2_with (first|(at_builtin;refine unHd ?_))
  unfold Hd2
  refine wpList_app4 w.heap.size 31 24 i0 _ 5 48 zu31 hi hz0 hz1 hz2 rfl (by decide) rfl _ _ rfl _ 0 [] rfl (own_new (Ext.refl w) rfl (by decide) rfl rfl) (by simp) _ L.length (L.flatMap Lt.cs) rfl
   ((Row.of_own HO.out).ext (zR.alloc _)) (.inr ⟨_,_,_,rfl⟩) (lt_one L) (by unfold maxLen;omega) (by omega) ?_
  intro v' w' h1 h2 _
  have hx:Ext w w':=(zR.alloc _).trans' h2
  rw [Nat.zero_add,List.nil_append] at h1
  go_wp2_with fail
  go_ret
  exact ⟨_,rfl,h1,hx⟩
end Go.Proofs.YtlnmhocehgmbbaaGreatDoor

/- No condition. -/
import Derived.Test.YtlnmhocehgmbbaaGreatDoorSL35
import Derived.ProofKit
import Derived.Deep.Slices
import Derived.Lib.SmallJoins
import Derived.JoinedCond
import Derived.OpenShut
import Derived.Deep.DeepHandedRow
import Derived.Lib.LaidTab
import Derived.Stop.LaidErr
import Derived.MakeChecks
set_option linter.all false
set_option maxRecDepth 100000
namespace Go.Proofs.YtlnmhocehgmbbaaGreatDoor
open Go.ChangeShapes Go.WideShapes Go.ChangeAt Go.RowKit Go.Deep
theorem wJ:ownKnob Tryz.prog.godebug=none:=by kernel_rfl
theorem xx:laidOutB Tryz.prog=true:=by kernel_rfl
section
variable {H:Type} {enc:TypeId×Value→H} {P:Program}
theorem xz {f:Func} {s:ChangeSpec} {apart fresh handsOn again:Bool} {W W':World} {args:Array Value} {v:Value} {ds gs:List (DataW H)} {before pa pv:List MemPlace}
 (hW:DataW.Whole enc P f.params.toList s.vars apart W args.toList ds gs before)
 (hres : ∀ (b:Nat) (sp:Nat→Bool) (hd:Bool),DataW.TrodAll enc P W' b sp hd f.resultTypes.toList (v.resultList f.resultTypes.size) (s.fn H (ds++gs)).results [])
 (hargs : ∀ sp:Nat→Bool,(∀ p∈before,sp p.block=true)→DataW.TrodAll enc P W' 0 sp true f.params.toList args.toList (s.fn H (ds++gs)).args pa)
 (hvars : ∀ sp:Nat→Bool,(∀ p∈before,sp p.block=true)→DataW.TrodVars enc P W' sp s.vars (s.fn H (ds++gs)).vars pv)
 (hps:before=pa++pv) (hb:Ext W W')
 (hok : ∀ (j:Nat) (t:TypeId) (r:Value),f.resultTypes[j]?=some t→(v.resultList f.resultTypes.size)[j]?=some r→Value.okWide P W' .any 0 t r) :
 s.post enc P f apart fresh handsOn again W args v W':=by
 have hlt : ∀ p∈before,p.block<W.heap.size:=fun p hp=>hW.lt p hp
 have hold : ∀ p∈before,(fun b=>decide (b<W.heap.size)) p.block=true:=fun p hp=>by simpa using hlt p hp
 refine ⟨ds,gs,before,[],pa,pv,hW,hres _ _ _,hargs _ hold,hvars _ hold,World.keptBut_mono (fun p hp=>⟨hp,?_⟩) (Below.frame hb (·∈before)),fun _=>?_⟩
 ·rw [hps,List.mem_append] at hp
  exact Or.inr hp
 ·obtain ⟨_,_,_,_,_,hz,hn⟩:=hW
  refine ⟨hok,_,_,([]++pa)++pv,⟨[]++pa,pv,trodAll_append (hargs _ (fun _ _=>rfl)) (hres _ _ _),hvars _ (fun _ _=>rfl),rfl,?_,?_⟩,?_⟩
  ·intro b off hp
   have hin:MemPlace.cell b off∈before:=by rw [hps];simpa using hp
   rw [Below.frozen hb (hlt _ hin)]
   exact hz b off hin
  ·intro ha
   have:=hn ha
   rw [hps] at this
   simpa using this
  ·intro p hp _
   rw [hps]
   simpa using hp
theorem wW {t:TypeId} (hl:laidOutB P=true) (hr:P.readableRec t=true) (hrow:t<P.types.size) {W W':World} {sp:Nat→Bool} {v:Value} {d:DataW H} {ps:List MemPlace}
 (h:DataW.Trod enc P W 0 (fun _=>true) true t v d ps) (hb:Ext W W') (hlt : ∀ x∈ps,x.block<W.heap.size) (hs : ∀ p∈ps,sp p.block=true):DataW.Trod enc P W' 0 sp true t v d ps:=
 WideElems.Trod_stays hl hr hrow h (fun x hx=>Below.same hb (hlt x hx)) hs
end
theorem zZ:Tryz.prog.cellsOf 3=1:=by kernel_rfl
theorem zj:Tryz.prog.cellsOf 22=1:=by kernel_rfl
theorem zW:Tryz.prog.cellsOf 9=1:=by kernel_rfl
theorem zJ:Tryz.prog.cellsOf 4=1:=by kernel_rfl
theorem zK:Tryz.prog.cellsOf 24=5:=by kernel_rfl
theorem zq:Tryz.prog.cellsOf 26=9:=by kernel_rfl
theorem yU:Tryz.prog.cellsOf 27=18:=by kernel_rfl
theorem zy:Tryz.prog.cellsOf 29=3:=by kernel_rfl
theorem yz:Tryz.prog.cellsOf 30=2:=by kernel_rfl
theorem yW:Tryz.prog.cellsOf 31=1:=by kernel_rfl
theorem xQ:Tryz.prog.cellsOf 33=26:=by kernel_rfl
theorem xZ:Tryz.prog.cellsOf 34=1:=by kernel_rfl
theorem yJ:Tryz.prog.cellsOf 36=4:=by kernel_rfl
theorem yx:Tryz.prog.cellsOf 64=36:=by kernel_rfl
theorem yY:Tryz.prog.cellsOf 62=5:=by kernel_rfl
theorem xK:Tryz.prog.cellsOf 55=2:=by kernel_rfl
theorem zx:Tryz.prog.cellsOf 52=9:=by kernel_rfl
theorem yy:Tryz.prog.cellsOf 48=1:=by kernel_rfl
section
variable {H:Type} {enc:TypeId×Value→H} {w:World} {base:Nat} {spare:Nat→Bool} {held:Bool}
theorem yG {n:Int} (h:(Lit.int .u64 n).wf=true):U64 n:=by
 simp [Lit.wf] at h
 have h1:IntKind.u64.min=0:=rfl
 have h2:IntKind.u64.max=18446744073709551615:=rfl
 rw [h1,h2] at h
 exact ⟨h.1,by omega⟩
theorem zV {fuel:Nat} {cs:List Value} {x:DataW H×List MemPlace} (h:DataW.trod enc Tryz.prog w base spare held fuel 24 cs=some x) : ∃ l:Lt,cs=l.cs∧U64 l.c:=by
 obtain ⟨xs,n,_,hx,hl,hlen,hf⟩:=DataW.trod_struct zu24 h
 have hl5:cs.length=5:=hl.trans zK
 match cs,hl5,xs,hlen with
 | [c0,c1,c2,c3,c4],_,[y0,y1,y2,y3,y4],_=>
  have g0:=hf 0 _ rfl
  have g1:=hf 1 _ rfl
  have g2:=hf 2 _ rfl
  have g3:=hf 3 _ rfl
  have g4:=hf 4 _ rfl
  simp [zZ,zj,zW,zJ] at g0 g1 g2 g3 g4
  obtain ⟨k,e0,rfl,_⟩:=DataW.trod_int zu3 g0
  obtain ⟨f,e1,rfl,_⟩:=DataW.trod_int zu3 g1
  obtain ⟨c,e2,rfl,hw⟩:=DataW.trod_int zu22 g2
  obtain ⟨t,e3,rfl,_⟩:=DataW.trod_string zu9 g3
  obtain ⟨b,e4,rfl⟩:=DataW.trod_bool zu4 g4
  simp only [List.cons.injEq,and_true] at e0 e1 e2 e3 e4
  subst e0 e1 e2 e3 e4
  exact ⟨⟨k,f,c,t,b⟩,rfl,yG hw⟩
theorem yK {fuel:Nat} {cs:List Value} {x:DataW H×List MemPlace} (h:DataW.trod enc Tryz.prog w base spare held fuel 26 cs=some x) : ∃ s:St,cs=s.cs∧U64 s.c:=by
 obtain ⟨xs,n,_,hx,hl,hlen,hf⟩:=DataW.trod_struct zu26 h
 have hl9:cs.length=9:=hl.trans zq
 match cs,hl9,xs,hlen with
 | [c0,c1,c2,c3,c4,c5,c6,c7,c8],_,[y0,y1,y2,y3,y4],_=>
  have g0:=hf 0 _ rfl
  have g1:=hf 1 _ rfl
  have g2:=hf 2 _ rfl
  have g3:=hf 3 _ rfl
  have g4:=hf 4 _ rfl
  simp [zZ,zj,zW,zJ,zK] at g0 g1 g2 g3 g4
  obtain ⟨k,e0,rfl,_⟩:=DataW.trod_int zu3 g0
  obtain ⟨c,e1,rfl,hw⟩:=DataW.trod_int zu22 g1
  obtain ⟨t,e2,rfl,_⟩:=DataW.trod_string zu9 g2
  obtain ⟨f,e3,rfl,_⟩:=DataW.trod_int zu3 g3
  obtain ⟨l,e4,_⟩:=zV g4
  simp only [List.cons.injEq,and_true,Lt.cs] at e0 e1 e2 e3 e4
  obtain ⟨e5,e6,e7,e8,e9⟩:=e4
  subst e0 e1 e2 e3 e5 e6 e7 e8 e9
  exact ⟨⟨k,c,t,f,l⟩,rfl,yG hw⟩
theorem yV {fuel:Nat} {cs:List Value} {x:DataW H×List MemPlace} (h:DataW.trod enc Tryz.prog w base spare held fuel 29 cs=some x) : ∃ v:Vd,cs=[.int .u64 v.c,.int .i64 v.k,.string v.t]∧U64 v.c:=by
 obtain ⟨xs,n,_,hx,hl,hlen,hf⟩:=DataW.trod_struct zu29 h
 have hl3:cs.length=3:=hl.trans zy
 match cs,hl3,xs,hlen with
 | [c0,c1,c2],_,[y0,y1,y2],_=>
  have g0:=hf 0 _ rfl
  have g1:=hf 1 _ rfl
  have g2:=hf 2 _ rfl
  simp [zZ,zj,zW] at g0 g1 g2
  obtain ⟨c,e0,rfl,hw⟩:=DataW.trod_int zu22 g0
  obtain ⟨k,e1,rfl,_⟩:=DataW.trod_int zu3 g1
  obtain ⟨t,e2,rfl,_⟩:=DataW.trod_string zu9 g2
  simp only [List.cons.injEq,and_true] at e0 e1 e2
  subst e0 e1 e2
  exact ⟨⟨c,k,t⟩,rfl,yG hw⟩
theorem zz {P:Program} {t e:TypeId} {fuel k:Nat} {cs:List Value} {x:DataW H×List MemPlace} (ht:P.underlying t=some (.array 2 e)) (hk:P.cellsOf e=k)
 (h:DataW.trod enc P w base spare held fuel t cs=some x) : ∃ y0 y1 n,DataW.trod enc P w base spare held n e (cs.take k)=some y0∧DataW.trod enc P w base spare held n e ((cs.drop k).take k)=some y1:=by
 cases fuel with
 | zero=>simp [DataW.trod] at h
 | succ n=>
  unfold DataW.trod at h
  rw [ht] at h
  have r2:List.range 2=[0,1]:=rfl
  simp only [r2,hk] at h
  split at h
  ·cases h0:DataW.trod enc P w base spare held n e (cs.take k) with
   | none=>simp [h0] at h
   | some y0=>
    cases h1:DataW.trod enc P w base spare held n e ((cs.drop k).take k) with
    | none=>simp [h0,h1] at h
    | some y1=>exact ⟨y0,y1,n,h0,h1⟩
  ·cases h
theorem yX : ∀ L:List Lt,(L.flatMap Lt.cs).length=L.length*5
 | []=>rfl
 | y::L=>by rw [List.flatMap_cons,List.length_append,yX L,List.length_cons];simp only [Lt.cs,List.length_cons,List.length_nil];omega
theorem xy {L:List Lt} {j:Nat} {u:Value} (h:(L.flatMap Lt.cs)[j]?=some u) : ∃ x,L[j / 5]?=some x∧x.cs[j % 5]?=some u:=by
 have hlen:=yX L
 have hj:j<L.length*5:=by rw [←hlen];exact (zM h)
 have hk:j / 5<L.length:=by omega
 refine ⟨_,zG hk,?_⟩
 have:=flat_get Lt.cs 5 (fun _=>rfl) L (j / 5) _ (zG hk) (j % 5) (by omega)
 rw [show j / 5*5+j % 5=j by omega,h] at this
 exact this.symm
theorem yq {fuel:Nat} {cs:List Value} {x:DataW H×List MemPlace} (h:DataW.trod enc Tryz.prog w base spare held fuel 31 cs=some x) :
 ∃ (v:Value) (L:List Lt),cs=[v]∧Row w 5 v L.length (L.flatMap Lt.cs)∧(v = .slice none 0 0∨∃ a n c,v = .slice (some a) n c)∧∀ l∈L,U64 l.c:=by
 rcases open_slice zu31 h with ⟨h1,h2⟩|⟨a,len,cap,m,n,D,Pl,h1,_,h3,h4,hm,h5,h6⟩
 ·exact ⟨_,[],h1,⟨rfl,.inl ⟨rfl,none,0,rfl⟩⟩,.inl rfl,fun _ h=>by cases h⟩
 ·have hlm:len≤m:=by rw [hm];split<;>omega
  have key : ∀ i,i<len→∃ e:Lt,U64 e.c∧∀ j u,e.cs[j]?=some u→w.cell? ((a.add (i*5)).add j)=some u:=fun i hi=>by
   obtain ⟨cs',hc,ht⟩:=h6 i (by omega)
   rw [zK] at hc
   obtain ⟨e,rfl,hu⟩:=zV ht
   obtain ⟨_,hlen,hcell⟩:=World.cells?_some hc
   refine ⟨e,hu,fun j u hj=>?_⟩
   have:j<5:=by have:=(zM hj);simpa [Lt.cs] using this
   rw [hcell j this];exact hj
  have hE : ∃ E:Nat→Lt,∀ i,i<len→U64 (E i).c∧∀ j u,(E i).cs[j]?=some u→w.cell? ((a.add (i*5)).add j)=some u:=
   ⟨fun i=>if hi:i<len then (key i hi).choose else l0,fun i hi=>by simp only [hi,dif_pos];exact (key i hi).choose_spec⟩
  obtain ⟨E,hE⟩:=hE
  refine ⟨_,(List.range len).map E,h1,?_,.inr ⟨_,_,_,rfl⟩,fun l hl=>by
   obtain ⟨i,hi,rfl⟩:=List.mem_map.1 hl
   exact (hE i (List.mem_range.1 hi)).1⟩
  have hln:((List.range len).map E).length=len:=by simp
  rw [hln]
  refine ⟨by rw [yX,hln],?_⟩
  by_cases h0:len=0
  ·exact .inl ⟨h0,_,_,by rw [h0]⟩
  ·obtain ⟨b,off,spot⟩:=a
   have hs:spot=none:=by
    have:=(hE 0 (by omega)).2 0 _ rfl
    simpa [Addr.add] using World.cell?_spot this
   subst hs
   refine .inr ⟨b,off,cap,rfl,by omega,fun j u hj=>?_⟩
   obtain ⟨e,he,hu⟩:=xy hj
   have hk:j / 5<len:=by have:=(zM he);simpa using this
   rw [List.getElem?_map,List.getElem?_range hk] at he
   simp only [Option.map_some,Option.some.injEq] at he
   subst he
   have:=(hE (j / 5) hk).2 _ u hu
   rw [Go.WideShapes.add_plain,Go.WideShapes.add_plain,Nat.add_assoc,show j / 5*5+j % 5=j by omega] at this
   exact this
theorem wU {fuel:Nat} {cs:List Value} {x:DataW H×List MemPlace} (h:DataW.trod enc Tryz.prog w base spare held fuel 33 cs=some x) :
 ∃ (e:Ex) (v:Value),cs=(e.arr v).toList∧Hrd w e v∧(v = .slice none 0 0∨∃ a n c,v = .slice (some a) n c)∧RngX e:=by
 obtain ⟨xs,n,_,hx,hl,hlen,hf⟩:=DataW.trod_struct zu33 h
 have hl26:cs.length=26:=hl.trans xQ
 match cs,hl26,xs,hlen with
 | [c0,c1,c2,c3,c4,c5,c6,c7,c8,c9,c10,c11,c12,c13,c14,c15,c16,c17,c18,c19,c20,c21,c22,c23,c24,c25],_,[y0,y1,y2,y3,y4,y5],_=>
  have g0:=hf 0 _ rfl
  have g1:=hf 1 _ rfl
  have g2:=hf 2 _ rfl
  have g3:=hf 3 _ rfl
  have g4:=hf 4 _ rfl
  have g5:=hf 5 _ rfl
  simp [zj,zJ,yU,zy,yz,yW] at g0 g1 g2 g3 g4 g5
  obtain ⟨c,e0,rfl,hw⟩:=DataW.trod_int zu22 g0
  obtain ⟨z0,z1,n1,s0,s1⟩:=zz zu27 zq g1
  simp at s0 s1
  obtain ⟨a0,q0,w0⟩:=yK s0
  obtain ⟨a1,q1,w1⟩:=yK s1
  obtain ⟨vd,q2,wv⟩:=yV g2
  obtain ⟨z2,z3,n2,t0,t1⟩:=zz zu30 zJ g3
  simp at t0 t1
  obtain ⟨b0,q3,_⟩:=DataW.trod_bool zu4 t0
  obtain ⟨b1,q4,_⟩:=DataW.trod_bool zu4 t1
  obtain ⟨fu,q5,_⟩:=DataW.trod_bool zu4 g4
  obtain ⟨v,L,q6,hR,hv,wl⟩:=yq g5
  simp only [List.cons.injEq,and_true,St.cs] at e0 q0 q1 q2 q3 q4 q5 q6
  obtain ⟨u1,u2,u3,u4,u5,u6,u7,u8,u9⟩:=q0
  obtain ⟨r1,r2,r3,r4,r5,r6,r7,r8,r9⟩:=q1
  obtain ⟨p1,p2,p3⟩:=q2
  subst e0 u1 u2 u3 u4 u5 u6 u7 u8 u9 r1 r2 r3 r4 r5 r6 r7 r8 r9 p1 p2 p3 q3 q4 q5 q6
  exact ⟨⟨c,a0,a1,vd,b0,b1,fu,L⟩,c25,rfl,hR,hv,⟨yG hw,w0,w1,wv,wl⟩⟩
theorem wq {T:List ByteArray} {j:Nat} {u:Value} (h:(T.map Value.string)[j]?=some u) : ∃ t,T[j]?=some t∧u = .string t:=by
 rw [List.getElem?_map] at h
 cases ht:T[j]? with
 | none=>rw [ht] at h;cases h
 | some t=>rw [ht] at h;cases h;exact ⟨t,rfl,rfl⟩
theorem xW {fuel:Nat} {cs:List Value} {x:DataW H×List MemPlace} (h:DataW.trod enc Tryz.prog w base spare held fuel 34 cs=some x) :
 ∃ (v:Value) (T:List ByteArray),cs=[v]∧Row w 1 v T.length (T.map Value.string)∧(v = .slice none 0 0∨∃ a n c,v = .slice (some a) n c):=by
 rcases open_slice zu34 h with ⟨h1,h2⟩|⟨a,len,cap,m,n,D,Pl,h1,_,h3,h4,hm,h5,h6⟩
 ·exact ⟨_,[],h1,⟨rfl,.inl ⟨rfl,none,0,rfl⟩⟩,.inl rfl⟩
 ·have hlm:len≤m:=by rw [hm];split<;>omega
  have key : ∀ i,i<len→∃ t:ByteArray,w.cell? ((a.add (i*1)).add 0)=some (.string t):=fun i hi=>by
   obtain ⟨cs',hc,ht⟩:=h6 i (by omega)
   rw [zW] at hc
   obtain ⟨t,e2,_,_⟩:=DataW.trod_string zu9 ht
   subst e2
   obtain ⟨_,hlen,hcell⟩:=World.cells?_some hc
   exact ⟨t,hcell 0 (by decide)⟩
  have hE : ∃ E:Nat→ByteArray,∀ i,i<len→w.cell? ((a.add (i*1)).add 0)=some (.string (E i)):=
   ⟨fun i=>if hi:i<len then (key i hi).choose else { data:=#[] },fun i hi=>by simp only [hi,dif_pos];exact (key i hi).choose_spec⟩
  obtain ⟨E,hE⟩:=hE
  refine ⟨_,(List.range len).map E,h1,?_,.inr ⟨_,_,_,rfl⟩⟩
  have hln:((List.range len).map E).length=len:=by simp
  rw [hln]
  refine ⟨by rw [List.length_map,hln,Nat.mul_one],?_⟩
  by_cases h0:len=0
  ·exact .inl ⟨h0,_,_,by rw [h0]⟩
  ·obtain ⟨b,off,spot⟩:=a
   have hs:spot=none:=by
    have:=hE 0 (by omega)
    simpa [Addr.add] using World.cell?_spot this
   subst hs
   refine .inr ⟨b,off,cap,rfl,by omega,fun j u hj=>?_⟩
   obtain ⟨t,he,rfl⟩:=wq hj
   have hk:j<len:=by have:=(zM he);simpa using this
   rw [List.getElem?_map,List.getElem?_range hk] at he
   simp only [Option.map_some,Option.some.injEq] at he
   subst he
   have:=hE j hk
   rw [Go.WideShapes.add_plain,Go.WideShapes.add_plain,Nat.mul_one,Nat.add_zero] at this
   exact this
theorem xY {fuel:Nat} {cs:List Value} {x:DataW H×List MemPlace} (h:DataW.trod enc Tryz.prog w base spare held fuel 36 cs=some x) :
 ∃ (r:Rg) (tv:Value),cs=[tv,.bool r.b,.bool r.l,.int .i64 r.m]∧Row w 1 tv r.t.length (r.t.map Value.string)∧(tv = .slice none 0 0∨∃ a n c,tv = .slice (some a) n c):=by
 obtain ⟨xs,n,_,hx,hl,hlen,hf⟩:=DataW.trod_struct zu36 h
 have hl4:cs.length=4:=hl.trans yJ
 match cs,hl4,xs,hlen with
 | [c0,c1,c2,c3],_,[y0,y1,y2,y3],_=>
  have g0:=hf 0 _ rfl
  have g1:=hf 1 _ rfl
  have g2:=hf 2 _ rfl
  have g3:=hf 3 _ rfl
  simp [zZ,zJ,xZ] at g0 g1 g2 g3
  obtain ⟨tv,T,e0,hR,hc⟩:=xW g0
  obtain ⟨b,e1,_⟩:=DataW.trod_bool zu4 g1
  obtain ⟨l,e2,_⟩:=DataW.trod_bool zu4 g2
  obtain ⟨m,e3,_,_⟩:=DataW.trod_int zu3 g3
  simp only [List.cons.injEq,and_true] at e0 e1 e2 e3
  subst e0 e1 e2 e3
  exact ⟨⟨T,b,l,m⟩,c0,rfl,hR,hc⟩
theorem xj {fuel:Nat} {cs:List Value} {x:DataW H×List MemPlace} (h:DataW.trod enc Tryz.prog w base spare held fuel 62 cs=some x) : ∃ q:Wi,cs=q.arr.toList:=by
 obtain ⟨xs,n,_,hx,hl,hlen,hf⟩:=DataW.trod_struct zu62 h
 have hl5:cs.length=5:=hl.trans yY
 match cs,hl5,xs,hlen with
 | [c0,c1,c2,c3,c4],_,[y0,y1,y2,y3],_=>
  have g0:=hf 0 _ rfl
  have g1:=hf 1 _ rfl
  have g2:=hf 2 _ rfl
  have g3:=hf 3 _ rfl
  simp [zZ,xK] at g0 g1 g2 g3
  obtain ⟨z0,z1,n1,s0,s1⟩:=zz zu55 zZ g0
  simp at s0 s1
  obtain ⟨a,e0,_,_⟩:=DataW.trod_int zu3 s0
  obtain ⟨b,e1,_,_⟩:=DataW.trod_int zu3 s1
  obtain ⟨c,e2,_,_⟩:=DataW.trod_int zu3 g1
  obtain ⟨d,e3,_,_⟩:=DataW.trod_int zu3 g2
  obtain ⟨e,e4,_,_⟩:=DataW.trod_int zu3 g3
  simp only [List.cons.injEq,and_true] at e0 e1 e2 e3 e4
  subst e0 e1 e2 e3 e4
  exact ⟨⟨a,b,c,d,e⟩,rfl⟩
theorem yQ {fuel:Nat} {cs:List Value} {x:DataW H×List MemPlace} (h:DataW.trod enc Tryz.prog w base spare held fuel 52 cs=some x) : ∃ m:Mv,cs=m.cs:=by
 obtain ⟨xs,n,_,hx,hl,hlen,hf⟩:=DataW.trod_struct zu52 h
 have hl9:cs.length=9:=hl.trans zx
 match cs,hl9,xs,hlen with
 | [c0,c1,c2,c3,c4,c5,c6,c7,c8],_,[y0,y1,y2,y3,y4],_=>
  have g0:=hf 0 _ rfl
  have g1:=hf 1 _ rfl
  have g2:=hf 2 _ rfl
  have g3:=hf 3 _ rfl
  have g4:=hf 4 _ rfl
  simp [zZ,zW,zJ,zK] at g0 g1 g2 g3 g4
  obtain ⟨k,e0,_,_⟩:=DataW.trod_int zu3 g0
  obtain ⟨f,e1,_,_⟩:=DataW.trod_int zu3 g1
  obtain ⟨t,e2,_,_⟩:=DataW.trod_string zu9 g2
  obtain ⟨l,e3,_⟩:=zV g3
  obtain ⟨b,e4,_⟩:=DataW.trod_bool zu4 g4
  simp only [List.cons.injEq,and_true,Lt.cs] at e0 e1 e2 e3 e4
  obtain ⟨e5,e6,e7,e8,e9⟩:=e3
  subst e0 e1 e2 e4 e5 e6 e7 e8 e9
  exact ⟨⟨k,f,t,l,b⟩,rfl⟩
theorem wQ {L:List Mv} {j:Nat} {u:Value} (h:(L.flatMap Mv.cs)[j]?=some u) : ∃ x,L[j / 9]?=some x∧x.cs[j % 9]?=some u:=by
 have hlen:=has_all_len L
 have hj:j<L.length*9:=by rw [←hlen];exact (zM h)
 have hk:j / 9<L.length:=by omega
 refine ⟨_,zG hk,?_⟩
 have:=flat_get Mv.cs 9 (fun _=>rfl) L (j / 9) _ (zG hk) (j % 9) (by omega)
 rw [show j / 9*9+j % 9=j by omega,h] at this
 exact this.symm
theorem xV {fuel:Nat} {cs:List Value} {x:DataW H×List MemPlace} (h:DataW.trod enc Tryz.prog w base spare held fuel 48 cs=some x) :
 ∃ (v:Value) (L:List Mv),cs=[v]∧Row w 9 v L.length (L.flatMap Mv.cs)∧(v = .slice none 0 0∨∃ a n c,v = .slice (some a) n c):=by
 rcases open_slice zu48 h with ⟨h1,h2⟩|⟨a,len,cap,m,n,D,Pl,h1,_,h3,h4,hm,h5,h6⟩
 ·exact ⟨_,[],h1,⟨rfl,.inl ⟨rfl,none,0,rfl⟩⟩,.inl rfl⟩
 ·have hlm:len≤m:=by rw [hm];split<;>omega
  have key : ∀ i,i<len→∃ e:Mv,∀ j u,e.cs[j]?=some u→w.cell? ((a.add (i*9)).add j)=some u:=fun i hi=>by
   obtain ⟨cs',hc,ht⟩:=h6 i (by omega)
   rw [zx] at hc
   obtain ⟨e,rfl⟩:=yQ ht
   obtain ⟨_,hlen,hcell⟩:=World.cells?_some hc
   refine ⟨e,fun j u hj=>?_⟩
   have:j<9:=by have:=(zM hj);simpa [Mv.cs] using this
   rw [hcell j this];exact hj
  have hE : ∃ E:Nat→Mv,∀ i,i<len→∀ j u,(E i).cs[j]?=some u→w.cell? ((a.add (i*9)).add j)=some u:=
   ⟨fun i=>if hi:i<len then (key i hi).choose else m0,fun i hi=>by simp only [hi,dif_pos];exact (key i hi).choose_spec⟩
  obtain ⟨E,hE⟩:=hE
  refine ⟨_,(List.range len).map E,h1,?_,.inr ⟨_,_,_,rfl⟩⟩
  have hln:((List.range len).map E).length=len:=by simp
  rw [hln]
  refine ⟨by rw [has_all_len,hln],?_⟩
  by_cases h0:len=0
  ·exact .inl ⟨h0,_,_,by rw [h0]⟩
  ·obtain ⟨b,off,spot⟩:=a
   have hs:spot=none:=by
    have:=hE 0 (by omega) 0 _ rfl
    simpa [Addr.add] using World.cell?_spot this
   subst hs
   refine .inr ⟨b,off,cap,rfl,by omega,fun j u hj=>?_⟩
   obtain ⟨e,he,hu⟩:=wQ hj
   have hk:j / 9<len:=by have:=(zM he);simpa using this
   rw [List.getElem?_map,List.getElem?_range hk] at he
   simp only [Option.map_some,Option.some.injEq] at he
   subst he
   have:=hE (j / 9) hk _ u hu
   rw [Go.WideShapes.add_plain,Go.WideShapes.add_plain,Nat.add_assoc,show j / 9*9+j % 9=j by omega] at this
   exact this
theorem xX {fuel:Nat} {cs:List Value} {x:DataW H×List MemPlace} (h:DataW.trod enc Tryz.prog w base spare held fuel 64 cs=some x) :
 ∃ (e:Ex) (v:Value) (r:Rg) (tv:Value) (q:Wi) (l:List Mv) (mv:Value),cs=(seA e v r tv q mv).toList∧(Hrd w e v∧(v = .slice none 0 0∨∃ a n c,v = .slice (some a) n c)∧RngX e)∧(Row w 1 tv r.t.length (r.t.map Value.string)∧(tv = .slice none 0 0∨∃ a n c,tv = .slice (some a) n c))∧Row w 9 mv l.length (l.flatMap Mv.cs)∧(mv = .slice none 0 0∨∃ a n c,mv = .slice (some a) n c):=by
 obtain ⟨xs,n,_,hx,hl,hlen,hf⟩:=DataW.trod_struct zu64 h
 have hl36:cs.length=36:=hl.trans yx
 match xs,hlen with
 | [y0,y1,y2,y3],_=>
  have g0:=hf 0 _ rfl
  have g1:=hf 1 _ rfl
  have g2:=hf 2 _ rfl
  have g3:=hf 3 _ rfl
  simp [xQ,yJ,yY,yy] at g0 g1 g2 g3
  obtain ⟨e,v,e0,hE⟩:=wU g0
  obtain ⟨r,tv,e1,hR,htv⟩:=xY g1
  obtain ⟨q,e2⟩:=xj g2
  obtain ⟨mv,l,e3,hM,hmv⟩:=xV g3
  refine ⟨e,v,r,tv,q,l,mv,?_,hE,⟨hR,htv⟩,hM,hmv⟩
  have h1:cs=cs.take 26++((cs.drop 26).take 4++((cs.drop 30).take 5++(cs.drop 35).take 1)):=by
   have d2:(cs.drop 26).take 4++cs.drop 30=cs.drop 26:=by
    have:=List.take_append_drop 4 (cs.drop 26)
    rwa [List.drop_drop] at this
   have d3:(cs.drop 30).take 5++cs.drop 35=cs.drop 30:=by
    have:=List.take_append_drop 5 (cs.drop 30)
    rwa [List.drop_drop] at this
   have d4:(cs.drop 35).take 1=cs.drop 35:=List.take_of_length_le (by simp [hl36])
   rw [d4,d3,d2,List.take_append_drop]
  rw [h1,e0,e1,e2,e3]
  rfl
end
end Go.Proofs.YtlnmhocehgmbbaaGreatDoor

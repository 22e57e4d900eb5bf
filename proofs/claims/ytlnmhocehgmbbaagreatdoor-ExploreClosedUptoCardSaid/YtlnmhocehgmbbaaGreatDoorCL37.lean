/- No condition. -/
import Derived.Test.YtlnmhocehgmbbaaGreatDoorCL36
import Derived.ProofKit
import Derived.Deep.Slices
import Derived.Lib.SmallJoins
import Derived.JoinedCond
import Derived.OpenShut
import Derived.Deep.DeepHandedRow
import Derived.Lib.LaidTab
import Derived.Stop.LaidErr
import Derived.MakeChecks
set_option linter.all false
set_option maxRecDepth 100000
namespace Go.Proofs.YtlnmhocehgmbbaaGreatDoor
open Go.ChangeShapes Go.WideShapes Go.ChangeAt Go.RowKit Go.Deep
theorem prog_own:ownKnob Tryz.prog.godebug=none:=by kernel_rfl
theorem prog_laid:laidOutB Tryz.prog=true:=by kernel_rfl
section
variable {H:Type} {enc:TypeId×Value→H} {P:Program}
theorem post_ext {f:Func} {s:ChangeSpec} {apart fresh handsOn again:Bool} {W W':World} {args:Array Value} {v:Value} {ds gs:List (DataW H)} {before pa pv:List MemPlace}
 (hW:DataW.Whole enc P f.params.toList s.vars apart W args.toList ds gs before)
 (hres : ∀ (b:Nat) (sp:Nat→Bool) (hd:Bool),DataW.TrodAll enc P W' b sp hd f.resultTypes.toList (v.resultList f.resultTypes.size) (s.fn H (ds++gs)).results [])
 (hargs : ∀ sp:Nat→Bool,(∀ p∈before,sp p.block=true)→DataW.TrodAll enc P W' 0 sp true f.params.toList args.toList (s.fn H (ds++gs)).args pa)
 (hvars : ∀ sp:Nat→Bool,(∀ p∈before,sp p.block=true)→DataW.TrodVars enc P W' sp s.vars (s.fn H (ds++gs)).vars pv)
 (hps:before=pa++pv) (hb:Ext W W')
 (hok : ∀ (j:Nat) (t:TypeId) (r:Value),f.resultTypes[j]?=some t→(v.resultList f.resultTypes.size)[j]?=some r→Value.okWide P W' .any 0 t r) :
 s.post enc P f apart fresh handsOn again W args v W':=by
 have hlt : ∀ p∈before,p.block<W.heap.size:=fun p hp=>hW.lt p hp
 have hold : ∀ p∈before,(fun b=>decide (b<W.heap.size)) p.block=true:=fun p hp=>by simpa using hlt p hp
 refine ⟨ds,gs,before,[],pa,pv,hW,hres _ _ _,hargs _ hold,hvars _ hold,World.keptBut_mono (fun p hp=>⟨hp,?_⟩) (Below.frame hb (·∈before)),fun _=>?_⟩
 ·rw [hps,List.mem_append] at hp
  exact Or.inr hp
 ·obtain ⟨_,_,_,_,_,hz,hn⟩:=hW
  refine ⟨hok,_,_,([]++pa)++pv,⟨[]++pa,pv,trodAll_append (hargs _ (fun _ _=>rfl)) (hres _ _ _),hvars _ (fun _ _=>rfl),rfl,?_,?_⟩,?_⟩
  ·intro b off hp
   have hin:MemPlace.cell b off∈before:=by rw [hps];simpa using hp
   rw [Below.frozen hb (hlt _ hin)]
   exact hz b off hin
  ·intro ha
   have:=hn ha
   rw [hps] at this
   simpa using this
  ·intro p hp _
   rw [hps]
   simpa using hp
theorem trod_ext {t:TypeId} (hl:laidOutB P=true) (hr:P.readableRec t=true) (hrow:t<P.types.size) {W W':World} {sp:Nat→Bool} {v:Value} {d:DataW H} {ps:List MemPlace}
 (h:DataW.Trod enc P W 0 (fun _=>true) true t v d ps) (hb:Ext W W') (hlt : ∀ x∈ps,x.block<W.heap.size) (hs : ∀ p∈ps,sp p.block=true):DataW.Trod enc P W' 0 sp true t v d ps:=
 WideElems.Trod_stays hl hr hrow h (fun x hx=>Below.same hb (hlt x hx)) hs
end
theorem cells_int:Tryz.prog.cellsOf 3=1:=by kernel_rfl
theorem cells_u64:Tryz.prog.cellsOf 22=1:=by kernel_rfl
theorem cells_str:Tryz.prog.cellsOf 9=1:=by kernel_rfl
theorem cells_bool:Tryz.prog.cellsOf 4=1:=by kernel_rfl
theorem cells_letter:Tryz.prog.cellsOf 24=5:=by kernel_rfl
theorem cells_state:Tryz.prog.cellsOf 26=9:=by kernel_rfl
theorem cells_states:Tryz.prog.cellsOf 27=18:=by kernel_rfl
theorem cells_verdict:Tryz.prog.cellsOf 29=3:=by kernel_rfl
theorem cells_bools:Tryz.prog.cellsOf 30=2:=by kernel_rfl
theorem cells_letters:Tryz.prog.cellsOf 31=1:=by kernel_rfl
theorem cells_ex:Tryz.prog.cellsOf 33=26:=by kernel_rfl
theorem cells_strs:Tryz.prog.cellsOf 34=1:=by kernel_rfl
theorem cells_range:Tryz.prog.cellsOf 36=4:=by kernel_rfl
theorem cells_closed:Tryz.prog.cellsOf 75=32:=by kernel_rfl
section
variable {H:Type} {enc:TypeId×Value→H} {w:World} {base:Nat} {spare:Nat→Bool} {held:Bool}
theorem u64_wf {n:Int} (h:(Lit.int .u64 n).wf=true):U64 n:=by
 simp [Lit.wf] at h
 have h1:IntKind.u64.min=0:=rfl
 have h2:IntKind.u64.max=18446744073709551615:=rfl
 rw [h1,h2] at h
 exact ⟨h.1,by omega⟩
theorem open_letter {fuel:Nat} {cs:List Value} {x:DataW H×List MemPlace} (h:DataW.trod enc Tryz.prog w base spare held fuel 24 cs=some x) : ∃ l:Lt,cs=l.cs∧U64 l.c:=by
 obtain ⟨xs,n,_,hx,hl,hlen,hf⟩:=DataW.trod_struct zu24 h
 have hl5:cs.length=5:=hl.trans cells_letter
 match cs,hl5,xs,hlen with
 | [c0,c1,c2,c3,c4],_,[y0,y1,y2,y3,y4],_=>
  have g0:=hf 0 _ rfl
  have g1:=hf 1 _ rfl
  have g2:=hf 2 _ rfl
  have g3:=hf 3 _ rfl
  have g4:=hf 4 _ rfl
  simp [cells_int,cells_u64,cells_str,cells_bool] at g0 g1 g2 g3 g4
  obtain ⟨k,e0,rfl,_⟩:=DataW.trod_int zu3 g0
  obtain ⟨f,e1,rfl,_⟩:=DataW.trod_int zu3 g1
  obtain ⟨c,e2,rfl,hw⟩:=DataW.trod_int zu22 g2
  obtain ⟨t,e3,rfl,_⟩:=DataW.trod_string zu9 g3
  obtain ⟨b,e4,rfl⟩:=DataW.trod_bool zu4 g4
  simp only [List.cons.injEq,and_true] at e0 e1 e2 e3 e4
  subst e0 e1 e2 e3 e4
  exact ⟨⟨k,f,c,t,b⟩,rfl,u64_wf hw⟩
theorem open_state {fuel:Nat} {cs:List Value} {x:DataW H×List MemPlace} (h:DataW.trod enc Tryz.prog w base spare held fuel 26 cs=some x) : ∃ s:St,cs=s.cs∧U64 s.c:=by
 obtain ⟨xs,n,_,hx,hl,hlen,hf⟩:=DataW.trod_struct zu26 h
 have hl9:cs.length=9:=hl.trans cells_state
 match cs,hl9,xs,hlen with
 | [c0,c1,c2,c3,c4,c5,c6,c7,c8],_,[y0,y1,y2,y3,y4],_=>
  have g0:=hf 0 _ rfl
  have g1:=hf 1 _ rfl
  have g2:=hf 2 _ rfl
  have g3:=hf 3 _ rfl
  have g4:=hf 4 _ rfl
  simp [cells_int,cells_u64,cells_str,cells_bool,cells_letter] at g0 g1 g2 g3 g4
  obtain ⟨k,e0,rfl,_⟩:=DataW.trod_int zu3 g0
  obtain ⟨c,e1,rfl,hw⟩:=DataW.trod_int zu22 g1
  obtain ⟨t,e2,rfl,_⟩:=DataW.trod_string zu9 g2
  obtain ⟨f,e3,rfl,_⟩:=DataW.trod_int zu3 g3
  obtain ⟨l,e4,_⟩:=open_letter g4
  simp only [List.cons.injEq,and_true,Lt.cs] at e0 e1 e2 e3 e4
  obtain ⟨e5,e6,e7,e8,e9⟩:=e4
  subst e0 e1 e2 e3 e5 e6 e7 e8 e9
  exact ⟨⟨k,c,t,f,l⟩,rfl,u64_wf hw⟩
theorem open_verdict {fuel:Nat} {cs:List Value} {x:DataW H×List MemPlace} (h:DataW.trod enc Tryz.prog w base spare held fuel 29 cs=some x) : ∃ v:Vd,cs=[.int .u64 v.c,.int .i64 v.k,.string v.t]∧U64 v.c:=by
 obtain ⟨xs,n,_,hx,hl,hlen,hf⟩:=DataW.trod_struct zu29 h
 have hl3:cs.length=3:=hl.trans cells_verdict
 match cs,hl3,xs,hlen with
 | [c0,c1,c2],_,[y0,y1,y2],_=>
  have g0:=hf 0 _ rfl
  have g1:=hf 1 _ rfl
  have g2:=hf 2 _ rfl
  simp [cells_int,cells_u64,cells_str] at g0 g1 g2
  obtain ⟨c,e0,rfl,hw⟩:=DataW.trod_int zu22 g0
  obtain ⟨k,e1,rfl,_⟩:=DataW.trod_int zu3 g1
  obtain ⟨t,e2,rfl,_⟩:=DataW.trod_string zu9 g2
  simp only [List.cons.injEq,and_true] at e0 e1 e2
  subst e0 e1 e2
  exact ⟨⟨c,k,t⟩,rfl,u64_wf hw⟩
theorem trod_arr2 {P:Program} {t e:TypeId} {fuel k:Nat} {cs:List Value} {x:DataW H×List MemPlace} (ht:P.underlying t=some (.array 2 e)) (hk:P.cellsOf e=k)
 (h:DataW.trod enc P w base spare held fuel t cs=some x) : ∃ y0 y1 n,DataW.trod enc P w base spare held n e (cs.take k)=some y0∧DataW.trod enc P w base spare held n e ((cs.drop k).take k)=some y1:=by
 cases fuel with
 | zero=>simp [DataW.trod] at h
 | succ n=>
  unfold DataW.trod at h
  rw [ht] at h
  have r2:List.range 2=[0,1]:=rfl
  simp only [r2,hk] at h
  split at h
  ·cases h0:DataW.trod enc P w base spare held n e (cs.take k) with
   | none=>simp [h0] at h
   | some y0=>
    cases h1:DataW.trod enc P w base spare held n e ((cs.drop k).take k) with
    | none=>simp [h0,h1] at h
    | some y1=>exact ⟨y0,y1,n,h0,h1⟩
  ·cases h
theorem lts_len5 : ∀ L:List Lt,(L.flatMap Lt.cs).length=L.length*5
 | []=>rfl
 | y::L=>by rw [List.flatMap_cons,List.length_append,lts_len5 L,List.length_cons];simp only [Lt.cs,List.length_cons,List.length_nil];omega
theorem flat_at5 {L:List Lt} {j:Nat} {u:Value} (h:(L.flatMap Lt.cs)[j]?=some u) : ∃ x,L[j / 5]?=some x∧x.cs[j % 5]?=some u:=by
 have hlen:=lts_len5 L
 have hj:j<L.length*5:=by rw [←hlen];exact (zM h)
 have hk:j / 5<L.length:=by omega
 refine ⟨_,zG hk,?_⟩
 have:=flat_get Lt.cs 5 (fun _=>rfl) L (j / 5) _ (zG hk) (j % 5) (by omega)
 rw [show j / 5*5+j % 5=j by omega,h] at this
 exact this.symm
theorem open_letters {fuel:Nat} {cs:List Value} {x:DataW H×List MemPlace} (h:DataW.trod enc Tryz.prog w base spare held fuel 31 cs=some x) :
 ∃ (v:Value) (L:List Lt),cs=[v]∧Row w 5 v L.length (L.flatMap Lt.cs)∧(v = .slice none 0 0∨∃ a n c,v = .slice (some a) n c)∧∀ l∈L,U64 l.c:=by
 rcases open_slice zu31 h with ⟨h1,h2⟩|⟨a,len,cap,m,n,D,Pl,h1,_,h3,h4,hm,h5,h6⟩
 ·exact ⟨_,[],h1,⟨rfl,.inl ⟨rfl,none,0,rfl⟩⟩,.inl rfl,fun _ h=>by cases h⟩
 ·have hlm:len≤m:=by rw [hm];split<;>omega
  have key : ∀ i,i<len→∃ e:Lt,U64 e.c∧∀ j u,e.cs[j]?=some u→w.cell? ((a.add (i*5)).add j)=some u:=fun i hi=>by
   obtain ⟨cs',hc,ht⟩:=h6 i (by omega)
   rw [cells_letter] at hc
   obtain ⟨e,rfl,hu⟩:=open_letter ht
   obtain ⟨_,hlen,hcell⟩:=World.cells?_some hc
   refine ⟨e,hu,fun j u hj=>?_⟩
   have:j<5:=by have:=(zM hj);simpa [Lt.cs] using this
   rw [hcell j this];exact hj
  have hE : ∃ E:Nat→Lt,∀ i,i<len→U64 (E i).c∧∀ j u,(E i).cs[j]?=some u→w.cell? ((a.add (i*5)).add j)=some u:=
   ⟨fun i=>if hi:i<len then (key i hi).choose else l0,fun i hi=>by simp only [hi,dif_pos];exact (key i hi).choose_spec⟩
  obtain ⟨E,hE⟩:=hE
  refine ⟨_,(List.range len).map E,h1,?_,.inr ⟨_,_,_,rfl⟩,fun l hl=>by
   obtain ⟨i,hi,rfl⟩:=List.mem_map.1 hl
   exact (hE i (List.mem_range.1 hi)).1⟩
  have hln:((List.range len).map E).length=len:=by simp
  rw [hln]
  refine ⟨by rw [lts_len5,hln],?_⟩
  by_cases h0:len=0
  ·exact .inl ⟨h0,_,_,by rw [h0]⟩
  ·obtain ⟨b,off,spot⟩:=a
   have hs:spot=none:=by
    have:=(hE 0 (by omega)).2 0 _ rfl
    simpa [Addr.add] using World.cell?_spot this
   subst hs
   refine .inr ⟨b,off,cap,rfl,by omega,fun j u hj=>?_⟩
   obtain ⟨e,he,hu⟩:=flat_at5 hj
   have hk:j / 5<len:=by have:=(zM he);simpa using this
   rw [List.getElem?_map,List.getElem?_range hk] at he
   simp only [Option.map_some,Option.some.injEq] at he
   subst he
   have:=(hE (j / 5) hk).2 _ u hu
   rw [Go.WideShapes.add_plain,Go.WideShapes.add_plain,Nat.add_assoc,show j / 5*5+j % 5=j by omega] at this
   exact this
theorem open_ex {fuel:Nat} {cs:List Value} {x:DataW H×List MemPlace} (h:DataW.trod enc Tryz.prog w base spare held fuel 33 cs=some x) :
 ∃ (e:Ex) (v:Value),cs=(e.arr v).toList∧Hrd w e v∧(v = .slice none 0 0∨∃ a n c,v = .slice (some a) n c)∧RngX e:=by
 obtain ⟨xs,n,_,hx,hl,hlen,hf⟩:=DataW.trod_struct zu33 h
 have hl26:cs.length=26:=hl.trans cells_ex
 match cs,hl26,xs,hlen with
 | [c0,c1,c2,c3,c4,c5,c6,c7,c8,c9,c10,c11,c12,c13,c14,c15,c16,c17,c18,c19,c20,c21,c22,c23,c24,c25],_,[y0,y1,y2,y3,y4,y5],_=>
  have g0:=hf 0 _ rfl
  have g1:=hf 1 _ rfl
  have g2:=hf 2 _ rfl
  have g3:=hf 3 _ rfl
  have g4:=hf 4 _ rfl
  have g5:=hf 5 _ rfl
  simp [cells_u64,cells_bool,cells_states,cells_verdict,cells_bools,cells_letters] at g0 g1 g2 g3 g4 g5
  obtain ⟨c,e0,rfl,hw⟩:=DataW.trod_int zu22 g0
  obtain ⟨z0,z1,n1,s0,s1⟩:=trod_arr2 zu27 cells_state g1
  simp at s0 s1
  obtain ⟨a0,q0,w0⟩:=open_state s0
  obtain ⟨a1,q1,w1⟩:=open_state s1
  obtain ⟨vd,q2,wv⟩:=open_verdict g2
  obtain ⟨z2,z3,n2,t0,t1⟩:=trod_arr2 zu30 cells_bool g3
  simp at t0 t1
  obtain ⟨b0,q3,_⟩:=DataW.trod_bool zu4 t0
  obtain ⟨b1,q4,_⟩:=DataW.trod_bool zu4 t1
  obtain ⟨fu,q5,_⟩:=DataW.trod_bool zu4 g4
  obtain ⟨v,L,q6,hR,hv,wl⟩:=open_letters g5
  simp only [List.cons.injEq,and_true,St.cs] at e0 q0 q1 q2 q3 q4 q5 q6
  obtain ⟨u1,u2,u3,u4,u5,u6,u7,u8,u9⟩:=q0
  obtain ⟨r1,r2,r3,r4,r5,r6,r7,r8,r9⟩:=q1
  obtain ⟨p1,p2,p3⟩:=q2
  subst e0 u1 u2 u3 u4 u5 u6 u7 u8 u9 r1 r2 r3 r4 r5 r6 r7 r8 r9 p1 p2 p3 q3 q4 q5 q6
  exact ⟨⟨c,a0,a1,vd,b0,b1,fu,L⟩,c25,rfl,hR,hv,⟨u64_wf hw,w0,w1,wv,wl⟩⟩
theorem map_at {T:List ByteArray} {j:Nat} {u:Value} (h:(T.map Value.string)[j]?=some u) : ∃ t,T[j]?=some t∧u = .string t:=by
 rw [List.getElem?_map] at h
 cases ht:T[j]? with
 | none=>rw [ht] at h;cases h
 | some t=>rw [ht] at h;cases h;exact ⟨t,rfl,rfl⟩
theorem open_texts {fuel:Nat} {cs:List Value} {x:DataW H×List MemPlace} (h:DataW.trod enc Tryz.prog w base spare held fuel 34 cs=some x) :
 ∃ (v:Value) (T:List ByteArray),cs=[v]∧Row w 1 v T.length (T.map Value.string)∧(v = .slice none 0 0∨∃ a n c,v = .slice (some a) n c):=by
 rcases open_slice zu34 h with ⟨h1,h2⟩|⟨a,len,cap,m,n,D,Pl,h1,_,h3,h4,hm,h5,h6⟩
 ·exact ⟨_,[],h1,⟨rfl,.inl ⟨rfl,none,0,rfl⟩⟩,.inl rfl⟩
 ·have hlm:len≤m:=by rw [hm];split<;>omega
  have key : ∀ i,i<len→∃ t:ByteArray,w.cell? ((a.add (i*1)).add 0)=some (.string t):=fun i hi=>by
   obtain ⟨cs',hc,ht⟩:=h6 i (by omega)
   rw [cells_str] at hc
   obtain ⟨t,e2,_,_⟩:=DataW.trod_string zu9 ht
   subst e2
   obtain ⟨_,hlen,hcell⟩:=World.cells?_some hc
   exact ⟨t,hcell 0 (by decide)⟩
  have hE : ∃ E:Nat→ByteArray,∀ i,i<len→w.cell? ((a.add (i*1)).add 0)=some (.string (E i)):=
   ⟨fun i=>if hi:i<len then (key i hi).choose else { data:=#[] },fun i hi=>by simp only [hi,dif_pos];exact (key i hi).choose_spec⟩
  obtain ⟨E,hE⟩:=hE
  refine ⟨_,(List.range len).map E,h1,?_,.inr ⟨_,_,_,rfl⟩⟩
  have hln:((List.range len).map E).length=len:=by simp
  rw [hln]
  refine ⟨by rw [List.length_map,hln,Nat.mul_one],?_⟩
  by_cases h0:len=0
  ·exact .inl ⟨h0,_,_,by rw [h0]⟩
  ·obtain ⟨b,off,spot⟩:=a
   have hs:spot=none:=by
    have:=hE 0 (by omega)
    simpa [Addr.add] using World.cell?_spot this
   subst hs
   refine .inr ⟨b,off,cap,rfl,by omega,fun j u hj=>?_⟩
   obtain ⟨t,he,rfl⟩:=map_at hj
   have hk:j<len:=by have:=(zM he);simpa using this
   rw [List.getElem?_map,List.getElem?_range hk] at he
   simp only [Option.map_some,Option.some.injEq] at he
   subst he
   have:=hE j hk
   rw [Go.WideShapes.add_plain,Go.WideShapes.add_plain,Nat.mul_one,Nat.add_zero] at this
   exact this
theorem open_range {fuel:Nat} {cs:List Value} {x:DataW H×List MemPlace} (h:DataW.trod enc Tryz.prog w base spare held fuel 36 cs=some x) :
 ∃ (r:Rg) (tv:Value),cs=[tv,.bool r.b,.bool r.l,.int .i64 r.m]∧Row w 1 tv r.t.length (r.t.map Value.string)∧(tv = .slice none 0 0∨∃ a n c,tv = .slice (some a) n c):=by
 obtain ⟨xs,n,_,hx,hl,hlen,hf⟩:=DataW.trod_struct zu36 h
 have hl4:cs.length=4:=hl.trans cells_range
 match cs,hl4,xs,hlen with
 | [c0,c1,c2,c3],_,[y0,y1,y2,y3],_=>
  have g0:=hf 0 _ rfl
  have g1:=hf 1 _ rfl
  have g2:=hf 2 _ rfl
  have g3:=hf 3 _ rfl
  simp [cells_int,cells_bool,cells_strs] at g0 g1 g2 g3
  obtain ⟨tv,T,e0,hR,hc⟩:=open_texts g0
  obtain ⟨b,e1,_⟩:=DataW.trod_bool zu4 g1
  obtain ⟨l,e2,_⟩:=DataW.trod_bool zu4 g2
  obtain ⟨m,e3,_,_⟩:=DataW.trod_int zu3 g3
  simp only [List.cons.injEq,and_true] at e0 e1 e2 e3
  subst e0 e1 e2 e3
  exact ⟨⟨T,b,l,m⟩,c0,rfl,hR,hc⟩
theorem open_closed {fuel:Nat} {cs:List Value} {x:DataW H×List MemPlace} (h:DataW.trod enc Tryz.prog w base spare held fuel 75 cs=some x) :
 ∃ (e:Ex) (v:Value) (r:Rg) (tv:Value) (pick move:Int),cs=(clA e v r tv pick move).toList∧(Hrd w e v∧(v = .slice none 0 0∨∃ a n c,v = .slice (some a) n c)∧RngX e)∧Row w 1 tv r.t.length (r.t.map Value.string)∧(tv = .slice none 0 0∨∃ a n c,tv = .slice (some a) n c):=by
 obtain ⟨xs,n,_,hx,hl,hlen,hf⟩:=DataW.trod_struct zu75 h
 have hl32:cs.length=32:=hl.trans cells_closed
 match xs,hlen with
 | [y0,y1,y2,y3],_=>
  have g0:=hf 0 _ rfl
  have g1:=hf 1 _ rfl
  have g2:=hf 2 _ rfl
  have g3:=hf 3 _ rfl
  simp [cells_int,cells_ex,cells_range] at g0 g1 g2 g3
  obtain ⟨e,v,e0,hE⟩:=open_ex g0
  obtain ⟨r,tv,e1,hR,htv⟩:=open_range g1
  obtain ⟨p,e2,_,_⟩:=DataW.trod_int zu3 g2
  obtain ⟨m,e3,_,_⟩:=DataW.trod_int zu3 g3
  refine ⟨e,v,r,tv,p,m,?_,hE,hR,htv⟩
  have h1:cs=cs.take 26++((cs.drop 26).take 4++((cs.drop 30).take 1++(cs.drop 31).take 1)):=by
   match cs,hl32 with
   | [c0,c1,c2,c3,c4,c5,c6,c7,c8,c9,c10,c11,c12,c13,c14,c15,c16,c17,c18,c19,c20,c21,c22,c23,c24,c25,c26,c27,c28,c29,c30,c31],_=>rfl
  rw [h1,e0,e1,e2,e3]
  rfl
end
end Go.Proofs.YtlnmhocehgmbbaaGreatDoor

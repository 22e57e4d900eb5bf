/-
  An abstract machine of this place's own: the row's last step, for a law whose call only extends the world. No condition.
-/
import Derived.Test.YtnfehccnofhmnaaRows
import Derived.Test.YtnfehccnofhmnaaTab
import Derived.ProofKit
import Derived.Deep.Slices
import Derived.Lib.SmallJoins
import Derived.JoinedCond
import Derived.OpenShut
set_option linter.all false
namespace Go.Proofs.Ytnfehccnofhmnaa
open Go.ChangeShapes Go.WideShapes Go.ChangeAt Go.RowKit Go.Deep
namespace E

theorem prog_own : ownKnob Try.prog.godebug = none := by kernel_rfl
theorem prog_laid : laidOutB Try.prog = true := by kernel_rfl
theorem mixed : Try.prog.follows .mixedOrders = true := by kernel_rfl
noncomputable def X0 : Ctx := ctxOf Try.prog
theorem gok (loops n : Nat) : GOk Try.prog (callN Try.prog X0 FT loops n) := callN_ok ttOk flatOk mixed ftOk loops n

def isTrue (r : Option (V × Heap)) : Bool := match r with | some (.one (.lit (.bool b)), _) => b | _ => false

theorem isTrue_some {r : Option (V × Heap)} (h : isTrue r = true) : ∃ h', r = some (.one (.lit (.bool true)), h') := by
  unfold isTrue at h
  split at h
  · rename_i b h'
    subst h
    exact ⟨h', rfl⟩
  · cases h

/-- A call that hands nothing back that may be written only extends the world. -/
theorem step_below {β β' : Pls} {w w' : World} {h h' : Heap} (hro : ∀ b x, h.get b = some x → x.rw = false) (hst : Step β noF ⟨[], [], h⟩ w β' noF ⟨[], [], h'⟩ w') : Below w.heap.size w w' :=
  ⟨hst.os, hst.tape, hst.output, hst.size, fun k hk => hst.fr k hk fun hm => by
    rcases hm with ⟨b, x, p, e1, e2, _⟩ | ⟨t, cs, e1, _⟩
    · rw [hro b x e1] at e2; cases e2
    · cases e1⟩

/-- A law without arguments that the machine runs to true. -/
theorem calls_true {f : FuncId} {loops n : Nat} (h : isTrue (callN Try.prog X0 FT loops n f [] ⟨0, []⟩) = true) (W : World) :
    Calls Try.prog f #[] W fun e w' => e = .returned (.bool true) ∧ Below W.heap.size W w' := by
  obtain ⟨h', hr⟩ := isTrue_some h
  obtain ⟨_, _, hc⟩ := gok loops n _ _ _ _ _ hr
  refine (hc (fun _ => none) W [] ⟨fun _ _ => rfl, (fun b x e => by cases e), (fun b b' x x' p p' _ e => by cases e)⟩ trivial).mono fun e w' he => ?_
  obtain ⟨x, β', rfl, hv, _, hst, _⟩ := he
  have hx : x = .bool true := hv
  exact ⟨by rw [hx], step_below (h := ⟨0, []⟩) (fun b x e => by cases e) hst⟩

section
variable {H : Type} {enc : TypeId × Value → H} {P : Program}
/-- Behind a call that extends the world and hands back what the specification says, each argument reads as it did. -/
theorem post_ext {f : Func} {s : ChangeSpec} {apart fresh handsOn again : Bool} {W W' : World} {args : Array Value} {v : Value} {ds gs : List (DataW H)} {before pa pv : List MemPlace}
    (hW : DataW.Whole enc P f.params.toList s.vars apart W args.toList ds gs before)
    (hres : ∀ (b : Nat) (sp : Nat → Bool) (hd : Bool), DataW.TrodAll enc P W' b sp hd f.resultTypes.toList (v.resultList f.resultTypes.size) (s.fn H (ds ++ gs)).results [])
    (hargs : ∀ sp : Nat → Bool, (∀ p ∈ before, sp p.block = true) → DataW.TrodAll enc P W' 0 sp true f.params.toList args.toList (s.fn H (ds ++ gs)).args pa)
    (hvars : ∀ sp : Nat → Bool, (∀ p ∈ before, sp p.block = true) → DataW.TrodVars enc P W' sp s.vars (s.fn H (ds ++ gs)).vars pv)
    (hps : before = pa ++ pv) (hb : Below W.heap.size W W')
    (hok : ∀ (j : Nat) (t : TypeId) (r : Value), f.resultTypes[j]? = some t → (v.resultList f.resultTypes.size)[j]? = some r → Value.okWide P W' .any 0 t r) :
    s.post enc P f apart fresh handsOn again W args v W' := by
  have hlt : ∀ p ∈ before, p.block < W.heap.size := fun p hp => hW.lt p hp
  have hold : ∀ p ∈ before, (fun b => decide (b < W.heap.size)) p.block = true := fun p hp => by simpa using hlt p hp
  refine ⟨ds, gs, before, [], pa, pv, hW, hres _ _ _, hargs _ hold, hvars _ hold, World.keptBut_mono (fun p hp => ⟨hp, ?_⟩) (Below.frame hb (· ∈ before)), fun _ => ?_⟩
  · rw [hps, List.mem_append] at hp
    exact Or.inr hp
  · obtain ⟨_, _, _, _, _, hz, hn⟩ := hW
    refine ⟨hok, _, _, ([] ++ pa) ++ pv, ⟨[] ++ pa, pv, trodAll_append (hargs _ (fun _ _ => rfl)) (hres _ _ _), hvars _ (fun _ _ => rfl), rfl, ?_, ?_⟩, ?_⟩
    · intro b off hp
      have hin : MemPlace.cell b off ∈ before := by rw [hps]; simpa using hp
      rw [Below.frozen hb (hlt _ hin)]
      exact hz b off hin
    · intro ha
      have := hn ha
      rw [hps] at this
      simpa using this
    · intro p hp _
      rw [hps]
      simpa using hp

theorem trod_ext {t : TypeId} (hl : laidOutB P = true) (hr : P.readableRec t = true) (hrow : t < P.types.size) {W W' : World} {sp : Nat → Bool} {v : Value} {d : DataW H} {ps : List MemPlace}
    (h : DataW.Trod enc P W 0 (fun _ => true) true t v d ps) (hb : Below W.heap.size W W') (hlt : ∀ x ∈ ps, x.block < W.heap.size) (hs : ∀ p ∈ ps, sp p.block = true) : DataW.Trod enc P W' 0 sp true t v d ps :=
  WideElems.Trod_stays hl hr hrow h (fun x hx => Below.same hb (hlt x hx)) hs

end
end E
end Go.Proofs.Ytnfehccnofhmnaa

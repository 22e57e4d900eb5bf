/-
  A region that draws its order: those taken ahead; then two that read, in either order; then the rest in the one order that it has. No condition.
-/
import Derived.Test.YtibdplfdmncgiaaMC11
import Derived.BigRegion
import Derived.Deep.DeepCutAuto
import Derived.Deep.MidRow
import Derived.Laws.AppendOwnNone
set_option linter.all false
namespace Go.Proofs.Ytibdplfdmncgiaa
open Go.RowKit
section
variable {P : Program} {md : Region.Mode} {ops : Array Oper}

theorem yields_put {C : World → Prop} {oi oj : Oper} {v : Value} {a : Act} (u : Value) (hap : oi.apart ops oj = true) (hsi : ∀ cs b, oi.op ≠ .select cs b) (hy : YieldsE P ops C oi v a) : YieldsE P ops C oi v (a.put oj.dst u) := by
  obtain ⟨h1, h2, h3⟩ := Oper.apart_spec hap
  exact hy.of_same (execOp_put oi hsi a oj.dst u h3) (wanted_put oi a oj.dst u h3)

theorem wpAnyE_pair {C : World → Prop} {Q : Exit → Act → World → Prop} {k1 k2 : Nat} {o1 o2 : Oper} {v1 v2 : Value} {n : Nat} {l : Array Bool} {a : Act} {w : World} (hC : ∀ w', Ext w w' → C w') (h1 : ops[k1]? = some o1) (h2 : ops[k2]? = some o2)
    (hr : Region.ready md ops l = [k1, k2]) (hr1 : Region.ready md ops (l.setIfInBounds k1 true) = [k2]) (hr2 : Region.ready md ops (l.setIfInBounds k2 true) = [k1]) (hne : k1 ≠ k2)
    (hap : o1.apart ops o2 = true) (hap' : o2.apart ops o1 = true) (hs1 : ∀ cs b, o1.op ≠ .select cs b) (hs2 : ∀ cs b, o2.op ≠ .select cs b)
    (hy1 : YieldsE P ops (Ext w) o1 v1 a) (hy2 : YieldsE P ops (Ext w) o2 v2 a)
    (H : wpAnyE P md ops C Q n ((l.setIfInBounds k1 true).setIfInBounds k2 true) ((a.put o1.dst v1).put o2.dst v2) w) : wpAnyE P md ops C Q (n + 2) l a w := by
  obtain ⟨_, hdd, _⟩ := Oper.apart_spec hap
  intro w' hw'
  refine ⟨fun h => (by rw [hr] at h; cases h), fun j hj => ?_⟩
  rw [hr] at hj
  have hj : j = k1 ∨ j = k2 := by simpa using hj
  rcases hj with rfl | rfl
  · refine hy1.wpOp h1 hw' fun w'' hw'' => ⟨hC _ (hw'.trans hw''), fun w3 hw3 => ⟨fun h => (by rw [hr1] at h; cases h), fun i hi => ?_⟩⟩
    rw [hr1] at hi
    have hi : i = k2 := by simpa using hi
    subst hi
    have e3 := (hw'.trans hw'').trans hw3
    exact (yields_put v1 hap' hs2 hy2).wpOp h2 e3 fun w4 hw4 => ⟨hC _ (e3.trans hw4), wpAnyE_up n H (e3.trans hw4)⟩
  · refine hy2.wpOp h2 hw' fun w'' hw'' => ⟨hC _ (hw'.trans hw''), fun w3 hw3 => ⟨fun h => (by rw [hr2] at h; cases h), fun i hi => ?_⟩⟩
    rw [hr2] at hi
    have hi : i = k1 := by simpa using hi
    subst hi
    have e3 := (hw'.trans hw'').trans hw3
    refine (yields_put v2 hap hs1 hy1).wpOp h1 e3 fun w4 hw4 => ⟨hC _ (e3.trans hw4), ?_⟩
    rw [Array.setIfInBounds_comm _ _ (Ne.symm hne), ← Act.put_comm a v1 v2 hdd]
    exact wpAnyE_up n H (e3.trans hw4)

/-- The Bools of such a region: the mask; the two; the mask with the two. -/
def pairB (md : Region.Mode) (ops : Array Oper) (m m2 : List Bool) (l : List Oper) (n k1 k2 : Nat) : Bool :=
  Region.noSelect ops && decide (m.length = l.length) && decide (m2.length = l.length) && dstsOk n (pickT m l) && decide (k1 ≠ k2) &&
    (match ops[k1]?, ops[k2]? with
     | some o1, some o2 => o1.apart ops o2 && o2.apart ops o1
     | _, _ => false) &&
    decide ((pickT m l).length + (2 + (pickF m2 l).length) = l.length) &&
    (match Region.lexMask md ops m 0 (Array.replicate l.length false) with
     | some le => decide (Region.ready md ops le = [k1, k2]) && decide (Region.ready md ops (le.setIfInBounds k1 true) = [k2]) && decide (Region.ready md ops (le.setIfInBounds k2 true) = [k1]) && seqMask md ops m2 0 ((le.setIfInBounds k1 true).setIfInBounds k2 true)
     | none => false)

/-- A REGION THAT DRAWS ITS ORDER: those that the mask names are taken ahead; then the operations k1 and k2, which read; the rest follows in the one order that it has. -/
theorem wp_region_pair {id : Nat} {Q : Exit → Act → World → Prop} {a af : Act} {w : World} {l : List Oper} (m m2 : List Bool) (n k1 k2 : Nat) (C : World → Prop) (hm : P.follows .mixedOrders = true)
    (hn : a.tmps.size = n) (hB : pairB .any l.toArray m m2 l n k1 k2 = true) (hCE : ∀ w w', C w → Ext w w' → C w') (hC : C w.drew)
    (h : ∀ w', C w' → wpQuiet P l.toArray (fun w'' => ∃ x : ExtOf w', w'' = x.val) (fun a' => a' = af) (pickT m l) a)
    (v1 v2 : Value) (o1 o2 : Oper) (h1 : l[k1]? = some o1) (h2 : l[k2]? = some o2)
    (hy1 : YieldsE P l.toArray (Ext w.drew) o1 v1 af) (hy2 : YieldsE P l.toArray (Ext w.drew) o2 v2 af)
    (hr : wpChain P l.toArray C Q (pickF m2 l) ((af.put o1.dst v1).put o2.dst v2) w.drew) : (Code.region id l.toArray true).wp P Q a w := by
  subst hn
  simp only [pairB, Bool.and_eq_true, decide_eq_true_eq] at hB
  obtain ⟨⟨⟨⟨⟨⟨⟨hs, hl⟩, hl2⟩, hd⟩, hne⟩, hap⟩, hlen⟩, hx⟩ := hB
  have h1' : l.toArray[k1]? = some o1 := by simpa using h1
  have h2' : l.toArray[k2]? = some o2 := by simpa using h2
  rw [h1', h2'] at hap
  simp only [Bool.and_eq_true] at hap
  split at hx
  case h_2 => cases hx
  case h_1 le hle =>
    simp only [Bool.and_eq_true, decide_eq_true_eq] at hx
    obtain ⟨⟨⟨hr0, hr1⟩, hr2⟩, hsq⟩ := hx
    have hsel := Region.noSelect_spec hs
    have hq := walkE_of_quiet (P := P) (ops := l.toArray) ⟨_, hC⟩ (pickT m l) a hd h
    have hch := wpAnyE_of_chain (P := P) (md := .any) (ops := l.toArray) (C := C) (Q := Q) m2 l 0 ((le.setIfInBounds k1 true).setIfInBounds k2 true) _ w.drew hl2 (fun j _ => by simp) hsq hr
    have hp := wpAnyE_pair (P := P) (md := .any) (C := C) (Q := Q) (fun w' e => hCE _ _ hC e) h1' h2' hr0 hr1 hr2 hne hap.1 hap.2 (fun cs b => hsel _ _ cs b h1') (fun cs b => hsel _ _ cs b h2') hy1 hy2 hch
    have := wpAnyE_lex (P := P) (md := .any) (ops := l.toArray) (Q := Q) hCE hs m l 0 _ a w.drew hl (fun j _ => by simp) hle hq hC hp
    rw [show (pickT m l).length + ((pickF m2 l).length + 2) = l.length by omega] at this
    refine Code.wp_mono quiets_imp (wp_region_any hm ?_)
    have h2 := wpAny_of_E _ _ _ _ this
    simpa using h2

/-! ### Operations that wait for all that is taken ahead: of them the class of worlds is not asked -/
def wpAnyL (P : Program) (md : Region.Mode) (ops : Array Oper) (C : World → Prop) (late : Nat → Bool) (Q : Exit → Act → World → Prop) : Nat → Array Bool → Act → World → Prop
  | 0, listed, a, w => Region.ready md ops listed = [] ∧ ∀ w', Ext w w' → Q .normal a w'
  | n + 1, listed, a, w => ∀ w', Ext w w' → ((Region.ready md ops listed = [] → Q .normal a w') ∧
      ∀ i ∈ Region.ready md ops listed, wpOp P ops (Quiets Q) i (fun a' w'' => (late i = false → C w'') ∧ wpAnyL P md ops C late Q n (listed.setIfInBounds i true) a' w'') a w')

theorem wpAnyL_up {C : World → Prop} {late : Nat → Bool} {Q : Exit → Act → World → Prop} : ∀ (n : Nat) {l : Array Bool} {a : Act} {w w' : World}, wpAnyL P md ops C late Q n l a w → Ext w w' → wpAnyL P md ops C late Q n l a w'
  | 0, _, _, _, _, h, e => ⟨h.1, fun _ k => h.2 _ (e.trans k)⟩
  | _ + 1, _, _, _, _, h, e => fun _ k => h _ (e.trans k)

theorem wpAny_of_L {C : World → Prop} {late : Nat → Bool} {Q : Exit → Act → World → Prop} : ∀ (n : Nat) (l : Array Bool) (a : Act) (w : World), wpAnyL P md ops C late Q n l a w → wpAny P md ops (Quiets Q) n l a w
  | 0, _, _, _, h => ⟨h.1, h.2 _ (Ext.refl _)⟩
  | n + 1, _, _, _, h => ⟨fun h0 => (h _ (Ext.refl _)).1 h0, fun i hi => wpOp_mono (fun a' w' h' => wpAny_of_L n _ a' w' h'.2) ((h _ (Ext.refl _)).2 i hi)⟩

/-- A late operation waits for i. -/
def lateFor (md : Region.Mode) (ops : Array Oper) (late : Nat → Bool) (i : Nat) : Prop := ∀ j oj, ops[j]? = some oj → late j = true → ∃ e ∈ oj.after, Region.binds md e = true ∧ e.on = i

/-- An operation that may come up is taken ahead. -/
theorem wpAnyL_first {C : World → Prop} (hCE : ∀ w w', C w → Ext w w' → C w') {Q : Exit → Act → World → Prop} {late : Nat → Bool} {i : Nat} {oi : Oper} {v : Value} (hi : ops[i]? = some oi) (hlt : lateFor md ops late i)
    (hsel : ∀ (j : Nat) (o : Oper) cs b, ops[j]? = some o → o.op ≠ .select cs b) :
    ∀ (n : Nat) (l : Array Bool) (a : Act) (w : World),
      (∀ j oj, ops[j]? = some oj → j ≠ i → l.getD j true = false → (∀ e ∈ oj.after, Region.binds md e = true → e.on ≠ i) → oi.apart ops oj = true) →
      i ∈ Region.ready md ops l → YieldsE P ops C oi v a → C w →
      wpAnyL P md ops C late Q n (l.setIfInBounds i true) (a.put oi.dst v) w → wpAnyL P md ops C late Q (n + 1) l a w := by
  intro n
  induction n with
  | zero =>
    intro l a w _ hr hy hC H w' hw'
    refine ⟨fun h => (by rw [h] at hr; cases hr), fun j hj => ?_⟩
    by_cases hji : j = i
    · subst hji
      exact hy.wpOp hi (hCE _ _ hC hw') fun w'' hw'' => ⟨fun _ => hCE _ _ (hCE _ _ hC hw') hw'', wpAnyL_up 0 H (hw'.trans hw'')⟩
    · have := ready_mono hj hji
      rw [H.1] at this
      cases this
  | succ n ih =>
    intro l a w hfree hr hy hC H w' hw'
    refine ⟨fun h => (by rw [h] at hr; cases hr), fun j hj => ?_⟩
    by_cases hji : j = i
    · subst hji
      exact hy.wpOp hi (hCE _ _ hC hw') fun w'' hw'' => ⟨fun _ => hCE _ _ (hCE _ _ hC hw') hw'', wpAnyL_up (n + 1) H (hw'.trans hw'')⟩
    · have h1 := (H w' hw').2 j (ready_mono hj hji)
      obtain ⟨hjun, oj, hoj, hall⟩ := mem_ready.1 hj
      have hnot : ∀ e ∈ oj.after, Region.binds md e = true → e.on ≠ i := fun e he hb heq => by
        have h2 := hall e he hb
        have h0 := (mem_ready.1 hr).1
        rw [heq] at h2
        rcases Nat.lt_or_ge i l.size with h' | h'
        · simp [h'] at h0 h2; rw [h0] at h2; cases h2
        · simp [Array.getElem?_eq_none h'] at h2
      have h2 := wpOp_behind hoj (hfree j oj hoj hji hjun hnot) (fun cs b => hsel i oi cs b hi) (fun cs b => hsel j oj cs b hoj) hy h1
      have hfree' : ∀ k ok, ops[k]? = some ok → k ≠ i → (l.setIfInBounds j true).getD k true = false →
          (∀ e ∈ ok.after, Region.binds md e = true → e.on ≠ i) → oi.apart ops ok = true := fun k ok hk hki hun hno => by
        refine hfree k ok hk hki ?_ hno
        by_cases hjk : j = k
        · subst hjk; exact hjun
        · rw [getD_set_ne true hjk] at hun; exact hun
      have hlj : late j = false := by
        cases hx : late j with
        | false => rfl
        | true => obtain ⟨e, he, hb, heq⟩ := hlt j oj hoj hx; exact absurd heq (hnot e he hb)
      refine wpOp_mono (fun a' w'' h3 => ⟨h3.2.1, ih (l.setIfInBounds j true) a' w'' hfree' (ready_mono hr (Ne.symm hji)) h3.1 (h3.2.1 hlj) ?_⟩) h2
      rw [Array.setIfInBounds_comm _ _ hji]
      exact h3.2.2

theorem wpAnyL_lex {C : World → Prop} (hCE : ∀ w w', C w → Ext w w' → C w') {Q : Exit → Act → World → Prop} (hs : Region.noSelect ops = true) {af : Act} {le : Array Bool} {g : Nat} {late : Nat → Bool} :
    ∀ (m : List Bool) (l : List Oper) (k : Nat) (listed : Array Bool) (a : Act) (w : World), m.length = l.length → (∀ j, j < l.length → l[j]? = ops[k + j]?) → Region.lexMask md ops m k listed = some le → (∀ i, i < m.length → m[i]? = some true → lateFor md ops late (k + i)) →
    walkE P ops C af (pickT m l) a → C w → wpAnyL P md ops C late Q g le af w → wpAnyL P md ops C late Q ((pickT m l).length + g) listed a w
  | [], [], _, _, _, _, _, _, hm, _, hw, _, h => by
    simp only [Region.lexMask, Option.some.injEq] at hm
    simp only [pickT, walkE] at hw
    subst hm; subst hw
    simpa [pickT] using h
  | [], _ :: _, _, _, _, _, hl, _, _, _, _, _, _ => by simp at hl
  | _ :: _, [], _, _, _, _, hl, _, _, _, _, _, _ => by simp at hl
  | b :: m, o :: l, k, listed, a, w, hl, ho, hm, hlt, hw, hC, h => by
    have hlt' : ∀ i, i < m.length → m[i]? = some true → lateFor md ops late (k + 1 + i) := fun i hi hb => by
      have := hlt (i + 1) (by simp; omega) (by simpa using hb)
      rwa [show k + (i + 1) = k + 1 + i by omega] at this
    have h0 : ops[k]? = some o := by simpa using (ho 0 (by simp)).symm
    have hl' : m.length = l.length := by simpa using hl
    have ho' : ∀ j, j < l.length → l[j]? = ops[k + 1 + j]? := fun j hj => by
      have := ho (j + 1) (by simp; omega)
      simpa [Nat.add_assoc, Nat.add_comm 1 j] using this
    cases b
    · simp only [Region.lexMask, pickT, Bool.false_eq_true, if_false] at hm hw ⊢
      exact wpAnyL_lex hCE hs m l (k + 1) listed a w hl' ho' hm hlt' hw hC h
    · simp only [Region.lexMask, pickT, if_true] at hm hw ⊢
      split at hm
      case isFalse => cases hm
      case isTrue hc =>
        simp only [Bool.and_eq_true] at hc
        obtain ⟨v, hy, hw'⟩ := hw
        have ih := wpAnyL_lex hCE hs m l (k + 1) _ _ w hl' ho' hm hlt' hw' hC h
        rw [List.length_cons, show (pickT m l).length + 1 + g = ((pickT m l).length + g) + 1 by omega]
        exact wpAnyL_first hCE h0 (by simpa using hlt 0 (by simp) rfl) (Region.noSelect_spec hs) _ listed a w (Region.free_spec h0 hc.2) (by simpa using hc.1) hy hC ih


/-- The rest, with the numbers. -/
def pickN : List Bool → Nat → List Oper → List (Nat × Oper)
  | b :: m, k, o :: l => if b then pickN m (k + 1) l else (k, o) :: pickN m (k + 1) l
  | _, _, _ => []
theorem pickN_length : ∀ (m : List Bool) (k : Nat) (l : List Oper), (pickN m k l).length = (pickF m l).length
  | [], _, [] => rfl
  | [], _, _ :: _ => rfl
  | _ :: _, _, [] => rfl
  | b :: m, k, o :: l => by cases b <;> simp [pickN, pickF, pickN_length m (k + 1) l]

def wpChainL (P : Program) (ops : Array Oper) (C : World → Prop) (late : Nat → Bool) (Q : Exit → Act → World → Prop) : List (Nat × Oper) → Act → World → Prop
  | [], a, w => ∀ x : ExtOf w, Q .normal a x.val
  | (k, o) :: l, a, w => ∀ x : ExtOf w, wpList P ops (Exit.then (fun a' w'' => (late k = false → C w'') ∧ wpChainL P ops C late Q l a' w'') (Quiets Q)) [o] a x.val

theorem wpAnyL_of_chain {C : World → Prop} {late : Nat → Bool} {Q : Exit → Act → World → Prop} : ∀ (m : List Bool) (l : List Oper) (k : Nat) (listed : Array Bool) (a : Act) (w : World), m.length = l.length →
    (∀ j, j < l.length → l[j]? = ops[k + j]?) → seqMask md ops m k listed = true → wpChainL P ops C late Q (pickN m k l) a w → wpAnyL P md ops C late Q (pickN m k l).length listed a w
  | [], [], _, _, _, _, _, _, hm, h => ⟨by simpa [seqMask] using hm, fun w' hw' => h ⟨w', hw'⟩⟩
  | [], _ :: _, _, _, _, _, hl, _, _, _ => by simp at hl
  | _ :: _, [], _, _, _, _, hl, _, _, _ => by simp at hl
  | b :: m, o :: l, k, listed, a, w, hl, ho, hm, h => by
    have h0 : ops[k]? = some o := by simpa using (ho 0 (by simp)).symm
    have hl' : m.length = l.length := by simpa using hl
    have ho' : ∀ j, j < l.length → l[j]? = ops[k + 1 + j]? := fun j hj => by
      have := ho (j + 1) (by simp; omega)
      simpa [Nat.add_assoc, Nat.add_comm 1 j] using this
    cases b
    · simp only [seqMask, pickN, Bool.false_eq_true, if_false, Bool.and_eq_true, decide_eq_true_eq] at hm h ⊢
      intro w' hw'
      refine ⟨fun h1 => (by rw [hm.1] at h1; cases h1), fun i hi => ?_⟩
      rw [hm.1] at hi
      have hik : i = k := by simpa using hi
      subst hik
      have hw := h ⟨w', hw'⟩
      simp only [wpList] at hw
      have hop : wpOp P ops (Quiets Q) i (fun a' w'' => (late i = false → C w'') ∧ wpChainL P ops C late Q (pickN m (i + 1) l) a' w'') a w' := by
        unfold wpOp
        simp only [h0]
        by_cases hwd : Region.wanted o (yielded ops a.tmps) = true
        · rw [if_pos hwd] at hw ⊢
          rcases hw with hw | hw
          · refine .inl ?_
            unfold Oper.wp at *
            generalize (execOp a.eval o).run P w' = r at *
            cases r with
            | ok n w2 =>
              cases n <;> simp only [Oper.upon] at hw ⊢
              case value u => exact hw
              case skip => exact hw
              case defer d => exact hw
              case enter f args =>
                exact Calls.mono hw fun e w'' he => by
                  cases e with
                  | returned u => exact he
                  | panicked c => exact he
                  | outgrown => exact he
              case row row args => exact hw
            | halt x w2 =>
              cases x <;> simp only [Oper.upon] at hw ⊢
              case panic u => exact hw
          · exact .inr ⟨hw.1, hw.2⟩
        · rw [if_neg hwd] at hw ⊢
          exact hw
      exact wpOp_mono (fun a' w'' h' => ⟨h'.1, wpAnyL_of_chain m l (i + 1) _ a' w'' hl' ho' hm.2 h'.2⟩) hop
    · simp only [seqMask, pickN, if_true] at hm h ⊢
      exact wpAnyL_of_chain m l (k + 1) listed a w hl' ho' hm h


def lateB (md : Region.Mode) (ops : Array Oper) (m lt : List Bool) (l : List Oper) (n : Nat) : Bool :=
  mixB md ops m l n && (List.range l.length).all fun i => !m.getD i false || (List.range l.length).all fun j => !lt.getD j false || (match ops[j]? with | some oj => oj.after.any fun e => Region.binds md e && e.on == i | none => true)

theorem lateB_spec {md : Region.Mode} {ops : Array Oper} {m lt : List Bool} {l : List Oper} {n : Nat} (hops : ops.size = l.length) (h : lateB md ops m lt l n = true) (hl : m.length = l.length) :
    ∀ i, i < m.length → m[i]? = some true → lateFor md ops (fun j => lt.getD j false) i := fun i hi hm j oj hj hlt => by
  simp only [lateB, Bool.and_eq_true] at h
  have h1 := List.all_eq_true.1 h.2 i (List.mem_range.2 (by omega))
  rw [List.getD_eq_getElem?_getD, hm] at h1
  simp only [Option.getD_some, Bool.not_true, Bool.false_or] at h1
  have hjl : j < l.length := by rw [← hops]; exact (Array.getElem?_eq_some_iff.1 hj).1
  have h2 := List.all_eq_true.1 h1 j (List.mem_range.2 hjl)
  simp only at hlt
  rw [hlt, hj] at h2
  simp only [Bool.not_true, Bool.false_or] at h2
  obtain ⟨e, he, hb⟩ := Array.any_eq_true'.1 h2
  simp only [Bool.and_eq_true, beq_iff_eq] at hb
  exact ⟨e, he, hb.1, hb.2⟩

/-- A REGION THAT DRAWS ITS ORDER: those that the mask names are taken ahead, the rest follows in the one order that it has; of those that 'lt' names, which wait for all that are taken ahead, the class of worlds is not asked. -/
theorem wp_region_late {id : Nat} {Q : Exit → Act → World → Prop} {a af : Act} {w : World} {l : List Oper} (m lt : List Bool) (n : Nat) (C : World → Prop) (hm : P.follows .mixedOrders = true)
    (hn : a.tmps.size = n) (hB : lateB .any l.toArray m lt l n = true) (hCE : ∀ w w', C w → Ext w w' → C w') (hC : C w.drew)
    (h : ∀ w', C w' → wpQuiet P l.toArray (fun w'' => ∃ x : ExtOf w', w'' = x.val) (fun a' => a' = af) (pickT m l) a)
    (hr : wpChainL P l.toArray C (fun j => lt.getD j false) Q (pickN m 0 l) af w.drew) : (Code.region id l.toArray true).wp P Q a w := by
  subst hn
  have hB' := hB
  simp only [lateB, mixB, Bool.and_eq_true, decide_eq_true_eq] at hB
  obtain ⟨⟨⟨⟨hs, hl⟩, hd⟩, hx⟩, _⟩ := hB
  split at hx
  case h_2 => cases hx
  case h_1 le hle =>
    have hq := walkE_of_quiet (P := P) (ops := l.toArray) ⟨_, hC⟩ (pickT m l) a hd h
    have hch := wpAnyL_of_chain (P := P) (md := .any) (ops := l.toArray) (C := C) (Q := Q) (late := fun j => lt.getD j false) m l 0 le af w.drew hl (fun j _ => by simp) hx hr
    have := wpAnyL_lex (P := P) (md := .any) (ops := l.toArray) (Q := Q) hCE hs m l 0 _ a w.drew hl (fun j _ => by simp) hle (by simpa using lateB_spec (by simp) hB' hl) hq hC hch
    rw [pickN_length, pick_length m l hl] at this
    refine Code.wp_mono quiets_imp (wp_region_any hm ?_)
    have h2 := wpAny_of_L _ _ _ _ this
    simpa using h2
end
end Go.Proofs.Ytibdplfdmncgiaa

/-
  Walk: the heap of slots: which of two comes first. No condition.
-/
namespace Go.Proofs.Ytibdplfdmncgiaa
open Go.RowKit
attribute [local go_sem] ExtOf.cell ExtOf.frozen ExtOf.lt ExtOf.le
attribute [local go_sem high] ExtOf.cell2 ExtOf.frozen2 ExtOf.lt2 ExtOf.cell3 ExtOf.frozen3 ExtOf.lt3

/-- A thing that the heap holds: its tick, its place among those of that tick, its timer, when it was pushed. -/
structure Hd where
  a : Int
  o : Int
  i : Int
  n : Int
  deriving DecidableEq
def Hd.cs (x : Hd) : List Value := [.int .i64 x.a, .int .i64 x.o, .int .i64 x.i, .int .i64 x.n]

/-- Does x fall due ahead of y? -/
def lessH (x y : Hd) : Bool := decide (x.a < y.a) || (decide (x.a = y.a) && decide (x.o < y.o))
/-- Does x come ahead of y in the heap? -/
def aheadH (x y : Hd) : Bool := lessH x y || (decide (x.n < y.n) && !lessH y x)

/-- What a heap's order does. -/
def Less (f : FuncId) : Prop := ∀ (x y : Hd) (w : World), Calls Try.prog f #[.agg #[.int .i64 x.a, .int .i64 x.o, .int .i64 x.i], .agg #[.int .i64 y.a, .int .i64 y.o, .int .i64 y.i]] w fun e w' => e = .returned (.bool (lessH x y)) ∧ Ext w w'

/-- The facts that are read of the element k of a row of things. -/
theorem hd_cells {w : World} {g : Nat} {L : List Hd} {k : Nat} {x : Hd} (h : ∀ j u, (L.flatMap Hd.cs)[j]? = some u → w.cell? ⟨g, j, none⟩ = some u) (hx : L[k]? = some x) :
    w.cell? ⟨g, k * 4, none⟩ = some (.int .i64 x.a) ∧ w.cell? ⟨g, k * 4 + 1, none⟩ = some (.int .i64 x.o) ∧ w.cell? ⟨g, k * 4 + 2, none⟩ = some (.int .i64 x.i) ∧ w.cell? ⟨g, k * 4 + 3, none⟩ = some (.int .i64 x.n) := by
  have f := fun j hj => flat_get Hd.cs 4 (fun _ => rfl) L k x hx j hj
  have F : ∀ j u, (Hd.cs x)[j]? = some u → j < 4 → w.cell? ⟨g, k * 4 + j, none⟩ = some u := fun j u hu hj => h _ _ ((f j hj).trans hu)
  exact ⟨F 0 _ rfl (by omega), F 1 _ rfl (by omega), F 2 _ rfl (by omega), F 3 _ rfl (by omega)⟩

set_option maxHeartbeats 800000 in
theorem less_string : Less 47 := fun x y w => by
  obtain ⟨xa, xo, xi, xn⟩ := x
  obtain ⟨ya, yo, yi, yn⟩ := y
  unfold lessH
  by_cases h1 : xa < ya
  · have e1 : (decide (xa < ya)) = true := by simp [h1]
    go_enter Try.func47, Try.ntmps47
    go_wp2_with fail
    go_ret
    exact ⟨by simp [h1], ((Ext.refl _).alloc _).alloc _⟩
  · have e1 : (decide (xa < ya)) = false := by simp [h1]
    by_cases h2 : xa = ya
    · subst h2
      go_enter Try.func47, Try.ntmps47
      go_wp2_with fail
      go_ret
      exact ⟨by simp, ((Ext.refl _).alloc _).alloc _⟩
    · have e2 : (xa == ya) = false := by simp [h2]
      go_enter Try.func47, Try.ntmps47
      go_wp2_with fail
      go_ret
      exact ⟨by simp [h2], ((Ext.refl _).alloc _).alloc _⟩

set_option maxRecDepth 100000 in
set_option maxHeartbeats 4000000 in
theorem ahead_string (bH g n : Nat) (m : Int) (cap i k : Nat) (x y : Hd) (w : World)
    (hb : w.heap[bH]? = some (.cells #[.func (.func 47) #[] #[], .slice (some ⟨g, 0, none⟩) n cap, .int .i64 m] 115 (0, 0)))
    (hx : w.cell? ⟨g, i * 4, none⟩ = some (.int .i64 x.a) ∧ w.cell? ⟨g, i * 4 + 1, none⟩ = some (.int .i64 x.o) ∧ w.cell? ⟨g, i * 4 + 2, none⟩ = some (.int .i64 x.i) ∧ w.cell? ⟨g, i * 4 + 3, none⟩ = some (.int .i64 x.n))
    (hy : w.cell? ⟨g, k * 4, none⟩ = some (.int .i64 y.a) ∧ w.cell? ⟨g, k * 4 + 1, none⟩ = some (.int .i64 y.o) ∧ w.cell? ⟨g, k * 4 + 2, none⟩ = some (.int .i64 y.i) ∧ w.cell? ⟨g, k * 4 + 3, none⟩ = some (.int .i64 y.n))
    (hi : i < n) (hk : k < n) (hg : g < w.heap.size) (hn : n ≤ 1048576) :
    Calls Try.prog 68 #[.pointer (some ⟨bH, 0, none⟩), .int .i64 i, .int .i64 k] w fun e w' => e = .returned (.bool (aheadH x y)) ∧ Ext w w' := by
  obtain ⟨x0, x1, x2, x3⟩ := hx
  obtain ⟨y0, y1, y2, y3⟩ := hy
  have hcb := fun j => cell_of_row w _ j _ _ _ hb
  have lb : bH < w.heap.size := (Array.getElem?_eq_some_iff.1 hb).1
  have i0 : (0 : Int) ≤ (i : Int) := by omega
  have i1 : (i : Int) < (n : Int) := by omega
  have k0 : (0 : Int) ≤ (k : Int) := by omega
  have k1 : (k : Int) < (n : Int) := by omega
  clear hi hk
  go_enter Try.func68, Try.ntmps68
  have HHB := Lib.hid hb
  clear hb
  go_upto_region 1 with fail
  go_cut [7, 8] (fun u v wx => ∃ p q : Nat, u = .pointer (some ⟨p, 0, none⟩) ∧ v = .pointer (some ⟨q, 0, none⟩) ∧ wx.heap[p]? = some (.cells #[.int .i64 x.a, .int .i64 x.o, .int .i64 x.i, .int .i64 x.n] 127 (0, 0)) ∧ wx.heap[q]? = some (.cells #[.int .i64 y.a, .int .i64 y.o, .int .i64 y.i, .int .i64 y.n] 127 (0, 0)) ∧ Hid (Ext w wx))
  case first =>
    go_region
    all_goals go_wp2_with fail
    · go_meet
      exact ⟨_, _, rfl, rfl, heap_ext (heap_new rfl) ((Ext.refl _).alloc _).drew, heap_ext (heap_new (by simp)) (Ext.refl _).drew, (((Ext.refl _).alloc _).alloc _).drew⟩
    · go_meet
      exact ⟨_, _, rfl, rfl, heap_ext (heap_new (by simp)) (Ext.refl _).drew, heap_ext (heap_new rfl) ((Ext.refl _).alloc _).drew, (((Ext.refl _).alloc _).alloc _).drew⟩
  case rest =>
    obtain ⟨p, q, rfl, rfl, hp, hq, HX⟩ := hcut
    have hb2 := heap_ext HHB.out HX.out
    have hcb2 := fun j => cell_of_row wc _ j _ _ _ hb2
    have hcp := fun j => cell_of_row wc _ j _ _ _ hp
    have hcq := fun j => cell_of_row wc _ j _ _ _ hq
    have lp : p < wc.heap.size := (Array.getElem?_eq_some_iff.1 hp).1
    have lq : q < wc.heap.size := (Array.getElem?_eq_some_iff.1 hq).1
    have lb2 : bH < wc.heap.size := (Array.getElem?_eq_some_iff.1 hb2).1
    have HHP := Lib.hid hp
    have HHQ := Lib.hid hq
    have HHB2 := Lib.hid hb2
    clear hp hq hb2 hcb lb x0 x1 x2 x3 y0 y1 y2 y3 hg
    go_wp2_with fail
    refine wp_region_ext (by kernel_rfl) (by kernel_rfl) ?_
    repeat (go_big_quiet_step ((go_at_call 47; exact calls_ext (less_string x y _))))
    refine wpQuiet_nil ?_
    intro _ hx'
    obtain ⟨z, rfl⟩ := hx'
    clear lb2
    have lb2 : bH < wc.heap.size := (Array.getElem?_eq_some_iff.1 HHB2.out).1
    rcases hl : lessH x y
    · by_cases hn2 : x.n < y.n
      · have HN := Lib.hid hn2
        go_wp2_with fail
        refine wp_region_ext (by kernel_rfl) (by kernel_rfl) ?_
        repeat (go_big_quiet_step ((go_at_call 47; exact calls_ext (less_string y x _))))
        refine wpQuiet_nil ?_
        intro _ hx'
        obtain ⟨z2, rfl⟩ := hx'
        go_wp2_with fail
        go_ret
        have h8 : aheadH x y = !lessH y x := by
          have := HN.out
          unfold aheadH
          rw [hl, decide_eq_true (by omega)]
          simp
        exact ⟨by simp [h8], (HX.out.val z).val z2⟩
      · have HN := Lib.hid hn2
        have hn3 : decide (x.n < y.n) = false := by simp [hn2]
        go_wp2_with fail
        refine wp_region_ext (by kernel_rfl) (by kernel_rfl) ?_
        repeat (go_big_quiet_step (fail))
        refine wpQuiet_nil ?_
        intro _ hx'
        obtain ⟨z2, rfl⟩ := hx'
        go_wp2_with fail
        go_ret
        have h8 : aheadH x y = false := by
          have := HN.out
          unfold aheadH
          rw [hl, decide_eq_false (by omega)]
          rfl
        exact ⟨by simp [h8], (HX.out.val z).val z2⟩
    · go_wp2_with fail
      go_ret
      exact ⟨by simp [aheadH, hl], HX.out.val z⟩
end Go.Proofs.Ytibdplfdmncgiaa

/-
  The heap's list: two things exchanged; a thing goes up; rows of things in memory. No condition.
-/
namespace Go.Proofs.Ytibdplfdmncgiaa
open Go.RowKit

/-- Two things exchanged. -/
def swapH (L : List Hd) (i j : Nat) : List Hd := match L[i]?, L[j]? with
  | some x, some y => (L.set i y).set j x
  | _, _ => L

theorem swapH_eq {L : List Hd} {i j : Nat} {x y : Hd} (hx : L[i]? = some x) (hy : L[j]? = some y) : swapH L i j = (L.set i y).set j x := by
  unfold swapH; rw [hx, hy]
theorem swapH_length (L : List Hd) (i j : Nat) : (swapH L i j).length = L.length := by
  unfold swapH; split <;> simp

/-- The thing at i goes up, as far as it comes ahead of the one above it. -/
def upH : Nat → List Hd → Nat → List Hd
  | 0, L, _ => L
  | f + 1, L, i => match L[i]?, L[(i - 1) / 2]? with
    | some x, some y => if 0 < i ∧ aheadH x y = true then upH f (swapH L i ((i - 1) / 2)) ((i - 1) / 2) else L
    | _, _ => L

theorem upH_stop {f i : Nat} {L : List Hd} (h : ∀ x y, L[i]? = some x → L[(i - 1) / 2]? = some y → 0 < i → aheadH x y = false) : upH f L i = L := by
  cases f with
  | zero => rfl
  | succ f =>
    unfold upH
    split
    · rename_i x y hx hy
      rw [if_neg]
      rintro ⟨h0, h1⟩
      rw [h x y hx hy h0] at h1
      cases h1
    · rfl
theorem upH_go {f i : Nat} {L : List Hd} {x y : Hd} (hx : L[i]? = some x) (hy : L[(i - 1) / 2]? = some y) (h0 : 0 < i) (h1 : aheadH x y = true) (hf : i ≤ f) : upH f L i = upH (f - 1) (swapH L i ((i - 1) / 2)) ((i - 1) / 2) := by
  obtain ⟨g, rfl⟩ : ∃ g, f = g + 1 := ⟨f - 1, by omega⟩
  show (match L[i]?, L[(i - 1) / 2]? with | some x, some y => if 0 < i ∧ aheadH x y = true then upH g (swapH L i ((i - 1) / 2)) ((i - 1) / 2) else L | _, _ => L) = _
  rw [hx, hy]
  simp only [Nat.add_sub_cancel]
  rw [if_pos ⟨h0, h1⟩]

/-! ### Memory -/
theorem setCell_row {w : World} {b o : Nat} {arr : Array Value} {e : TypeId} {fr : Nat × Nat} (h : w.heap[b]? = some (.cells arr e fr)) (v : Value) : (w.setCell ⟨b, o, none⟩ v).heap[b]? = some (.cells (arr.setIfInBounds o v) e fr) := by
  simp [World.setCell, Array.getElem?_modify, h]

theorem set_four {arr : Array Value} {o : Nat} {a b c d : Value} {j : Nat} (h : o + 4 ≤ arr.size) :
    ((((arr.setIfInBounds o a).setIfInBounds (o + 1) b).setIfInBounds (o + 2) c).setIfInBounds (o + 3) d)[j]? = if j < o ∨ o + 4 ≤ j then arr[j]? else [a, b, c, d][j - o]? := by
  simp only [Array.getElem?_setIfInBounds, Array.size_setIfInBounds]
  by_cases h0 : j < o ∨ o + 4 ≤ j
  · rw [if_pos h0, if_neg (by omega), if_neg (by omega), if_neg (by omega), if_neg (by omega)]
  · rw [if_neg h0]
    obtain rfl | rfl | rfl | rfl : j = o ∨ j = o + 1 ∨ j = o + 2 ∨ j = o + 3 := by omega
    all_goals simp
    all_goals omega

theorem hd_flat (L : List Hd) : (L.flatMap Hd.cs).length = L.length * 4 := by
  induction L with
  | nil => rfl
  | cons x L ih => rw [List.flatMap_cons, List.length_append, ih, List.length_cons, show x.cs.length = 4 from rfl]; omega

theorem hd_at {L : List Hd} {j : Nat} : (L.flatMap Hd.cs)[j]? = (L[j / 4]?).bind fun x => x.cs[j % 4]? := by
  cases hx : L[j / 4]? with
  | none =>
    rw [Option.bind_none, List.getElem?_eq_none_iff, hd_flat]
    have := List.getElem?_eq_none_iff.1 hx
    omega
  | some x =>
    have := flat_get Hd.cs 4 (fun _ => rfl) L (j / 4) x hx (j % 4) (by omega)
    rw [show j / 4 * 4 + j % 4 = j by omega] at this
    rw [this]; rfl

/-- A thing is laid into a row of the call's own. -/
theorem own_put {w : World} {B : Nat} {e : TypeId} {g n cap : Nat} {L : List Hd} (h : w.ownsRow B e 4 (.slice (some ⟨g, 0, none⟩) n cap) n (L.flatMap Hd.cs)) {i : Nat} (hi : i < n) (y : Hd) :
    (w.setCells g (i * 4) y.cs).ownsRow B e 4 (.slice (some ⟨g, 0, none⟩) n cap) n ((L.set i y).flatMap Hd.cs) := by
  obtain ⟨hl, h⟩ := h
  rw [hd_flat] at hl
  refine ⟨by rw [hd_flat, List.length_set]; exact hl, ?_⟩
  rcases h with ⟨hv, _⟩ | ⟨g', cap', cur, hv, hb, hg, hn, hm, hs, hx⟩
  · cases hv
  · cases hv
    refine .inr ⟨g, cap, _, rfl, hb, (setCell_row (setCell_row (setCell_row (setCell_row hg _) _) _) _), hn, hm, by simp [hs], ?_⟩
    have hsz : i * 4 + 4 ≤ cur.size := by rw [hs]; omega
    refine List.ext_getElem? fun j => ?_
    by_cases hj : j < n * 4
    · rw [List.getElem?_take_of_lt hj, Array.getElem?_toList, set_four hsz, hd_at]
      have hL : ∀ j, j < n * 4 → cur[j]? = (L[j / 4]?).bind fun x => x.cs[j % 4]? := fun j hj => by
        rw [← hd_at, ← hx, List.getElem?_take_of_lt hj, Array.getElem?_toList]
      by_cases hc : j < i * 4 ∨ i * 4 + 4 ≤ j
      · rw [if_pos hc, hL j hj, List.getElem?_set_ne (by omega)]
      · rw [if_neg hc]
        have h4 : j / 4 = i := by omega
        rw [h4, List.getElem?_set_self (by omega), Option.bind_some, show j % 4 = j - i * 4 by omega]
        rfl
    · rw [List.getElem?_eq_none (by simp; omega), List.getElem?_eq_none (by rw [hd_flat, List.length_set]; omega)]

theorem puts_other {w : World} {g o k : Nat} {vs : List Value} (h : k ≠ g) : (w.setCells g o vs).heap[k]? = w.heap[k]? := by
  induction vs generalizing w o with
  | nil => rfl
  | cons v vs ih =>
    rw [World.setCells, ih]
    simp only [World.setCell, Array.getElem?_modify]
    rw [if_neg (Ne.symm h)]
theorem puts_size {w : World} {g o : Nat} {vs : List Value} : (w.setCells g o vs).heap.size = w.heap.size := by
  induction vs generalizing w o with
  | nil => rfl
  | cons v vs ih => rw [World.setCells, ih]; simp [World.setCell]
theorem puts_rest {w : World} {g o : Nat} {vs : List Value} : (w.setCells g o vs).os = w.os ∧ (w.setCells g o vs).tape = w.tape ∧ (w.setCells g o vs).output = w.output := by
  induction vs generalizing w o with
  | nil => exact ⟨rfl, rfl, rfl⟩
  | cons v vs ih => rw [World.setCells]; exact ih

/-- The world w' holds the blocks of w, but for those named, as they were. -/
structure Keeps (X : List Nat) (w w' : World) : Prop where
  os : w'.os = w.os
  tape : w'.tape = w.tape
  output : w'.output = w.output
  size : w.heap.size ≤ w'.heap.size
  block : ∀ k, k < w.heap.size → k ∉ X → w'.heap[k]? = w.heap[k]?

theorem Keeps.refl (X : List Nat) (w : World) : Keeps X w w := ⟨rfl, rfl, rfl, Nat.le_refl _, fun _ _ _ => rfl⟩
theorem Keeps.trans {X : List Nat} {a b c : World} (h : Keeps X a b) (k : Keeps X b c) : Keeps X a c :=
  ⟨k.os.trans h.os, k.tape.trans h.tape, k.output.trans h.output, Nat.le_trans h.size k.size, fun i hi hx => (k.block i (Nat.lt_of_lt_of_le hi h.size) hx).trans (h.block i hi hx)⟩
theorem Keeps.mono {X Y : List Nat} {a b : World} (h : Keeps X a b) (hs : ∀ k ∈ X, k ∈ Y) : Keeps Y a b := ⟨h.os, h.tape, h.output, h.size, fun i hi hx => h.block i hi fun he => hx (hs i he)⟩
theorem Keeps.ext {X : List Nat} {a b c : World} (h : Keeps X a b) (k : Ext b c) : Keeps X a c :=
  ⟨k.os.trans h.os, k.tape.trans h.tape, k.output.trans h.output, Nat.le_trans h.size k.size, fun i hi hx => (k.block i (Nat.lt_of_lt_of_le hi h.size)).trans (h.block i hi hx)⟩
/-- .. behind a store into a named block, or into one that is new. -/
theorem Keeps.put {X : List Nat} {a b : World} (h : Keeps X a b) {g : Nat} (hg : g ∈ X ∨ a.heap.size ≤ g) (o : Nat) (vs : List Value) : Keeps X a (b.setCells g o vs) := by
  refine ⟨puts_rest.1.trans h.os, puts_rest.2.1.trans h.tape, puts_rest.2.2.trans h.output, by rw [puts_size]; exact h.size, fun i hi hx => ?_⟩
  refine (puts_other ?_).trans (h.block i hi hx)
  rcases hg with hg | hg
  · rintro rfl; exact hx hg
  · omega
theorem Keeps.cell {X : List Nat} {a b : World} (h : Keeps X a b) {p : Addr} {v : Value} (hp : p.block ∉ X) (hc : a.cell? p = some v) : b.cell? p = some v := by
  rw [← hc]
  exact World.cell?_of_block (h.block _ (World.block_lt_of_cell? a _ hc) hp)

/-- The block of a row. -/
def rowB (v : Value) : List Nat := match v.ownBlock with
  | some g => [g]
  | none => []

section
variable {P : Program}
theorem run_append_where (w : World) (base : Nat) (t ty e : TypeId) (i : TypeInfo) (z : Value) (size bytes : Nat) (ht : P.underlying t = some (.slice e)) (hi : P.info? e = some i) (hz : i.zero = some z)
    (hsize : i.size = size) (hby : i.bytes = bytes) (hzs : z.cells.size = size) (hsz : 0 < size)
    (v : Value) (n : Nat) (xs : List Value) (hown : w.ownsRow base e size v n xs)
    (a : Addr) (m c : Nat) (news : List Value) (hm : 0 < m) (hl : news.length = m * size) (hnews : ∀ j u, news[j]? = some u → w.cell? (a.add j) = some u) (h1 : ∀ u ∈ news, u.oneCell' = true)
    (h63 : n + m ≤ maxLen) (hbytes : (n + m) * bytes ≤ 140737488355328) (hbase : base ≤ w.heap.size) :
    ∃ v' w', (Builtin.append_ #[t, t] ty #[v, .slice (some a) m c]).run P w = .ok v' w' ∧ w'.ownsRow base e size v' (n + m) (xs ++ news) ∧ w.grownBy w' v.ownBlock ∧ (∀ g ∈ rowB v', g ∈ rowB v ∨ w.heap.size ≤ g) := by
  obtain ⟨v', w', hr, h2, h3, _⟩ := run_append_own (P := P) w base t ty e i z size bytes ht hi hz hsize hby hzs hsz v n xs hown a m c news hl hnews h1 h63 hbytes hbase
  refine ⟨v', w', hr, h2, h3, ?_⟩
  subst hsize; subst hby
  have hsmall : n + m ≤ 9223372036854775807 := by simp only [maxLen] at h63; omega
  rcases hown.2 with ⟨hv, hn⟩ | ⟨g, cap, cur, hv, hbg, hg, hnc, hcm, hcs, htake⟩
  · subst hv; subst hn
    have hr2 := run_append_nil (P := P) w t ty e i z ht hi hz a m c news hl hnews hm (by omega) (by have hb := hbytes; simp only [Nat.zero_add] at hb; omega)
    rw [hr2] at hr
    cases hr
    intro g hg
    simp only [rowB, Value.ownBlock, List.mem_singleton] at hg
    exact .inr (by omega)
  · subst hv
    by_cases hroom : n + m ≤ cap
    · have hfit : n * i.size + news.length ≤ cur.size := by rw [hl, hcs, ← Nat.add_mul]; exact Nat.mul_le_mul_right _ hroom
      have hr2 := run_append_room (P := P) w t ty e i ht hi g n cap cur hg a m c news hl hnews h1 hroom hfit
      rw [hr2] at hr
      cases hr
      exact fun k hk => .inl hk
    · have holds : ∀ j u, xs[j]? = some u → w.cell? ((⟨g, 0, none⟩ : Addr).add j) = some u := hown.cells (g := g) rfl
      have hr2 := run_append_grow (P := P) w t ty e i z ht hi hz ⟨g, 0, none⟩ n cap xs hown.1 holds a m c news hl hnews (by omega) (by omega) (growslice_fits (by omega) hbytes)
      rw [hr2] at hr
      cases hr
      intro k hk
      simp only [rowB, Value.ownBlock, List.mem_singleton] at hk
      exact .inr (by omega)

/-- append to a row of the call's own, of what was just built; where the row lies then. -/
theorem wpList_app5 {ops : Array Oper} {rest : List Oper} {o : Oper} {a : Act} {Q : Exit → Act → World → Prop} {w : World} (B : Nat) (t e : TypeId) (i : TypeInfo) (z : Value) (size bytes : Nat)
    (ht : P.underlying t = some (.slice e)) (hi : P.info? e = some i) (hz : i.zero = some z) (hsize : i.size = size) (hby : i.bytes = bytes) (hzs : z.cells.size = size) (hsz : 0 < size)
    (hgd : o.guard = none) (s x : Operand) (ho : o.op = .call { callee := .builtin .append, args := #[s, x], argTypes := #[t, t] })
    (v : Value) (n : Nat) (xs : List Value) (hs : a.eval s = v) (hown : w.ownsRow B e size v n xs) (hB : B ≤ w.heap.size)
    (G m c : Nat) (news : Array Value) (hm : 0 < m) (hx : a.eval x = .slice (some ⟨G, 0, none⟩) m c) (hG : w.heap[G]? = some (.cells news e (0, 0))) (hl : news.size = m * size) (h1 : ∀ u ∈ news.toList, u.oneCell' = true)
    (h63 : n + m ≤ maxLen) (hbytes : (n + m) * bytes ≤ 140737488355328)
    (h : ∀ v' w', w'.ownsRow B e size v' (n + m) (xs ++ news.toList) → w.grownBy w' v.ownBlock → (∀ g ∈ rowB v', g ∈ rowB v ∨ w.heap.size ≤ g) → wpList P ops Q rest (a.put o.dst v') w') : wpList P ops Q (o :: rest) a w := by
  refine wpList_plain hgd fun _ hK => ?_
  obtain ⟨v', w', hr, h2, h3, h4⟩ := run_append_where (P := P) w B t o.type e i z size bytes ht hi hz hsize hby hzs hsz v n xs hown ⟨G, 0, none⟩ m c news.toList hm (by simpa using hl) (fun j u hj => by
      have : (⟨G, 0, none⟩ : Addr).add j = ⟨G, j, none⟩ := by unfold Addr.add; split <;> simp_all
      rw [this, cell_of_row w G j news e (0, 0) hG]
      simpa using hj) h1 h63 hbytes hB
  unfold Oper.wp execOp
  simp only [ho, resolve, invoke, builtin, Sem.run_bind, Sem.run_pure, Result.andThen_ok, List.map_toArray, List.map_cons, List.map_nil, hs, hx, hr]
  exact hK _ _ (h v' w' h2 h3 h4)
end

theorem but_trans {X : Option Nat} {a b c : World} (h : a.grownBy b X) (k : b.grownBy c X) : a.grownBy c X :=
  ⟨k.os.trans h.os, k.tape.trans h.tape, k.output.trans h.output, Nat.le_trans h.size k.size, fun i hi hx => (k.block i (Nat.lt_of_lt_of_le hi h.size) hx).trans (h.block i hi hx)⟩
theorem keeps_grown {X : List Nat} {a b c : World} (h : Keeps X a b) {v : Value} (k : b.grownBy c v.ownBlock) (hv : ∀ g ∈ rowB v, g ∈ X) : Keeps X a c :=
  ⟨k.os.trans h.os, k.tape.trans h.tape, k.output.trans h.output, Nat.le_trans h.size k.size, fun i hi hx => (k.block i (Nat.lt_of_lt_of_le hi h.size) (fun he => hx (hv i (by unfold rowB; rw [← he]; exact .head _)))).trans (h.block i hi hx)⟩
theorem cell_other {w : World} {b o k : Nat} {v : Value} (h : k ≠ b) : (w.setCell ⟨b, o, none⟩ v).heap[k]? = w.heap[k]? := by
  simp only [World.setCell, Array.getElem?_modify]
  rw [if_neg (Ne.symm h)]
theorem Keeps.setCell {X : List Nat} {a b : World} (h : Keeps X a b) {g : Nat} (hg : g ∈ X ∨ a.heap.size ≤ g) (o : Nat) (v : Value) : Keeps X a (b.setCell ⟨g, o, none⟩ v) := by
  refine ⟨h.os, h.tape, h.output, by simpa [World.setCell] using h.size, fun i hi hx => ?_⟩
  refine (cell_other ?_).trans (h.block i hi hx)
  rcases hg with hg | hg
  · rintro rfl; exact hx hg
  · omega
/-- A row stays where its blocks stay. -/
theorem own_same {w w' : World} {base : Nat} {e : TypeId} {size : Nat} {v : Value} {n : Nat} {xs : List Value} (h : w.ownsRow base e size v n xs) (hk : ∀ k, base ≤ k → k < w.heap.size → w'.heap[k]? = w.heap[k]?) : w'.ownsRow base e size v n xs := by
  refine ⟨h.1, h.2.imp id ?_⟩
  rintro ⟨g, cap, cur, hv, hb, hg, r⟩
  exact ⟨g, cap, cur, hv, hb, by rw [hk g hb (Array.getElem?_eq_some_iff.1 hg).1]; exact hg, r⟩

theorem cell_keep {w w' : World} {a : Addr} {v : Value} (h : w.cell? a = some v) (e : Ext w w') : w'.cell? a = some v := by
  rw [Below.cell e (World.block_lt_of_cell? w _ h)]; exact h

/-- A struct in the middle of a block is read, in every world of a class. -/
theorem yieldsE_load {P : Program} {ops : Array Oper} {C : World → Prop} {op : Oper} {a : Act} (hw : Region.wanted op (yielded ops a.tmps) = true) (ty : TypeId) (x : Operand) (ho : op.op = .load ty x)
    (b o : Nat) (hx : a.eval x = .pointer (some ⟨b, o, none⟩)) (cs : List Value) (d : TypeDesc) (hS : ∀ w, C w → w.rangeAt b o cs)
    (hu : P.underlying ty = some d) (hd : d.isRow = true) (hi : (P.info? ty).map (·.size) = some cs.length) : YieldsE P ops C op (.agg cs.toArray) a :=
  .inl ⟨hw, fun w hw' => by
    unfold Oper.quietAt execOp
    simp only [ho, hx, Instr.loadAt, Instr.sureAddr, Sem.run_bind, Sem.run_pure, Result.andThen_ok, run_loadVar_mid w b o ty cs d (hS w hw') hu hd hi]
    exact ⟨rfl, rfl⟩⟩

theorem range_four {w : World} {g o : Nat} {x : Hd} (h : w.cell? ⟨g, o, none⟩ = some (.int .i64 x.a) ∧ w.cell? ⟨g, o + 1, none⟩ = some (.int .i64 x.o) ∧ w.cell? ⟨g, o + 2, none⟩ = some (.int .i64 x.i) ∧ w.cell? ⟨g, o + 3, none⟩ = some (.int .i64 x.n)) {w' : World} (e : Ext w w') : w'.rangeAt g o x.cs := by
  intro j v hj
  match j, hj with
  | 0, hj => simp only [Hd.cs, List.getElem?_cons_zero, Option.some.injEq] at hj; subst hj; exact cell_keep h.1 e
  | 1, hj => simp only [Hd.cs, List.getElem?_cons_succ, List.getElem?_cons_zero, Option.some.injEq] at hj; subst hj; exact cell_keep h.2.1 e
  | 2, hj => simp only [Hd.cs, List.getElem?_cons_succ, List.getElem?_cons_zero, Option.some.injEq] at hj; subst hj; exact cell_keep h.2.2.1 e
  | 3, hj => simp only [Hd.cs, List.getElem?_cons_succ, List.getElem?_cons_zero, Option.some.injEq] at hj; subst hj; exact cell_keep h.2.2.2 e
  | j + 4, hj => simp [Hd.cs] at hj

/-- A thing of an own row may be written. -/
theorem own_there {w : World} {B : Nat} {e : TypeId} {g n cap : Nat} {xs : List Value} (h : w.ownsRow B e 4 (.slice (some ⟨g, 0, none⟩) n cap) n xs) {i : Nat} (hi : i < n) : w.there g (i * 4) 4 := by
  obtain ⟨_, h⟩ := h
  rcases h with ⟨hv, _⟩ | ⟨g', cap', cur, hv, hb, hg, hn, hm, hs, hx⟩
  · cases hv
  · cases hv
    intro j hj
    refine ⟨?_, frozen_of_row w _ _ _ _ hg⟩
    rw [cell_of_row w g _ cur e (0, 0) hg]
    rw [Array.getElem?_eq_getElem (by rw [hs]; omega)]
    rfl

theorem but_puts {X : Nat} {a w : World} (h : a.grownBy w (some X)) (o : Nat) (vs : List Value) : a.grownBy (w.setCells X o vs) (some X) :=
  ⟨puts_rest.1.trans h.os, puts_rest.2.1.trans h.tape, puts_rest.2.2.trans h.output, by rw [puts_size]; exact h.size, fun k hk hn => (puts_other (fun e => hn (by rw [e]))).trans (h.block k hk hn)⟩
theorem info_four (x : Hd) : (Try.prog.info? 127).map (·.size) = some x.cs.length := by
  rw [show x.cs.length = 4 from rfl]
  kernel_rfl

theorem Keeps.setRow {X : List Nat} {a b : World} (h : Keeps X a b) {g : Nat} (hg : g ∈ X ∨ a.heap.size ≤ g) (cs : Array Value) : Keeps X a (b.setRow g cs) := by
  refine ⟨h.os, h.tape, h.output, by simpa using h.size, fun i hi hx => ?_⟩
  refine (setRow_other b g i cs ?_).trans (h.block i hi hx)
  rcases hg with hg | hg
  · rintro rfl; exact hx hg
  · omega
end Go.Proofs.Ytibdplfdmncgiaa

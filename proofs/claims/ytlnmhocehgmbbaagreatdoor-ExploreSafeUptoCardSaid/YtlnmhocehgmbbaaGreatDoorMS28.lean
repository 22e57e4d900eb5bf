/-
  A region that draws its order and ends in one store: what it stores into may be what it loads. Those that the mask names are taken ahead, the rest follows in the one order that it has; behind the last one nothing is asked of the class of worlds. No condition.
-/
import Derived.Test.YtlnmhocehgmbbaaGreatDoorMS27
namespace Go.Proofs.YtlnmhocehgmbbaaGreatDoor
open Go.RowKit
section
variable {P : Program} {md : Region.Mode} {ops : Array Oper}

/-- Whatever order is picked; the class is asked as long as number t has not come up. -/
def wpAnyT (P : Program) (md : Region.Mode) (ops : Array Oper) (t : Nat) (C : World → Prop) (Q : Exit → Act → World → Prop) : Nat → Array Bool → Act → World → Prop
  | 0, listed, a, w => Region.ready md ops listed = [] ∧ ∀ w', Ext w w' → Q .normal a w'
  | n + 1, listed, a, w => ∀ w', Ext w w' → ((Region.ready md ops listed = [] → Q .normal a w') ∧
      ∀ i ∈ Region.ready md ops listed, wpOp P ops (Quiets Q) i (fun a' w'' => ((listed.setIfInBounds i true).getD t true = false → C w'') ∧ wpAnyT P md ops t C Q n (listed.setIfInBounds i true) a' w'') a w')
theorem wpAnyT_up {t : Nat} {C : World → Prop} {Q : Exit → Act → World → Prop} : ∀ (n : Nat) {l : Array Bool} {a : Act} {w w' : World}, wpAnyT P md ops t C Q n l a w → Ext w w' → wpAnyT P md ops t C Q n l a w'
  | 0, _, _, _, _, h, e => ⟨h.1, fun _ k => h.2 _ (e.trans k)⟩
  | _ + 1, _, _, _, _, h, e => fun _ k => h _ (e.trans k)
theorem wpAny_of_T {t : Nat} {C : World → Prop} {Q : Exit → Act → World → Prop} : ∀ (n : Nat) (l : Array Bool) (a : Act) (w : World), wpAnyT P md ops t C Q n l a w → wpAny P md ops (Quiets Q) n l a w
  | 0, _, _, _, h => ⟨h.1, h.2 _ (Ext.refl _)⟩
  | n + 1, _, _, _, h => ⟨fun h0 => (h _ (Ext.refl _)).1 h0, fun i hi => wpOp_mono (fun a' w' h' => wpAny_of_T n _ a' w' h'.2) ((h _ (Ext.refl _)).2 i hi)⟩

/-- An operation that may come up, and that number t waits for, is taken ahead. -/
theorem wpAnyT_first {t : Nat} {C : World → Prop} (hCE : ∀ w w', C w → Ext w w' → C w') {Q : Exit → Act → World → Prop} {i : Nat} {oi : Oper} {v : Value} (hi : ops[i]? = some oi)
    (hsel : ∀ (j : Nat) (o : Oper) cs b, ops[j]? = some o → o.op ≠ .select cs b) (hti : t ≠ i) (hwt : ∃ ot, ops[t]? = some ot ∧ ∃ e ∈ ot.after, Region.binds md e = true ∧ e.on = i) :
    ∀ (n : Nat) (l : Array Bool) (a : Act) (w : World),
      (∀ j oj, ops[j]? = some oj → j ≠ i → l.getD j true = false → (∀ e ∈ oj.after, Region.binds md e = true → e.on ≠ i) → oi.apart ops oj = true) →
      i ∈ Region.ready md ops l → YieldsE P ops C oi v a → C w → l.getD t true = false →
      wpAnyT P md ops t C Q n (l.setIfInBounds i true) (a.put oi.dst v) w → wpAnyT P md ops t C Q (n + 1) l a w := by
  intro n
  induction n with
  | zero =>
    intro l a w _ hr hy hC ht0 H w' hw'
    refine ⟨fun h => (by rw [h] at hr; cases hr), fun j hj => ?_⟩
    by_cases hji : j = i
    · subst hji
      exact hy.wpOp hi (hCE _ _ hC hw') fun w'' hw'' => ⟨fun _ => hCE _ _ (hCE _ _ hC hw') hw'', wpAnyT_up 0 H (hw'.trans hw'')⟩
    · have := ready_mono hj hji
      rw [H.1] at this
      cases this
  | succ n ih =>
    intro l a w hfree hr hy hC ht0 H w' hw'
    refine ⟨fun h => (by rw [h] at hr; cases hr), fun j hj => ?_⟩
    by_cases hji : j = i
    · subst hji
      exact hy.wpOp hi (hCE _ _ hC hw') fun w'' hw'' => ⟨fun _ => hCE _ _ (hCE _ _ hC hw') hw'', wpAnyT_up (n + 1) H (hw'.trans hw'')⟩
    · have h1 := (H w' hw').2 j (ready_mono hj hji)
      obtain ⟨hjun, oj, hoj, hall⟩ := mem_ready.1 hj
      have hnot : ∀ e ∈ oj.after, Region.binds md e = true → e.on ≠ i := fun e he hb heq => by
        have h2 := hall e he hb
        have h0 := (mem_ready.1 hr).1
        rw [heq] at h2
        rcases Nat.lt_or_ge i l.size with h' | h'
        · simp [h'] at h0 h2; rw [h0] at h2; cases h2
        · simp [Array.getElem?_eq_none h'] at h2
      have hjt : j ≠ t := fun e => by
        obtain ⟨ot, hot, ed, hed, hb, hon⟩ := hwt
        rw [← e, hoj] at hot
        cases hot
        exact hnot ed hed hb hon
      have h2 := wpOp_behind hoj (hfree j oj hoj hji hjun hnot) (fun cs b => hsel i oi cs b hi) (fun cs b => hsel j oj cs b hoj) hy h1
      have hfree' : ∀ k ok, ops[k]? = some ok → k ≠ i → (l.setIfInBounds j true).getD k true = false →
          (∀ e ∈ ok.after, Region.binds md e = true → e.on ≠ i) → oi.apart ops ok = true := fun k ok hk hki hun hno => by
        refine hfree k ok hk hki ?_ hno
        by_cases hjk : j = k
        · subst hjk; exact hjun
        · rw [getD_set_ne true hjk] at hun; exact hun
      refine wpOp_mono (fun a' w'' h3 => ?_) h2
      have hc : C w'' := h3.2.1 (by rw [getD_set_ne true hjt, getD_set_ne true (Ne.symm hti)]; exact ht0)
      refine ⟨fun _ => hc, ih (l.setIfInBounds j true) a' w'' hfree' (ready_mono hr (Ne.symm hji)) h3.1 hc (by rw [getD_set_ne true hjt]; exact ht0) ?_⟩
      rw [Array.setIfInBounds_comm _ _ hji]
      exact h3.2.2

/-- Number t waits for each that the mask names. -/
def waitsB (md : Region.Mode) (ops : Array Oper) (t : Nat) : List Bool → Nat → Bool
  | [], _ => true
  | b :: m, k => (!b || (decide (t ≠ k) && (match ops[t]? with | some ot => ot.after.any fun e => Region.binds md e && decide (e.on = k) | none => false))) && waitsB md ops t m (k + 1)

theorem wpAnyT_lex {t : Nat} {C : World → Prop} (hCE : ∀ w w', C w → Ext w w' → C w') {Q : Exit → Act → World → Prop} (hs : Region.noSelect ops = true) {af : Act} {le : Array Bool} {g : Nat} :
    ∀ (m : List Bool) (l : List Oper) (k : Nat) (listed : Array Bool) (a : Act) (w : World), m.length = l.length → (∀ j, j < l.length → l[j]? = ops[k + j]?) → Region.lexMask md ops m k listed = some le → waitsB md ops t m k = true → listed.getD t true = false →
    walkE P ops C af (pickT m l) a → C w → wpAnyT P md ops t C Q g le af w → wpAnyT P md ops t C Q ((pickT m l).length + g) listed a w
  | [], [], _, _, _, _, _, _, hm, _, _, hw, _, h => by
    simp only [Region.lexMask, Option.some.injEq] at hm
    simp only [pickT, walkE] at hw
    subst hm; subst hw
    simpa [pickT] using h
  | [], _ :: _, _, _, _, _, hl, _, _, _, _, _, _, _ => by simp at hl
  | _ :: _, [], _, _, _, _, hl, _, _, _, _, _, _, _ => by simp at hl
  | b :: m, o :: l, k, listed, a, w, hl, ho, hm, hwb, ht0, hw, hC, h => by
    have h0 : ops[k]? = some o := by simpa using (ho 0 (by simp)).symm
    have hl' : m.length = l.length := by simpa using hl
    have ho' : ∀ j, j < l.length → l[j]? = ops[k + 1 + j]? := fun j hj => by
      have := ho (j + 1) (by simp; omega)
      simpa [Nat.add_assoc, Nat.add_comm 1 j] using this
    simp only [waitsB, Bool.and_eq_true] at hwb
    cases b
    · simp only [Region.lexMask, pickT, Bool.false_eq_true, if_false] at hm hw ⊢
      exact wpAnyT_lex hCE hs m l (k + 1) listed a w hl' ho' hm hwb.2 ht0 hw hC h
    · simp only [Region.lexMask, pickT, if_true] at hm hw ⊢
      split at hm
      case isFalse => cases hm
      case isTrue hc =>
        simp only [Bool.and_eq_true] at hc
        obtain ⟨v, hy, hw'⟩ := hw
        have hb1 := hwb.1
        simp only [Bool.not_true, Bool.false_or, Bool.and_eq_true, decide_eq_true_eq] at hb1
        obtain ⟨htk, hb2⟩ := hb1
        have hwt : ∃ ot, ops[t]? = some ot ∧ ∃ e ∈ ot.after, Region.binds md e = true ∧ e.on = k := by
          split at hb2
          case h_1 ot hot =>
            obtain ⟨e, he, hb⟩ := Array.any_eq_true'.1 hb2
            simp only [Bool.and_eq_true, decide_eq_true_eq] at hb
            exact ⟨ot, hot, e, he, hb.1, hb.2⟩
          case h_2 => cases hb2
        have ih := wpAnyT_lex hCE hs m l (k + 1) _ _ w hl' ho' hm hwb.2 (by rw [getD_set_ne true (Ne.symm htk)]; exact ht0) hw' hC h
        rw [List.length_cons, show (pickT m l).length + 1 + g = ((pickT m l).length + g) + 1 by omega]
        exact wpAnyT_first hCE h0 (Region.noSelect_spec hs) htk hwt _ listed a w (Region.free_spec h0 hc.2) (by simpa using hc.1) hy hC ht0 ih

/-- The rest, one behind the other; the class is asked as long as one is left. -/
def wpChainT (P : Program) (ops : Array Oper) (C : World → Prop) (Q : Exit → Act → World → Prop) : List Oper → Act → World → Prop
  | [], a, w => ∀ x : ExtOf w, Q .normal a x.val
  | o :: l, a, w => ∀ x : ExtOf w, wpList P ops (Exit.then (fun a' w'' => (l ≠ [] → C w'') ∧ wpChainT P ops C Q l a' w'') (Quiets Q)) [o] a x.val

theorem pickF_ne : ∀ (m : List Bool) (l : List Oper), m.length = l.length → m.getLast? = some false → pickF m l ≠ []
  | [], _, _, h => by simp at h
  | _ :: _, [], hl, _ => by simp at hl
  | [b], o :: l, _, h => by
    simp only [List.getLast?_singleton, Option.some.injEq] at h
    subst h
    simp [pickF]
  | b :: c :: m, o :: l, hl, h => by
    have := pickF_ne (c :: m) l (by simpa using hl) (by simpa [List.getLast?_cons_cons] using h)
    cases b
    · simp [pickF]
    · simpa [pickF] using this

theorem wpAnyT_of_chain {t : Nat} {C : World → Prop} {Q : Exit → Act → World → Prop} : ∀ (m : List Bool) (l : List Oper) (k : Nat) (listed : Array Bool) (a : Act) (w : World), m.length = l.length →
    (∀ j, j < l.length → l[j]? = ops[k + j]?) → k + l.length = t + 1 → (m = [] ∨ m.getLast? = some false) → seqMask md ops m k listed = true → wpChainT P ops C Q (pickF m l) a w → wpAnyT P md ops t C Q (pickF m l).length listed a w
  | [], [], _, _, _, _, _, _, _, _, hm, h => ⟨by simpa [seqMask] using hm, fun w' hw' => h ⟨w', hw'⟩⟩
  | [], _ :: _, _, _, _, _, hl, _, _, _, _, _ => by simp at hl
  | _ :: _, [], _, _, _, _, hl, _, _, _, _, _ => by simp at hl
  | b :: m, o :: l, k, listed, a, w, hl, ho, hk, hla, hm, h => by
    have h0 : ops[k]? = some o := by simpa using (ho 0 (by simp)).symm
    have hl' : m.length = l.length := by simpa using hl
    have ho' : ∀ j, j < l.length → l[j]? = ops[k + 1 + j]? := fun j hj => by
      have := ho (j + 1) (by simp; omega)
      simpa [Nat.add_assoc, Nat.add_comm 1 j] using this
    have hk' : k + 1 + l.length = t + 1 := by rw [List.length_cons] at hk; omega
    have hla' : m = [] ∨ m.getLast? = some false := by
      rcases hla with h | h
      · cases h
      · cases m with
        | nil => exact .inl rfl
        | cons c m => exact .inr (by simpa [List.getLast?_cons_cons] using h)
    cases b
    · simp only [seqMask, pickF, Bool.false_eq_true, if_false, Bool.and_eq_true, decide_eq_true_eq] at hm h ⊢
      intro w' hw'
      refine ⟨fun h1 => (by rw [hm.1] at h1; cases h1), fun i hi => ?_⟩
      rw [hm.1] at hi
      have hik : i = k := by simpa using hi
      subst hik
      have hw := h ⟨w', hw'⟩
      simp only [wpList] at hw
      have hop : wpOp P ops (Quiets Q) i (fun a' w'' => (pickF m l ≠ [] → C w'') ∧ wpChainT P ops C Q (pickF m l) a' w'') a w' := by
        unfold wpOp
        simp only [h0]
        by_cases hwd : Region.wanted o (yielded ops a.tmps) = true
        · rw [if_pos hwd] at hw ⊢
          rcases hw with hw | hw
          · refine .inl ?_
            unfold Oper.wp at *
            generalize (execOp a.eval o).run P w' = r at *
            cases r with
            | ok n w2 =>
              cases n <;> simp only [Oper.upon] at hw ⊢
              case value u => exact hw
              case skip => exact hw
              case defer d => exact hw
              case enter f args =>
                exact Calls.mono hw fun e w'' he => by
                  cases e with
                  | returned u => exact he
                  | panicked c => exact he
                  | outgrown => exact he
              case row row args => exact hw
            | halt x w2 =>
              cases x <;> simp only [Oper.upon] at hw ⊢
              case panic u => exact hw
          · exact .inr ⟨hw.1, hw.2⟩
        · rw [if_neg hwd] at hw ⊢
          exact hw
      refine wpOp_mono (fun a' w'' h' => ⟨fun ht0 => ?_, wpAnyT_of_chain m l (i + 1) _ a' w'' hl' ho' hk' hla' hm.2 h'.2⟩) hop
      rcases hla' with e | e
      · subst e
        have : l = [] := List.length_eq_zero_iff.1 hl'.symm
        subst this
        have : i = t := by simpa using hk'
        subst this
        rcases Nat.lt_or_ge i listed.size with h9 | h9
        · simp [h9] at ht0
        · simp [Array.getElem?_eq_none h9] at ht0
      · exact h'.1 (pickF_ne m l hl' e)
    · simp only [seqMask, pickF, if_true] at hm h ⊢
      exact wpAnyT_of_chain m l (k + 1) listed a w hl' ho' hk' hla' hm h

/-- The Bools of such a region. -/
def mixTB (md : Region.Mode) (ops : Array Oper) (m : List Bool) (l : List Oper) (n : Nat) : Bool :=
  mixB md ops m l n && decide (m.getLast? = some false) && waitsB md ops (l.length - 1) m 0

/-- A REGION THAT DRAWS ITS ORDER AND ENDS IN A STORE: the class is asked ahead of the store alone. -/
theorem wp_region_mixT {id : Nat} {Q : Exit → Act → World → Prop} {a af : Act} {w : World} {l : List Oper} (m : List Bool) (n : Nat) (C : World → Prop) (hm : P.follows .mixedOrders = true)
    (hn : a.tmps.size = n) (hB : mixTB .any l.toArray m l n = true) (hCE : ∀ w w', C w → Ext w w' → C w') (hC : C w.drew)
    (h : ∀ w', C w' → wpQuiet P l.toArray (fun w'' => ∃ x : ExtOf w', w'' = x.val) (fun a' => a' = af) (pickT m l) a)
    (hr : wpChainT P l.toArray C Q (pickF m l) af w.drew) : (Code.region id l.toArray true).wp P Q a w := by
  subst hn
  simp only [mixTB, mixB, Bool.and_eq_true, decide_eq_true_eq] at hB
  obtain ⟨⟨⟨⟨⟨hs, hl⟩, hd⟩, hx⟩, hla⟩, hwb⟩ := hB
  have hne : 0 < l.length := by
    rw [← hl]
    cases m with
    | nil => simp at hla
    | cons _ _ => simp
  split at hx
  case h_2 => cases hx
  case h_1 le hle =>
    have hq := walkE_of_quiet (P := P) (ops := l.toArray) ⟨_, hC⟩ (pickT m l) a hd h
    have hch := wpAnyT_of_chain (P := P) (md := .any) (ops := l.toArray) (C := C) (Q := Q) (t := l.length - 1) m l 0 le af w.drew hl (fun j _ => by simp) (by omega) (.inr hla) hx hr
    have := wpAnyT_lex (P := P) (md := .any) (ops := l.toArray) (Q := Q) hCE hs m l 0 _ a w.drew hl (fun j _ => by simp) hle hwb (by have h9 : l.length - 1 < l.length := Nat.sub_lt hne Nat.one_pos; simp [h9]) hq hC hch
    rw [pick_length m l hl] at this
    refine Code.wp_mono quiets_imp (wp_region_any hm ?_)
    have h2 := wpAny_of_T _ _ _ _ this
    simpa using h2
end
end Go.Proofs.YtlnmhocehgmbbaaGreatDoor

/-
  A region that draws its order and whose last operation waits, by way of others, for all that is taken ahead: behind it nothing is asked of the class of worlds. No condition.
-/
namespace Go.Proofs.YtlnmhocehgmbbaaGreatDoor
open Go.RowKit
section
variable {P : Program} {md : Region.Mode} {ops : Array Oper}

/-- What has come up has had all that it waits for come up. -/
def ClosedO (md : Region.Mode) (ops : Array Oper) (l : Array Bool) : Prop :=
  ∀ (j : Nat) (oj : Oper), ops[j]? = some oj → l.getD j false = true → ∀ e ∈ oj.after, Region.binds md e = true → l.getD e.on false = true
theorem closed_none {n : Nat} : ClosedO md ops (Array.replicate n false) := fun j oj _ h => by
  rw [Array.getD_eq_getD_getElem?, Array.getElem?_replicate] at h
  split at h <;> simp at h
theorem closed_set {l : Array Bool} {j : Nat} (h : ClosedO md ops l) (hj : j ∈ Region.ready md ops l) : ClosedO md ops (l.setIfInBounds j true) := fun k ok hk hl e he hb => by
  obtain ⟨_, oj, hoj, hall⟩ := mem_ready.1 hj
  by_cases hkj : j = k
  · subst hkj
    rw [hoj] at hk
    cases hk
    exact getD_set_true (hall e he hb)
  · rw [getD_set_ne false hkj] at hl
    exact getD_set_true (h k ok hk hl e he hb)
/-- Number t waits for number i, by way of others. -/
def depB (md : Region.Mode) (ops : Array Oper) (i : Nat) : Nat → Nat → Bool
  | 0, _ => false
  | f + 1, t => match ops[t]? with | none => false | some ot => ot.after.any fun e => Region.binds md e && (decide (e.on = i) || depB md ops i f e.on)
theorem dep_listed {l : Array Bool} {i : Nat} (hc : ClosedO md ops l) : ∀ (f t : Nat), (∀ ot, ops[t]? = some ot → ∀ e ∈ ot.after, Region.binds md e = true → l.getD e.on false = true) → depB md ops i f t = true → l.getD i false = true
  | 0, _, _, h => by simp [depB] at h
  | f + 1, t, hd, h => by
    unfold depB at h
    split at h
    · cases h
    · rename_i ot hot
      obtain ⟨e, he, hb⟩ := Array.any_eq_true'.1 h
      simp only [Bool.and_eq_true, Bool.or_eq_true, decide_eq_true_eq] at hb
      have hl := hd ot hot e he hb.1
      rcases hb.2 with h1 | h1
      · rw [← h1]; exact hl
      · exact dep_listed hc f e.on (fun o ho => hc e.on o ho hl) h1
theorem dep_not {l : Array Bool} {i t f j : Nat} (hc : ClosedO md ops l) (hi : i ∈ Region.ready md ops l) (hj : j ∈ Region.ready md ops l) (hd : depB md ops i f t = true) : j ≠ t := fun e => by
  subst e
  obtain ⟨_, oj, hoj, hall⟩ := mem_ready.1 hj
  have h1 := dep_listed hc f j (fun o ho e he hb => by rw [hoj] at ho; cases ho; exact hall e he hb) hd
  have h0 := (mem_ready.1 hi).1
  rcases Nat.lt_or_ge i l.size with h' | h'
  · simp [h'] at h0 h1; rw [h0] at h1; cases h1
  · simp [Array.getElem?_eq_none h'] at h0

theorem wpAnyT_first2 {t f : Nat} {C : World → Prop} (hCE : ∀ w w', C w → Ext w w' → C w') {Q : Exit → Act → World → Prop} {i : Nat} {oi : Oper} {v : Value} (hi : ops[i]? = some oi)
    (hsel : ∀ (j : Nat) (o : Oper) cs b, ops[j]? = some o → o.op ≠ .select cs b) (hti : t ≠ i) (hwt : depB md ops i f t = true) :
    ∀ (n : Nat) (l : Array Bool) (a : Act) (w : World), ClosedO md ops l →
      (∀ j oj, ops[j]? = some oj → j ≠ i → l.getD j true = false → (∀ e ∈ oj.after, Region.binds md e = true → e.on ≠ i) → oi.apart ops oj = true) →
      i ∈ Region.ready md ops l → YieldsE P ops C oi v a → C w → l.getD t true = false →
      wpAnyT P md ops t C Q n (l.setIfInBounds i true) (a.put oi.dst v) w → wpAnyT P md ops t C Q (n + 1) l a w := by
  intro n
  induction n with
  | zero =>
    intro l a w _ _ hr hy hC ht0 H w' hw'
    refine ⟨fun h => (by rw [h] at hr; cases hr), fun j hj => ?_⟩
    by_cases hji : j = i
    · subst hji
      exact hy.wpOp hi (hCE _ _ hC hw') fun w'' hw'' => ⟨fun _ => hCE _ _ (hCE _ _ hC hw') hw'', wpAnyT_up 0 H (hw'.trans hw'')⟩
    · have := ready_mono hj hji
      rw [H.1] at this
      cases this
  | succ n ih =>
    intro l a w hcl hfree hr hy hC ht0 H w' hw'
    refine ⟨fun h => (by rw [h] at hr; cases hr), fun j hj => ?_⟩
    by_cases hji : j = i
    · subst hji
      exact hy.wpOp hi (hCE _ _ hC hw') fun w'' hw'' => ⟨fun _ => hCE _ _ (hCE _ _ hC hw') hw'', wpAnyT_up (n + 1) H (hw'.trans hw'')⟩
    · have h1 := (H w' hw').2 j (ready_mono hj hji)
      have hjt : j ≠ t := dep_not hcl hr hj hwt
      have hjr := hj
      obtain ⟨hjun, oj, hoj, hall⟩ := mem_ready.1 hj
      have hnot : ∀ e ∈ oj.after, Region.binds md e = true → e.on ≠ i := fun e he hb heq => by
        have h2 := hall e he hb
        have h0 := (mem_ready.1 hr).1
        rw [heq] at h2
        rcases Nat.lt_or_ge i l.size with h' | h'
        · simp [h'] at h0 h2; rw [h0] at h2; cases h2
        · simp [Array.getElem?_eq_none h'] at h2
      have h2 := wpOp_behind hoj (hfree j oj hoj hji hjun hnot) (fun cs b => hsel i oi cs b hi) (fun cs b => hsel j oj cs b hoj) hy h1
      have hfree' : ∀ k ok, ops[k]? = some ok → k ≠ i → (l.setIfInBounds j true).getD k true = false →
          (∀ e ∈ ok.after, Region.binds md e = true → e.on ≠ i) → oi.apart ops ok = true := fun k ok hk hki hun hno => by
        refine hfree k ok hk hki ?_ hno
        by_cases hjk : j = k
        · subst hjk; exact hjun
        · rw [getD_set_ne true hjk] at hun; exact hun
      refine wpOp_mono (fun a' w'' h3 => ?_) h2
      have hc : C w'' := h3.2.1 (by rw [getD_set_ne true hjt, getD_set_ne true (Ne.symm hti)]; exact ht0)
      refine ⟨fun _ => hc, ih (l.setIfInBounds j true) a' w'' (closed_set hcl hjr) hfree' (ready_mono hr (Ne.symm hji)) h3.1 hc (by rw [getD_set_ne true hjt]; exact ht0) ?_⟩
      rw [Array.setIfInBounds_comm _ _ hji]
      exact h3.2.2

/-- Number t waits, by way of others, for each that the mask names. -/
def waitsD (md : Region.Mode) (ops : Array Oper) (f t : Nat) : List Bool → Nat → Bool
  | [], _ => true
  | b :: m, k => (!b || (decide (t ≠ k) && depB md ops k f t)) && waitsD md ops f t m (k + 1)

theorem wpAnyT_lex2 {t f : Nat} {C : World → Prop} (hCE : ∀ w w', C w → Ext w w' → C w') {Q : Exit → Act → World → Prop} (hs : Region.noSelect ops = true) {af : Act} {le : Array Bool} {g : Nat} :
    ∀ (m : List Bool) (l : List Oper) (k : Nat) (listed : Array Bool) (a : Act) (w : World), m.length = l.length → (∀ j, j < l.length → l[j]? = ops[k + j]?) → Region.lexMask md ops m k listed = some le → waitsD md ops f t m k = true → listed.getD t true = false → ClosedO md ops listed →
    walkE P ops C af (pickT m l) a → C w → wpAnyT P md ops t C Q g le af w → wpAnyT P md ops t C Q ((pickT m l).length + g) listed a w
  | [], [], _, _, _, _, _, _, hm, _, _, _, hw, _, h => by
    simp only [Region.lexMask, Option.some.injEq] at hm
    simp only [pickT, walkE] at hw
    subst hm; subst hw
    simpa [pickT] using h
  | [], _ :: _, _, _, _, _, hl, _, _, _, _, _, _, _, _ => by simp at hl
  | _ :: _, [], _, _, _, _, hl, _, _, _, _, _, _, _, _ => by simp at hl
  | b :: m, o :: l, k, listed, a, w, hl, ho, hm, hwb, ht0, hcl, hw, hC, h => by
    have h0 : ops[k]? = some o := by simpa using (ho 0 (by simp)).symm
    have hl' : m.length = l.length := by simpa using hl
    have ho' : ∀ j, j < l.length → l[j]? = ops[k + 1 + j]? := fun j hj => by
      have := ho (j + 1) (by simp; omega)
      simpa [Nat.add_assoc, Nat.add_comm 1 j] using this
    simp only [waitsD, Bool.and_eq_true] at hwb
    cases b
    · simp only [Region.lexMask, pickT, Bool.false_eq_true, if_false] at hm hw ⊢
      exact wpAnyT_lex2 hCE hs m l (k + 1) listed a w hl' ho' hm hwb.2 ht0 hcl hw hC h
    · simp only [Region.lexMask, pickT, if_true] at hm hw ⊢
      split at hm
      case isFalse => cases hm
      case isTrue hc =>
        simp only [Bool.and_eq_true] at hc
        obtain ⟨v, hy, hw'⟩ := hw
        have hb1 := hwb.1
        simp only [Bool.not_true, Bool.false_or, Bool.and_eq_true, decide_eq_true_eq] at hb1
        obtain ⟨htk, hb2⟩ := hb1
        have hr : k ∈ Region.ready md ops listed := by simpa using hc.1
        have ih := wpAnyT_lex2 hCE hs m l (k + 1) _ _ w hl' ho' hm hwb.2 (by rw [getD_set_ne true (Ne.symm htk)]; exact ht0) (closed_set hcl hr) hw' hC h
        rw [List.length_cons, show (pickT m l).length + 1 + g = ((pickT m l).length + g) + 1 by omega]
        exact wpAnyT_first2 hCE h0 (Region.noSelect_spec hs) htk hb2 _ listed a w hcl (Region.free_spec h0 hc.2) hr hy hC ht0 ih

/-- The Bools of such a region. -/
def mixDB (md : Region.Mode) (ops : Array Oper) (m : List Bool) (l : List Oper) (n : Nat) : Bool :=
  mixB md ops m l n && decide (m.getLast? = some false) && waitsD md ops l.length (l.length - 1) m 0

/-- A REGION THAT DRAWS ITS ORDER, its last operation behind all others: the class is asked ahead of it alone. -/
theorem wp_region_mixD {id : Nat} {Q : Exit → Act → World → Prop} {a af : Act} {w : World} {l : List Oper} (m : List Bool) (n : Nat) (C : World → Prop) (hm : P.follows .mixedOrders = true)
    (hn : a.tmps.size = n) (hB : mixDB .any l.toArray m l n = true) (hCE : ∀ w w', C w → Ext w w' → C w') (hC : C w.drew)
    (h : ∀ w', C w' → wpQuiet P l.toArray (fun w'' => ∃ x : ExtOf w', w'' = x.val) (fun a' => a' = af) (pickT m l) a)
    (hr : wpChainT P l.toArray C Q (pickF m l) af w.drew) : (Code.region id l.toArray true).wp P Q a w := by
  subst hn
  simp only [mixDB, mixB, Bool.and_eq_true, decide_eq_true_eq] at hB
  obtain ⟨⟨⟨⟨⟨hs, hl⟩, hd⟩, hx⟩, hla⟩, hwb⟩ := hB
  have hne : 0 < l.length := by
    rw [← hl]
    cases m with
    | nil => simp at hla
    | cons _ _ => simp
  split at hx
  case h_2 => cases hx
  case h_1 le hle =>
    have hq := walkE_of_quiet (P := P) (ops := l.toArray) ⟨_, hC⟩ (pickT m l) a hd h
    have hch := wpAnyT_of_chain (P := P) (md := .any) (ops := l.toArray) (C := C) (Q := Q) (t := l.length - 1) m l 0 le af w.drew hl (fun j _ => by simp) (by omega) (.inr hla) hx hr
    have := wpAnyT_lex2 (P := P) (md := .any) (ops := l.toArray) (Q := Q) hCE hs m l 0 _ a w.drew hl (fun j _ => by simp) hle hwb (by have h9 : l.length - 1 < l.length := Nat.sub_lt hne Nat.one_pos; simp [h9]) closed_none hq hC hch
    rw [pick_length m l hl] at this
    refine Code.wp_mono quiets_imp (wp_region_any hm ?_)
    have h2 := wpAny_of_T _ _ _ _ this
    simpa using h2
end
end Go.Proofs.YtlnmhocehgmbbaaGreatDoor

/-
  Walk: Way's closure that goes back. No condition.
-/
namespace Go.Proofs.YtlnmhocehgmbbaaGreatDoor
open Go.RowKit
attribute [local go_sem] ExtOf.cell ExtOf.frozen ExtOf.lt ExtOf.le
attribute [local go_sem high] ExtOf.cell2 ExtOf.frozen2 ExtOf.lt2 ExtOf.cell3 ExtOf.frozen3 ExtOf.lt3

def backF (gl gb go : Nat) : Value := .func (.func 41) #[] #[.pointer (some ⟨gl, 0, none⟩), .pointer (some ⟨gb, 0, none⟩), .pointer (some ⟨go, 0, none⟩)]
/-- Where Way goes back: itself, and what it has laid. -/
structure BackAt (wS : World) (gl gb go : Nat) (M : List Mv) (ov : Value) (w : World) : Prop where
  ext : Ext wS w
  low : wS.heap.size ≤ gb ∧ wS.heap.size ≤ go
  fc : w.heap[gb]? = some (.cells #[backF gl gb go] 97 (0, 0))
  oc : w.heap[go]? = some (.cells #[ov] 48 (0, 0))
  ro : Own9 w wS.heap.size M ov
section
variable {wS : World} {gl gb go : Nat} {M : List Mv} {ov : Value} {w w' : World}
theorem BackAt.ext' (h : BackAt wS gl gb go M ov w) (e : Ext w w') : BackAt wS gl gb go M ov w' where
  ext := h.ext.trans e
  low := h.low
  fc := heap_ext h.fc e
  oc := heap_ext h.oc e
  ro := h.ro.ext e
theorem BackAt.add (h : BackAt wS gl gb go M ov w) {m : Mv} {ov' : Value} {w3 : World} (o3 : Own9 w3 wS.heap.size (M ++ [m]) ov') (g3 : w.grownBy w3 ov.ownBlock) (nw : ∀ g ∈ rowB ov', g ∈ rowB ov ∨ w.heap.size ≤ g) :
    BackAt wS gl gb go (M ++ [m]) ov' (w3.setCell ⟨go, 0, none⟩ ov') := by
  have hgo : go ∉ rowB ov := tag_ne h.ro h.oc (by decide)
  have lgo := (Array.getElem?_eq_some_iff.1 h.oc).1
  have same : ∀ b, b < w.heap.size → b ≠ go → b ∉ rowB ov → (w3.setCell ⟨go, 0, none⟩ ov').heap[b]? = w.heap[b]? := fun b hb h1 h2 => by
    rw [cell_other h1, g3.block b hb (fun he => h2 (by unfold rowB; rw [← he]; exact .head _))]
  have hgo3 : go ∉ rowB ov' := fun hm => by
    rcases nw go hm with h1 | h1
    · exact hgo h1
    · omega
  have hgb : gb ≠ go := fun e => by
    have := h.fc
    rw [e, h.oc] at this
    simp only [Option.some.injEq, Obj.cells.injEq] at this
    exact absurd this.2.1 (by decide)
  refine ⟨?_, h.low, ?_, ?_, own_at o3 fun b hb => cell_other fun e => hgo3 (e ▸ hb)⟩
  · have hs := h.ext.size
    refine ⟨g3.os.trans h.ext.os, g3.tape.trans h.ext.tape, g3.output.trans h.ext.output, ?_, fun b hb => ?_⟩
    · have := g3.size
      simp only [World.setCell, Array.size_modify]
      omega
    · rw [same b (by omega) (by have := h.low.2; omega) fun hm => by have := (own_rowB9 h.ro b hm).1; omega]
      exact h.ext.block b hb
  · rw [same gb (Array.getElem?_eq_some_iff.1 h.fc).1 hgb (tag_ne h.ro h.fc (by decide))]
    exact h.fc
  · have h1 := kept_grown h.oc g3 hgo
    have := heap_setCell_same _ _ 0 _ _ ov' h1
    exact this
end
theorem BackAt.re {wS : World} {gl gb go : Nat} {M M' : List Mv} {ov : Value} {w : World} (h : BackAt wS gl gb go M ov w) (e : M' = M) : BackAt wS gl gb go M' ov w := by subst e; exact h
theorem grown_ext {w w' w2 : World} {b : Option Nat} (h : w.grownBy w' b) (e : Ext w' w2) : w.grownBy w2 b :=
  ⟨e.os.trans h.os, e.tape.trans h.tape, e.output.trans h.output, Nat.le_trans h.size e.size, fun k hk hx => (e.block k (Nat.lt_of_lt_of_le hk h.size)).trans (h.block k hk hx)⟩
theorem fv_mv (p : Fd × Value) : ∀ (j : Nat) (v : Value), p.1.m.arr.toList[j]? = some v → (fvC p)[27 + j]? = some v := fun j v h => by
  unfold fvC
  rw [List.getElem?_append_right (by show 26 ≤ 27 + j; omega)]
  show (Value.int .i64 p.1.p :: p.1.m.cs)[27 + j - 26]? = some v
  rw [show 27 + j - 26 = j + 1 by omega, List.getElem?_cons_succ]
  exact h
/-- Behind the way back. -/
def BackP (wS : World) (gl gb go : Nat) (M : List Mv) (e : Ending) (w' : World) : Prop := e = .returned (.tuple #[]) ∧ ∃ ov', BackAt wS gl gb go M ov' w'

set_option maxRecDepth 100000 in
set_option maxHeartbeats 6400000 in
theorem ex_back (wS : World) (B gl gb go : Nat) (L : List (Fd × Value)) (lv : Value) (hlc : wS.heap[gl]? = some (.cells #[lv] 83 (0, 0))) (hlr : FRow wS B L lv) (hpre : PreG (L.map (·.1))) (hLn : L.length ≤ 1000) :
    ∀ (f i : Nat), i < f → i < L.length → f ≤ 1000 → ∀ (M : List Mv) (ov : Value) (w : World), M.length ≤ 1000 → BackAt wS gl gb go M ov w →
      Calls Tryz.prog 41 #[.int .i64 (i : Int), .pointer (some ⟨gl, 0, none⟩), .pointer (some ⟨gb, 0, none⟩), .pointer (some ⟨go, 0, none⟩)] w (BackP wS gl gb go (M ++ wayN (L.map (·.1)) f i)) := by
  intro f
  induction f with
  | zero => exact fun i hi => absurd hi (Nat.not_lt_zero i)
  | succ f IH0 =>
    intro i hi hiL hf M ov w hM hB
    have IH := Lib.hid IH0
    clear IH0
    obtain ⟨p, hp⟩ : ∃ p, L[i]? = some p := ⟨_, List.getElem?_eq_getElem hiL⟩
    have hpL : (L.map (·.1))[i]? = some p.1 := by rw [List.getElem?_map, hp]; rfl
    obtain ⟨g0, cap, hlv, hgl, hmx, hrg⟩ := frow_f hlr hp
    subst hlv
    unfold maxLen at hmx
    have HGL := Lib.hid hgl
    have hgl := Nat.lt_of_lt_of_le hgl hB.ext.size
    have hl := heap_ext hlc hB.ext
    have ql := cell_of_row w _ 0 _ _ _ hl
    have ll : gl < w.heap.size := (Array.getElem?_eq_some_iff.1 hl).1
    have qp : w.cell? ⟨g0, i * 36 + 26, none⟩ = some (.int .i64 p.1.p) := cell_keep (hrg 26 _ rfl) hB.ext
    have HB := Lib.hid hB
    have HRG := Lib.hid hrg
    have HL0 := Lib.hid hlc
    have HPL := Lib.hid hpL
    have HPRE := Lib.hid (hpre i p.1 hpL)
    clear hrg hB hlc hlr hpre hp hl hpL
    have i1 : (i : Int) < (L.length : Int) := by omega
    by_cases hpp : 0 ≤ p.1.p
    case neg =>
      have HW := way_no (f := f) HPL.out hpp
      rw [HW, List.append_nil]
      go_enter Tryz.func41, Tryz.ntmps41
      go_wp2_with fail
      exact ⟨rfl, .tuple #[], by simp [results, go_sem], rfl, ov, HB.out⟩
    have HW := way_yes (f := f) HPL.out hpp
    rw [HW, ← List.append_assoc]
    clear HW
    go_enter Tryz.func41, Tryz.ntmps41
    have hlt := HPRE.out.resolve_left (by omega)
    obtain ⟨n, hn⟩ : ∃ n : Nat, p.1.p = (n : Int) := ⟨p.1.p.toNat, by omega⟩
    have hnt : p.1.p.toNat = n := by omega
    have hni : n < i := by omega
    rw [hnt]
    have IHn := Lib.hid (fun w' (h : BackAt wS gl gb go M ov w') => IH.out n (by omega) (by omega) (by omega) M ov w' hM h)
    rw [hn] at qp hpp
    have HPN := Lib.hid hn
    have qf : w.cell? ⟨gb, 0, none⟩ = some (.func (.func 41) #[] #[.pointer (some ⟨gl, 0, none⟩), .pointer (some ⟨gb, 0, none⟩), .pointer (some ⟨go, 0, none⟩)]) := cell_of_row w gb 0 _ _ _ HB.out.fc
    have lf : gb < w.heap.size := (Array.getElem?_eq_some_iff.1 HB.out.fc).1
    clear IH HPRE hlt hn hnt
    go_upto_region 1 with fail
    refine wp_region_mixD (af := ?af1) [true, true, true, true, true, true, false] 26 (Ext w) (by kernel_rfl) rfl (by kernel_rfl) (fun _ _ h e => Ext.trans h e) (Ext.refl _).drew ?q1 ?r1
    case q1 =>
      intro w' hw'
      obtain ⟨y, rfl⟩ := ext_of hw'
      simp only [pickT, if_true, if_false, Bool.false_eq_true]
      repeat (go_big_quiet_step (fail))
      exact rfl
    case r1 =>
      simp only [pickF, if_true, if_false, Bool.false_eq_true]
      intro x1
      go_wp2_with fail
      refine (IHn.out _ (HB.out.ext' ((Ext.refl w).drew.val x1))).mono ?_
      rintro e w2 ⟨rfl, ov2, hb2⟩
      have HB2 := Lib.hid hb2
      clear hb2 ql ll qp qf lf hgl
      go_wp2_with fail
      refine ⟨fun h => absurd rfl h, ?_⟩
      intro x2
      have HB3 := Lib.hid (HB2.out.ext' x2.ext)
      have hlen : (M ++ wayN (L.map (·.1)) f n).length ≤ 2000 := by
        have := wayN_len (L.map (·.1)) f n
        simp
        omega
      obtain ⟨M2, hM2⟩ : ∃ M2, M ++ wayN (L.map (·.1)) f n = M2 := ⟨_, rfl⟩
      rw [hM2] at HB3 hlen
      have HM2 := Lib.hid hM2
      clear hM2
      clear HB2
      generalize x2.val = W4 at HB3 ⊢
      clear x2 x1
      have HRG4 : Hid (W4.rangeAt g0 (i * 36 + 27) p.1.m.arr.toList) := Lib.hid fun j v hj => by
        rw [show i * 36 + 27 + j = i * 36 + (27 + j) by omega]
        exact cell_keep (HRG.out _ v (fv_mv p j v hj)) HB3.out.ext
      have HL4 := Lib.hid (heap_ext HL0.out HB3.out.ext)
      have hgl4 : g0 < W4.heap.size := Nat.lt_of_lt_of_le HGL.out HB3.out.ext.size
      have HC : ∀ w', Ext W4 w' → (w'.heap[gl]? = some (.cells #[.slice (some ⟨g0, 0, none⟩) L.length cap] 83 (0, 0)) ∧ w'.heap[go]? = some (.cells #[ov2] 48 (0, 0)) ∧ w'.rangeAt g0 (i * 36 + 27) p.1.m.arr.toList ∧ g0 < w'.heap.size) := fun w' e => ⟨heap_ext HL4.out e, heap_ext HB3.out.oc e, fun j v hj => cell_keep (HRG4.out j v hj) e, Nat.lt_of_lt_of_le hgl4 e.size⟩
      have HC4 := Lib.hid HC
      obtain ⟨i0, hi0, hz0, hz1, hz2⟩ := info_parts info_move
      clear HC HRG4 HL4
      go_upto_region 2 with fail
      refine wp_region_mixD (af := ?af2) [true, true, true, true, true, true, false, false, false] 26 (fun w' => w'.heap[gl]? = some (.cells #[.slice (some ⟨g0, 0, none⟩) L.length cap] 83 (0, 0)) ∧ w'.heap[go]? = some (.cells #[ov2] 48 (0, 0)) ∧ w'.rangeAt g0 (i * 36 + 27) p.1.m.arr.toList ∧ g0 < w'.heap.size) (by kernel_rfl) rfl (by kernel_rfl) (fun _ _ h e => ⟨heap_ext h.1 e, heap_ext h.2.1 e, fun j v hj => cell_keep (h.2.2.1 j v hj) e, Nat.lt_of_lt_of_le h.2.2.2 e.size⟩) (HC4.out _ (Ext.refl _).drew) ?q2 ?r2
      case q2 =>
        rintro w' ⟨h1, h2, h3, h4⟩
        have HR3 := Lib.hid h3
        have q1 := cell_of_row w' _ 0 _ _ _ h1
        have l1 : gl < w'.heap.size := (Array.getElem?_eq_some_iff.1 h1).1
        have q2 := cell_of_row w' _ 0 _ _ _ h2
        have l2 : go < w'.heap.size := (Array.getElem?_eq_some_iff.1 h2).1
        clear h1 h2 h3
        simp only [pickT, if_true, if_false, Bool.false_eq_true]
        go_big_quiet_step (fail)
        go_big_quiet_step (fail)
        go_big_quiet_step (fail)
        go_big_quiet_step (fail)
        go_big_quiet_step (fail)
        (go_big_quiet_want; refine quiet_load_midA 52 _ rfl g0 (i * 36 + 27) rfl #[.int .i64 p.1.m.k, .int .i64 p.1.m.who, .string p.1.m.t, .int .i64 p.1.m.l.k, .int .i64 p.1.m.l.f, .int .u64 p.1.m.l.c, .string p.1.m.l.t, .bool p.1.m.l.b, .bool p.1.m.lost] (.struct _) HR3.out Tryz.underlying52 rfl (info_mv9 p.1.m) ?_; go_big_quiet_on; simp only [Act.put, List.setIfInBounds_toArray, List.set_cons_succ, List.set_cons_zero])
        refine wpQuiet_nil ?_
        exact rfl
      case r2 =>
        simp only [pickF, if_true, if_false, Bool.false_eq_true]
        intro x1
        go_wp2_with fail
        refine ⟨fun _ => HC4.out _ (((Ext.refl W4).drew.val x1).alloc _), ?_⟩
        intro x2
        have D2 := HB3.out.ext' ((((Ext.refl W4).drew.val x1).alloc (.cells p.1.m.arr 52)).val x2)
        have hx2 := D2.ext.size
        go_wp2_with (at_builtin; refine wpList_app6 wS.heap.size 48 52 i0 _ 9 88 Tryz.underlying48 hi0 hz0 hz1 hz2 rfl (by decide) rfl _ _ rfl ov2 M2.length _ rfl D2.ro hx2 x1.val.heap.size 1 1 _ (by omega) rfl (heap_ext (heap_new rfl) x2.ext) rfl (by simp [Value.oneCell']) (by unfold maxLen; omega) (by omega) ?_; intro ov3 w5 o5 b5 g5 nw5)
        have E5 : Ext wS w5 := D2.ext.trans' b5
        have ho5 := kept_grown D2.oc g5 (tag_ne D2.ro D2.oc (by decide))
        refine ⟨⟨heap_ext HL0.out E5, ho5, fun j v hj => ?_, Nat.lt_of_lt_of_le HGL.out E5.size⟩, ?_⟩
        · rw [show i * 36 + 27 + j = i * 36 + (27 + j) by omega]
          exact cell_keep (HRG.out _ v (fv_mv p j v hj)) E5
        intro x3
        have ho3 := heap_ext ho5 x3.ext
        have qo := cell_of_row x3.val _ 0 _ _ _ ho3
        have fo := frozen_of_row x3.val _ 0 _ _ ho3
        have lo : go < x3.val.heap.size := (Array.getElem?_eq_some_iff.1 ho3).1
        have D3 := D2.add (m := p.1.m) (own9_one (own_ext o5 x3.ext) rfl rfl) (grown_ext g5 x3.ext) nw5
        obtain ⟨la, lcc, hla⟩ := own_sl o5
        subst hla
        clear ho3 ho5 E5 o5 b5 g5 nw5
        go_wp2_with fail
        refine ⟨fun h => absurd rfl h, ?_⟩
        intro x4
        have D4 := D3.ext' x4.ext
        exact ⟨rfl, .tuple #[], by simp [results, go_sem], rfl, _, D4.re (by rw [HM2.out])⟩
end Go.Proofs.YtlnmhocehgmbbaaGreatDoor

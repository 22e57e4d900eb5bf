/-
  A region that draws its order and holds, among the rest, a variable that it makes: the making may come up anywhere ahead of its store; it is walked at its place in the text. No condition.
-/
import Derived.Test.YtibdplfdmncgiaaMix
set_option linter.all false
namespace Go.Proofs.Ytibdplfdmncgiaa
open Go.RowKit
theorem wpOp_of_list {P : Program} {ops : Array Oper} {C : World → Prop} {K : Act → World → Prop} {Q : Exit → Act → World → Prop} {i : Nat} {o : Oper} {a : Act} {w : World} (ho : ops[i]? = some o)
    (h : wpList P ops (Exit.then (fun a' w' => C w' ∧ K a' w') (Quiets Q)) [o] a w) : wpOp P ops (Quiets Q) i (fun a' w' => C w' ∧ K a' w') a w := by
  simp only [wpList] at h
  unfold wpOp
  simp only [ho]
  by_cases hwd : Region.wanted o (yielded ops a.tmps) = true
  · rw [if_pos hwd] at h ⊢
    rcases h with h | h
    · refine .inl ?_
      unfold Oper.wp at *
      generalize (execOp a.eval o).run P w = r at *
      cases r with
      | ok n w2 =>
        cases n <;> simp only [Oper.upon] at h ⊢
        case value u => exact h
        case skip => exact h
        case defer d => exact h
        case enter f args =>
          exact Calls.mono h fun e w'' he => by
            cases e with
            | returned u => exact he
            | panicked c => exact he
            | outgrown => exact he
        case row row args => exact h
      | halt x w2 =>
        cases x <;> simp only [Oper.upon] at h ⊢
        case panic u => exact h
    · exact .inr ⟨h.1, h.2⟩
  · rw [if_neg hwd] at h ⊢
    exact h

section
variable {P : Program} {md : Region.Mode} {ops : Array Oper}

/-- An operation that is apart from another one runs as well when that one's value is in its slot already. -/
theorem wpOp_ahead {Q : Exit → Act → World → Prop} {j : Nat} {oi oj : Oper} {v : Value} (hj : ops[j]? = some oj) (hap : oi.apart ops oj = true)
    (hsj : ∀ cs b, oj.op ≠ .select cs b) {K : Act → World → Prop} {a : Act} {w : World} (h : wpOp P ops (Quiets Q) j K a w) :
    wpOp P ops (Quiets Q) j (fun a' w' => ∃ a0, a' = a0.put oi.dst v ∧ K a0 w') (a.put oi.dst v) w := by
  obtain ⟨h1, h2, h3⟩ := Oper.apart_spec hap
  have comm : ∀ (a : Act) u, (a.put oi.dst v).put oj.dst u = (a.put oj.dst u).put oi.dst v := fun a u => Act.put_comm a v u h2
  unfold wpOp at *
  simp only [hj] at *
  rw [wanted_put oj a oi.dst v h1]
  by_cases hw : Region.wanted oj (yielded ops a.tmps) = true
  · rw [if_pos hw] at h ⊢
    have he := execOp_put oj hsj a oi.dst v h1
    rcases h with h | h
    · refine .inl ?_
      unfold Oper.wp at *
      rw [he]
      generalize (execOp a.eval oj).run P w = r at *
      cases r with
      | ok n w' =>
        cases n <;> simp only [Oper.upon] at h ⊢
        case value u => exact ⟨_, comm a u, h⟩
        case skip => exact ⟨_, comm a _, h⟩
        case defer d =>
          refine ⟨_, ?_, h⟩
          rw [Act.put_defers]
          exact comm _ _
        case enter f args =>
          refine Calls.mono h fun e w'' he => ?_
          cases e with
          | returned u => exact ⟨_, comm a u, he⟩
          | panicked c => exact (he : False).elim
          | outgrown => exact he
        case row row args => exact Rows.mono h fun u w'' he => ⟨_, comm a u, he⟩
      | halt x w' =>
        cases x <;> simp only [Oper.upon] at h ⊢
        case panic u => exact (h : False).elim
    · refine .inr ⟨?_, h.2⟩
      have h4 := h.1
      unfold Oper.asks at *
      rwa [he]
  · rw [if_neg hw] at h ⊢
    exact ⟨_, comm a _, h⟩

/-- One operation of a script: taken at once (it gives one value in every world of the class), or walked in whatever extends what was. -/
structure Stp where
  q : Bool
  k : Nat
  o : Oper

/-- The rest ahead of the making; then the making: some block that holds the zeros; then what follows. -/
def wpPre (P : Program) (ops : Array Oper) (C : World → Prop) (B : Nat) (z : Array Value) (t : TypeId) (d : Option Tmp) (K : Act → World → Prop) (Q : Exit → Act → World → Prop) : List Stp → Act → World → Prop
  | [], a, w => ∀ (x : ExtOf w) (g : Nat), B ≤ g → x.val.heap[g]? = some (.cells z t (0, 0)) → K (a.put d (.pointer (some ⟨g, 0, none⟩))) x.val
  | s :: l, a, w => if s.q then ∃ v, YieldsE P ops C s.o v a ∧ wpPre P ops C B z t d K Q l (a.put s.o.dst v) w
    else ∀ x : ExtOf w, wpList P ops (Exit.then (fun a' w'' => Ext x.val w'' ∧ wpPre P ops C B z t d K Q l a' w'') (Quiets Q)) [s.o] a x.val

/-- The rest behind it. -/
def wpPost (P : Program) (ops : Array Oper) (C : World → Prop) (Q : Exit → Act → World → Prop) : List Stp → Act → World → Prop
  | [], a, w => ∀ x : ExtOf w, Q .normal a x.val
  | s :: l, a, w => if s.q then ∃ v, YieldsE P ops C s.o v a ∧ wpPost P ops C Q l (a.put s.o.dst v) w
    else ∀ x : ExtOf w, wpList P ops (Exit.then (fun a' w'' => C w'' ∧ wpPost P ops C Q l a' w'') (Quiets Q)) [s.o] a x.val

theorem wpPre_up {C : World → Prop} {B : Nat} {z : Array Value} {t : TypeId} {d : Option Tmp} {K : Act → World → Prop} {Q : Exit → Act → World → Prop} : ∀ {l : List Stp} {a : Act} {w w' : World}, wpPre P ops C B z t d K Q l a w → Ext w w' → wpPre P ops C B z t d K Q l a w'
  | [], _, _, _, h, e => fun x => h ⟨x.val, e.trans x.ext⟩
  | s :: l, a, w, w', h, e => by
    unfold wpPre at *
    split at h
    · rename_i hq
      rw [if_pos hq]
      obtain ⟨v, hy, hn⟩ := h
      exact ⟨v, hy, wpPre_up hn e⟩
    · rename_i hq
      rw [if_neg hq]
      exact fun x => h ⟨x.val, e.trans x.ext⟩

def floatB (md : Region.Mode) (ops : Array Oper) (i : Nat) (oi : Oper) : List Stp → Array Bool → Bool
  | [], l => decide (Region.ready md ops l = [i])
  | s :: pre, l =>
    (if s.q then (Region.ready md ops l).contains s.k && Region.free md ops l s.k && (Region.ready md ops (l.setIfInBounds i true)).contains s.k && Region.free md ops (l.setIfInBounds i true) s.k
     else (Region.ready md ops l).all (fun j => j == s.k || j == i) && decide (s.k ∈ Region.ready md ops l) && decide (Region.ready md ops (l.setIfInBounds i true) = [s.k])) &&
    decide (s.k ≠ i) && oi.apart ops s.o && floatB md ops i oi pre (l.setIfInBounds s.k true)

/-- What is listed behind those. -/
def listAll : List Stp → Array Bool → Array Bool
  | [], l => l
  | s :: pre, l => listAll pre (l.setIfInBounds s.k true)

variable {C : World → Prop} {Q : Exit → Act → World → Prop} {i : Nat} {oi : Oper} {B : Nat} {z : Array Value} {t : TypeId} {K : Act → World → Prop} {nf : Nat}

theorem float_done (hCE : ∀ w w', C w → Ext w w' → C w') (hsel : ∀ (j : Nat) (o : Oper) cs b, ops[j]? = some o → o.op ≠ .select cs b) :
    ∀ (pre : List Stp) (l : Array Bool) (a : Act) (w : World) (g : Nat), (∀ p ∈ pre, ops[p.k]? = some p.o) → floatB md ops i oi pre l = true →
      (∀ a w, C w → K a w → wpAnyE P md ops C Q nf ((listAll pre l).setIfInBounds i true) a w) →
      wpPre P ops C B z t oi.dst K Q pre a w → C w → B ≤ g → w.heap[g]? = some (.cells z t (0, 0)) →
      wpAnyE P md ops C Q (pre.length + nf) (l.setIfInBounds i true) (a.put oi.dst (.pointer (some ⟨g, 0, none⟩))) w
  | [], l, a, w, g, _, _, hK, h, hC, hg, hz => by
    rw [List.length_nil, Nat.zero_add]
    exact hK _ _ hC (h ⟨w, Ext.refl w⟩ g hg hz)
  | ⟨true, k, o⟩ :: pre, l, a, w, g, hv, hB, hK, h, hC, hg, hz => by
    simp only [floatB, if_true, Bool.and_eq_true, decide_eq_true_eq] at hB
    obtain ⟨⟨⟨⟨⟨⟨_, _⟩, hr⟩, hf⟩, hne⟩, hap⟩, hB'⟩ := hB
    have ho : ops[k]? = some o := hv ⟨true, k, o⟩ (by simp)
    obtain ⟨h1, h2, h3⟩ := Oper.apart_spec hap
    simp only [wpPre, if_true] at h
    obtain ⟨v, hy, hn⟩ := h
    rw [List.length_cons, show pre.length + 1 + nf = (pre.length + nf) + 1 by omega]
    have hy' : YieldsE P ops C o v (a.put oi.dst (.pointer (some ⟨g, 0, none⟩))) := hy.of_same (execOp_put o (fun cs b => hsel k o cs b ho) a oi.dst _ h1) (wanted_put o a oi.dst _ h1)
    refine wpAnyE_first hCE ho hsel _ _ _ w (Region.free_spec ho hf) (by simpa using hr) hy' hC ?_
    rw [Array.setIfInBounds_comm _ _ (Ne.symm hne), Act.put_comm a _ v h2]
    exact float_done hCE hsel pre (l.setIfInBounds k true) _ w g (fun p hp => hv p (List.mem_cons_of_mem _ hp)) hB' hK hn hC hg hz
  | ⟨false, k, o⟩ :: pre, l, a, w, g, hv, hB, hK, h, hC, hg, hz => by
    simp only [floatB, Bool.false_eq_true, if_false, Bool.and_eq_true, decide_eq_true_eq] at hB
    obtain ⟨⟨⟨⟨⟨_, _⟩, hr⟩, hne⟩, hap⟩, hB'⟩ := hB
    have ho : ops[k]? = some o := hv ⟨false, k, o⟩ (by simp)
    simp only [wpPre, Bool.false_eq_true, if_false] at h
    rw [List.length_cons, show pre.length + 1 + nf = (pre.length + nf) + 1 by omega]
    intro w' hw'
    refine ⟨fun h0 => (by rw [hr] at h0; cases h0), fun j hj => ?_⟩
    rw [hr] at hj
    obtain rfl : j = k := by simpa using hj
    have h1 := wpOp_ahead (oi := oi) (v := .pointer (some ⟨g, 0, none⟩)) ho hap (fun cs b => hsel j o cs b ho) (wpOp_of_list (C := fun w'' => Ext w' w'') ho (h ⟨w', hw'⟩))
    refine wpOp_mono (fun a' w'' ⟨a0, ha, he, hp⟩ => ⟨hCE _ _ (hCE _ _ hC hw') he, ?_⟩) h1
    subst ha
    rw [Array.setIfInBounds_comm _ _ (Ne.symm hne)]
    exact float_done hCE hsel pre (l.setIfInBounds j true) a0 w'' g (fun p hp => hv p (List.mem_cons_of_mem _ hp)) hB' hK hp (hCE _ _ (hCE _ _ hC hw') he) hg (heap_ext hz (hw'.trans he))

theorem float_main (hCE : ∀ w w', C w → Ext w w' → C w') (hsel : ∀ (j : Nat) (o : Oper) cs b, ops[j]? = some o → o.op ≠ .select cs b) (hi : ops[i]? = some oi) (hgd : oi.guard = none)
    (hal : ∀ (a : Act) (w : World), (execOp a.eval oi).run P w = .ok (.value (.pointer (some ⟨w.heap.size, 0, none⟩))) (w.alloc (.cells z t))) :
    ∀ (pre : List Stp) (l : Array Bool) (a : Act) (w : World), (∀ p ∈ pre, ops[p.k]? = some p.o) → floatB md ops i oi pre l = true →
      (∀ a w, C w → K a w → wpAnyE P md ops C Q nf ((listAll pre l).setIfInBounds i true) a w) →
      wpPre P ops C B z t oi.dst K Q pre a w → C w → B ≤ w.heap.size → wpAnyE P md ops C Q (pre.length + 1 + nf) l a w := by
  have made : ∀ (pre : List Stp) (l : Array Bool) (a : Act) (w' : World), (∀ p ∈ pre, ops[p.k]? = some p.o) → floatB md ops i oi pre l = true →
      (∀ a w, C w → K a w → wpAnyE P md ops C Q nf ((listAll pre l).setIfInBounds i true) a w) →
      wpPre P ops C B z t oi.dst K Q pre a w' → C w' → B ≤ w'.heap.size →
      wpOp P ops (Quiets Q) i (fun a' w'' => C w'' ∧ wpAnyE P md ops C Q (pre.length + nf) (l.setIfInBounds i true) a' w'') a w' := by
    intro pre l a w' hv hB hK h hC hb
    unfold wpOp
    simp only [hi]
    rw [if_pos (by simp [Region.wanted, hgd])]
    refine .inl ?_
    unfold Oper.wp
    rw [hal]
    have e : Ext w' (w'.alloc (.cells z t)) := (Ext.refl _).alloc _
    exact ⟨hCE _ _ hC e, float_done hCE hsel pre l a _ w'.heap.size hv hB hK (wpPre_up h e) (hCE _ _ hC e) hb (heap_alloc_new w' _)⟩
  intro pre
  induction pre with
  | nil =>
    intro l a w hv hB hK h hC hb
    rw [show ([] : List Stp).length + 1 + nf = nf + 1 by rw [List.length_nil]; omega]
    intro w' hw'
    have hr : Region.ready md ops l = [i] := by simpa [floatB] using hB
    refine ⟨fun h0 => (by rw [hr] at h0; cases h0), fun j hj => ?_⟩
    rw [hr] at hj
    obtain rfl : j = i := by simpa using hj
    have := made [] l a w' hv hB hK (wpPre_up h hw') (hCE _ _ hC hw') (Nat.le_trans hb hw'.size)
    simpa using this
  | cons s pre ih =>
    obtain ⟨q, k, o⟩ := s
    intro l a w hv hB hK h hC hb
    have ho : ops[k]? = some o := hv ⟨q, k, o⟩ (by simp)
    have hB0 := hB
    have h0 := h
    cases q
    · simp only [floatB, Bool.false_eq_true, if_false, Bool.and_eq_true, decide_eq_true_eq] at hB
      obtain ⟨⟨⟨⟨⟨hall, hk⟩, hr⟩, hne⟩, hap⟩, hB'⟩ := hB
      simp only [wpPre, Bool.false_eq_true, if_false] at h
      rw [List.length_cons, show pre.length + 1 + 1 + nf = (pre.length + 1 + nf) + 1 by omega]
      intro w' hw'
      refine ⟨fun h0 => (by rw [h0] at hk; cases hk), fun j hj => ?_⟩
      have hjk : j = k ∨ j = i := by simpa using List.all_eq_true.1 hall j hj
      rcases hjk with rfl | rfl
      · refine wpOp_mono (fun a' w'' ⟨he, hp⟩ => ⟨hCE _ _ (hCE _ _ hC hw') he, ?_⟩) (wpOp_of_list (C := fun w'' => Ext w' w'') ho (h ⟨w', hw'⟩))
        exact ih (l.setIfInBounds j true) a' w'' (fun p hp => hv p (List.mem_cons_of_mem _ hp)) hB' hK hp (hCE _ _ (hCE _ _ hC hw') he) (Nat.le_trans hb (hw'.trans he).size)
      · exact made (⟨false, k, o⟩ :: pre) l a w' hv hB0 hK (wpPre_up h0 hw') (hCE _ _ hC hw') (Nat.le_trans hb hw'.size)
    · simp only [floatB, if_true, Bool.and_eq_true, decide_eq_true_eq] at hB
      obtain ⟨⟨⟨⟨⟨⟨hr, hf⟩, _⟩, _⟩, hne⟩, hap⟩, hB'⟩ := hB
      simp only [wpPre, if_true] at h
      obtain ⟨v, hy, hn⟩ := h
      rw [List.length_cons, show pre.length + 1 + 1 + nf = (pre.length + 1 + nf) + 1 by omega]
      exact wpAnyE_first hCE ho hsel _ _ _ w (Region.free_spec ho hf) (by simpa using hr) hy hC
        (ih (l.setIfInBounds k true) _ w (fun p hp => hv p (List.mem_cons_of_mem _ hp)) hB' hK hn hC hb)

/-- Those of a list that are left, with their numbers; the second mask says which of them are taken at once. -/
def restL : List Bool → List Bool → Nat → List Oper → List Stp
  | b :: m, c :: n, k, o :: l => if b then restL m n (k + 1) l else ⟨c, k, o⟩ :: restL m n (k + 1) l
  | _, _, _, _ => []

theorem restL_valid : ∀ (m c : List Bool) (k : Nat) (l : List Oper), (∀ j, j < l.length → l[j]? = ops[k + j]?) → ∀ p ∈ restL m c k l, ops[p.k]? = some p.o
  | [], _, _, _, _, p, hp => by simp [restL] at hp
  | _ :: _, [], _, _, _, p, hp => by simp [restL] at hp
  | _ :: _, _ :: _, _, [], _, p, hp => by simp [restL] at hp
  | b :: m, c :: n, k, o :: l, ho, p, hp => by
    have h0 : ops[k]? = some o := by simpa using (ho 0 (by simp)).symm
    have ho' : ∀ j, j < l.length → l[j]? = ops[k + 1 + j]? := fun j hj => by
      have := ho (j + 1) (by simp; omega)
      simpa [Nat.add_assoc, Nat.add_comm 1 j] using this
    cases b
    · simp only [restL, Bool.false_eq_true, if_false, List.mem_cons] at hp
      rcases hp with rfl | hp
      · exact h0
      · exact restL_valid m n (k + 1) l ho' p hp
    · simp only [restL, if_true] at hp
      exact restL_valid m n (k + 1) l ho' p hp

theorem restL_length : ∀ (m c : List Bool) (k : Nat) (l : List Oper), m.length = l.length → c.length = l.length → (pickT m l).length + (restL m c k l).length = l.length
  | [], [], _, [], _, _ => rfl
  | [], _, _, _ :: _, h, _ => by simp at h
  | _ :: _, _, _, [], h, _ => by simp at h
  | _, [], _, _ :: _, _, h => by simp at h
  | _, _ :: _, _, [], _, h => by simp at h
  | b :: m, c :: n, k, o :: l, h, h2 => by
    have := restL_length m n (k + 1) l (by simpa using h) (by simpa using h2)
    cases b <;> simp [pickT, restL] <;> omega

def seqL (md : Region.Mode) (ops : Array Oper) : List Stp → Array Bool → Bool
  | [], l => (Region.ready md ops l).isEmpty
  | s :: r, l => (if s.q then (Region.ready md ops l).contains s.k && Region.free md ops l s.k else decide (Region.ready md ops l = [s.k])) && seqL md ops r (l.setIfInBounds s.k true)

theorem post_of_seqL (hCE : ∀ w w', C w → Ext w w' → C w') (hsel : ∀ (j : Nat) (o : Oper) cs b, ops[j]? = some o → o.op ≠ .select cs b) : ∀ (r : List Stp) (l : Array Bool) (a : Act) (w : World), (∀ p ∈ r, ops[p.k]? = some p.o) → seqL md ops r l = true → C w →
    wpPost P ops C Q r a w → wpAnyE P md ops C Q r.length l a w
  | [], l, a, w, _, hB, _, h => ⟨by simpa [seqL] using hB, fun w' hw' => h ⟨w', hw'⟩⟩
  | ⟨false, k, o⟩ :: r, l, a, w, hv, hB, hC, h => by
    simp only [seqL, Bool.false_eq_true, if_false, Bool.and_eq_true, decide_eq_true_eq] at hB
    simp only [wpPost, Bool.false_eq_true, if_false] at h
    have ho : ops[k]? = some o := hv ⟨false, k, o⟩ (by simp)
    intro w' hw'
    refine ⟨fun h0 => (by rw [hB.1] at h0; cases h0), fun j hj => ?_⟩
    rw [hB.1] at hj
    obtain rfl : j = k := by simpa using hj
    exact wpOp_mono (fun a' w'' ⟨hc, hp⟩ => ⟨hc, post_of_seqL hCE hsel r _ a' w'' (fun p hp => hv p (List.mem_cons_of_mem _ hp)) hB.2 hc hp⟩) (wpOp_of_list ho (h ⟨w', hw'⟩))
  | ⟨true, k, o⟩ :: r, l, a, w, hv, hB, hC, h => by
    simp only [seqL, if_true, Bool.and_eq_true] at hB
    simp only [wpPost, if_true] at h
    obtain ⟨v, hy, hn⟩ := h
    have ho : ops[k]? = some o := hv ⟨true, k, o⟩ (by simp)
    exact wpAnyE_first hCE ho hsel _ _ _ w (Region.free_spec ho hB.1.2) (by simpa using hB.1.1) hy hC
      (post_of_seqL hCE hsel r _ _ w (fun p hp => hv p (List.mem_cons_of_mem _ hp)) hB.2 hC hn)

/-- The Bools of such a region: n0 of the rest stand ahead of the making. -/
def mixFB (ops : Array Oper) (m c : List Bool) (l : List Oper) (n n0 : Nat) : Bool :=
  Region.noSelect ops && decide (m.length = l.length) && decide (c.length = l.length) && dstsOk n (pickT m l) &&
    (match Region.lexMask .any ops m 0 (Array.replicate l.length false) with
     | some le => (match (restL m c 0 l).drop n0 with
       | ⟨_, i, oi⟩ :: post => oi.guard.isNone && floatB .any ops i oi ((restL m c 0 l).take n0) le && seqL .any ops post ((listAll ((restL m c 0 l).take n0) le).setIfInBounds i true)
       | [] => false)
     | none => false)

/-- What is asked of the rest: those ahead, the making, those behind. -/
def wpFloat (P : Program) (ops : Array Oper) (C : World → Prop) (B : Nat) (z : Array Value) (t : TypeId) (Q : Exit → Act → World → Prop) (n0 : Nat) (l : List Stp) (a : Act) (w : World) : Prop :=
  match l.drop n0 with
  | s :: post => (∀ (a : Act) (w : World), (execOp a.eval s.o).run P w = .ok (.value (.pointer (some ⟨w.heap.size, 0, none⟩))) (w.alloc (.cells z t))) ∧ wpPre P ops C B z t s.o.dst (wpPost P ops C Q post) Q (l.take n0) a w
  | [] => False

/-- A REGION THAT DRAWS ITS ORDER AND MAKES A VARIABLE. -/
theorem wp_region_mixF {id : Nat} {a af : Act} {w : World} {l : List Oper} (z : Array Value) (t : TypeId) (m c : List Bool) (n n0 : Nat) (hm : P.follows .mixedOrders = true)
    (hn : a.tmps.size = n) (hB : mixFB l.toArray m c l n n0 = true) (hCE : ∀ w w', C w → Ext w w' → C w') (hC : C w.drew)
    (h : ∀ w', C w' → wpQuiet P l.toArray (fun w'' => ∃ x : ExtOf w', w'' = x.val) (fun a' => a' = af) (pickT m l) a)
    (hr : wpFloat P l.toArray C w.heap.size z t Q n0 (restL m c 0 l) af w.drew) : (Code.region id l.toArray true).wp P Q a w := by
  subst hn
  simp only [mixFB, Bool.and_eq_true, decide_eq_true_eq] at hB
  obtain ⟨⟨⟨⟨hs, hl⟩, hcl⟩, hd⟩, hx⟩ := hB
  split at hx
  case h_2 => cases hx
  case h_1 le hle =>
    unfold wpFloat at hr
    split at hx
    case h_2 => cases hx
    case h_1 q i oi post hdrop =>
      simp only [Bool.and_eq_true] at hx
      obtain ⟨⟨hg, hf⟩, hsq⟩ := hx
      have hsel := Region.noSelect_spec hs
      have hv := restL_valid (ops := l.toArray) m c 0 l (fun j _ => by simp)
      have hvp : ∀ p ∈ post, l.toArray[p.k]? = some p.o := fun p hp => hv p (List.mem_of_mem_drop (by rw [hdrop]; exact List.mem_cons_of_mem _ hp))
      have hvi : l.toArray[i]? = some oi := hv ⟨q, i, oi⟩ (List.mem_of_mem_drop (by rw [hdrop]; simp))
      have hvt : ∀ p ∈ (restL m c 0 l).take n0, l.toArray[p.k]? = some p.o := fun p hp => hv p (List.mem_of_mem_take hp)
      rw [hdrop] at hr
      obtain ⟨hal, hpre⟩ := hr
      have hq := walkE_of_quiet (P := P) (ops := l.toArray) (C := C) ⟨_, hC⟩ (pickT m l) a hd h
      have hmain := float_main (P := P) (md := .any) (ops := l.toArray) (C := C) (Q := Q) (K := wpPost P l.toArray C Q post) (nf := post.length) hCE hsel hvi (by simpa using hg) hal
        ((restL m c 0 l).take n0) le af w.drew hvt hf (fun a w hc hk => post_of_seqL hCE hsel post _ a w hvp hsq hc hk) hpre hC (Nat.le_refl _)
      have := wpAnyE_lex (P := P) (md := .any) (ops := l.toArray) (Q := Q) hCE hs m l 0 _ a w.drew hl (fun j _ => by simp) hle hq hC hmain
      have hlen : (pickT m l).length + (((restL m c 0 l).take n0).length + 1 + post.length) = l.length := by
        have h1 := restL_length m c 0 l hl hcl
        have h3 : ((restL m c 0 l).take n0).length + ((restL m c 0 l).drop n0).length = (restL m c 0 l).length := by rw [← List.length_append, List.take_append_drop]
        rw [hdrop] at h3
        simp only [List.length_cons] at h3
        omega
      rw [hlen] at this
      refine Code.wp_mono quiets_imp (wp_region_any hm ?_)
      have h2 := wpAny_of_E _ _ _ _ this
      simpa using h2

/-- The same without a making. -/
theorem wp_region_mixQ {id : Nat} {a af : Act} {w : World} {l : List Oper} (m c : List Bool) (n : Nat) (hm : P.follows .mixedOrders = true)
    (hn : a.tmps.size = n) (hB : (Region.noSelect l.toArray && decide (m.length = l.length) && decide (c.length = l.length) && dstsOk n (pickT m l) &&
      (match Region.lexMask .any l.toArray m 0 (Array.replicate l.length false) with | some le => seqL .any l.toArray (restL m c 0 l) le | none => false)) = true) (hCE : ∀ w w', C w → Ext w w' → C w') (hC : C w.drew)
    (h : ∀ w', C w' → wpQuiet P l.toArray (fun w'' => ∃ x : ExtOf w', w'' = x.val) (fun a' => a' = af) (pickT m l) a)
    (hr : wpPost P l.toArray C Q (restL m c 0 l) af w.drew) : (Code.region id l.toArray true).wp P Q a w := by
  subst hn
  simp only [Bool.and_eq_true, decide_eq_true_eq] at hB
  obtain ⟨⟨⟨⟨hs, hl⟩, hcl⟩, hd⟩, hx⟩ := hB
  split at hx
  case h_2 => cases hx
  case h_1 le hle =>
    have hv := restL_valid (ops := l.toArray) m c 0 l (fun j _ => by simp)
    have hq := walkE_of_quiet (P := P) (ops := l.toArray) (C := C) ⟨_, hC⟩ (pickT m l) a hd h
    have := wpAnyE_lex (P := P) (md := .any) (ops := l.toArray) (Q := Q) hCE hs m l 0 _ a w.drew hl (fun j _ => by simp) hle hq hC (post_of_seqL hCE (Region.noSelect_spec hs) _ _ _ _ hv hx hC hr)
    rw [restL_length m c 0 l hl hcl] at this
    refine Code.wp_mono quiets_imp (wp_region_any hm ?_)
    have h2 := wpAny_of_E _ _ _ _ this
    simpa using h2
end
end Go.Proofs.Ytibdplfdmncgiaa

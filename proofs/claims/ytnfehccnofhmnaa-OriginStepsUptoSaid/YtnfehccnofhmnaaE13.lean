/-
  An abstract machine of this place's own: what it computes of a function's code is what the model does. No condition.
-/
import Derived.Test.YtnfehccnofhmnaaE12
set_option linter.all false
namespace Go.Proofs.Ytnfehccnofhmnaa
open Go.RowKit
namespace E

section
variable (P : Program) (X : Ctx) (fi : Fi) (D : Nat → List Oper → St → (St → Prop) → Prop)

/-- What holds behind a code: D: of a region that draws its order. -/
def WP : Code → St → (Ex → St → Prop) → Prop
  | .skip, σ, Q => Q .norm σ
  | .ret, σ, Q => Q .ret σ
  | .exit id, σ, Q => Q (.exit id) σ
  | .seq a b, σ, Q => WP a σ fun e σ' => match e with
    | .norm => WP b σ' Q
    | e => Q e σ'
  | .cond c a b, σ, Q => match ev σ c with
    | some (.one (.lit (.bool true))) => WP a σ Q
    | some (.one (.lit (.bool false))) => WP b σ Q
    | _ => False
  | .block id c, σ, Q => WP c σ fun e σ' => match e with
    | .exit id' => if id' = id then Q .norm σ' else Q (.exit id') σ'
    | e => Q e σ'
  | .loop c, σ, Q => ∃ n, LoopW (WP c) n σ Q
  | .region id ops draw, σ, Q => if draw then D id ops.toList σ fun σ' => Q .norm (clean fi id σ') else wpOpsE P X fi ops.toList ops.toList σ fun σ' => Q .norm (clean fi id σ')
  | _, _, _ => False
end

section sound
variable {P : Program} {X : Ctx} {fi : Fi} {D : Nat → List Oper → St → (St → Prop) → Prop}

def ExRel : Exit → Ex → Prop
  | .normal, .norm => True
  | .exit i, .exit j => i = j
  | .ret, .ret => True
  | _, _ => False

/-- What a region that draws its order has to come to. -/
def DrawOk (P : Program) (fi : Fi) (D : Nat → List Oper → St → (St → Prop) → Prop) : Prop :=
  ∀ (id : Nat) (ops : Array Oper) (σ : St) (K : St → Prop) (β : Pls) (μ : Fms) (a : Act) (w : World) (Q : Exit → Act → World → Prop), D id ops.toList σ K → SRel σ.h.next β μ fi.nt σ a w →
    (∀ σ' β' μ' a' w', K σ' → SRel σ'.h.next β' μ' fi.nt σ' a' w' → Step β μ σ w β' μ' σ' w' → σ.h.next ≤ σ'.h.next → (∀ b, b < σ.h.next → β' b = β b) → Q .normal a' w') → (Code.region id ops true).wp P Q a w

theorem wpOpsE_sound (hT : TtOk P X) (hF : FlatOk P X) {ops : Array Oper} {Q : Exit → Act → World → Prop} : ∀ (l : List Oper) (σ : St) (K : St → Prop) (β : Pls) (μ : Fms) (a : Act) (w : World), wpOpsE P X fi ops.toList l σ K → SRel σ.h.next β μ fi.nt σ a w →
    (∀ σ' β' μ' a' w', K σ' → SRel σ'.h.next β' μ' fi.nt σ' a' w' → Step β μ σ w β' μ' σ' w' → σ.h.next ≤ σ'.h.next → (∀ b, b < σ.h.next → β' b = β b) → Q .normal a' w') → wpList P ops Q l a w
  | [], σ, K, β, μ, a, w, h, hS, hQ => hQ σ β μ a w h hS (Step.refl _ _ _ _) (Nat.le_refl _) (fun _ _ => rfl)
  | o :: l, σ, K, β, μ, a, w, h, hS, hQ => by
    simp only [wpOpsE] at h
    unfold wpList
    split at h
    · rename_i hw
      obtain ⟨σ', hp, h'⟩ := h
      rw [yield_ok hS hw, if_neg (by simp)]
      obtain ⟨g1, g2, g3⟩ := put_ok hS (v := undefC) (x := undef) rfl hp
      refine wpOpsE_sound hT hF l σ' K β μ _ w h' (by rw [g2]; exact g1) fun σ2 β2 μ2 a2 w2 k1 k2 k3 k4 k5 => hQ σ2 β2 μ2 a2 w2 k1 k2 ⟨k3.ext, k3.os, k3.tape, k3.output, k3.size, fun r hr hn => k3.fr r hr fun hm => hn ?_, fun r hm => (k3.own r hm).imp ?_ id, fun b x p e1 e2 => (k3.blks b x p e1 e2).imp ?_ id⟩ (by rw [← g2]; exact k4) (by rw [← g2]; exact k5)
      · simpa only [mine, g2, g3] using hm
      · intro hm; simpa only [mine, g2, g3] using hm
      · intro hm; simpa only [g2] using hm
    · rename_i hw
      rw [yield_ok hS hw, if_pos rfl]
      refine .inl ?_
      split at h
      · obtain ⟨f, args, v, h', σ', hc, hl, hA, hp, h2⟩ := h
        obtain ⟨hnx, hfn, hcall⟩ := hA
        obtain ⟨xs, hxs, hrun⟩ := callee_ok (P := P) hS hc hl hfn
        unfold Oper.wp
        rw [hrun, Oper.upon_enter]
        refine (hcall β w xs hS.heap hxs).mono fun e w' he => ?_
        obtain ⟨x, β', rfl, hv, hH, hst, hold⟩ := he
        obtain ⟨g1, g2⟩ := call_back hS hH hst
        obtain ⟨k1, k2, k3⟩ := put_ok g1 (hv.ups (μ' := μ) (fun _ _ h => h) (fun _ _ _ h => by cases h)) hp
        refine wpOpsE_sound hT hF l σ' K β' μ _ w' h2 (by rw [k2]; exact k1) fun σ2 β2 μ2 a2 w2 m1 m2 m3 m4 m5 => hQ σ2 β2 μ2 a2 w2 m1 m2 (g2.trans ⟨m3.ext, m3.os, m3.tape, m3.output, m3.size, fun r hr hn => m3.fr r hr fun hm => hn ?_, fun r hm => (m3.own r hm).imp ?_ id, fun b x p e1 e2 => (m3.blks b x p e1 e2).imp ?_ id⟩) (Nat.le_trans hnx (by rw [k2] at m4; exact m4)) (fun b hb => (m5 b (by rw [k2]; exact Nat.lt_of_lt_of_le hb hnx)).trans (hold b hb))
        · simpa only [mine, k2, k3] using hm
        · intro hm; simpa only [mine, k2, k3] using hm
        · intro hm; simpa only [k2] using hm
      · obtain ⟨v, σ1, σ', hop, hp, h2⟩ := h
        obtain ⟨n, x, w', β', μ', hrun, hn, hv, hS1, hst, hnm, hμ, hnx⟩ := op_ok (P := P) (N' := σ.h.next + 1) (nm := σ.h.next) hT hF (Nat.le_succ _) (Nat.lt_succ_self _) (hS.heap.fresh _ (Nat.le_refl _)) hS hop
        have hS2 : SRel (bump fi o σ1.h).next β' μ' fi.nt { σ1 with h := bump fi o σ1.h } a w' := by
          have hget : ∀ b, (bump fi o σ1.h).get b = σ1.h.get b := fun b => by
            unfold bump
            cases makes fi o <;> rfl
          refine ⟨⟨fun b hb => ?_, fun b y hy => hS1.heap.blk b y (by rw [← hget]; exact hy), fun b b' y y' p p' e0 e1 e2 => hS1.heap.apart b b' y y' p p' e0 (by rw [← hget]; exact e1) (by rw [← hget]; exact e2)⟩, hS1.size, hS1.defers, hS1.env, hS1.box, hS1.bxap, fun t cs b y p e1 e2 => hS1.hap t cs b y p e1 (by rw [← hget]; exact e2)⟩
          unfold bump at hb
          cases hmk : makes fi o with
          | true =>
            rw [hmk, cond_true] at hb
            exact hS1.heap.fresh b (by simp only at hb; omega)
          | false =>
            rw [hmk, cond_false] at hb
            rw [hnm b (.inr hmk)]
            exact hS.heap.fresh b (by omega)
        obtain ⟨k1, k2, k3⟩ := put_ok hS2 hv hp
        have hbx : { σ1 with h := bump fi o σ1.h }.bx = σ1.bx := rfl
        have hget : ∀ b, σ'.h.get b = σ1.h.get b := fun b => by
          rw [k2]
          show (bump fi o σ1.h).get b = _
          unfold bump
          cases makes fi o <;> rfl
        have hmine : ∀ r, mine β' μ' σ' r → mine β' μ' σ1 r := fun r hm => by
          rcases hm with ⟨b, y, p, e1, e2, e3, e4⟩ | ⟨t, cs, e1, e2⟩
          · exact .inl ⟨b, y, p, by rw [← hget]; exact e1, e2, e3, e4⟩
          · exact .inr ⟨t, cs, by rw [k3] at e1; exact e1, e2⟩
        have hmine' : ∀ r, mine β' μ' σ1 r → mine β' μ' σ' r := fun r hm => by
          rcases hm with ⟨b, y, p, e1, e2, e3, e4⟩ | ⟨t, cs, e1, e2⟩
          · exact .inl ⟨b, y, p, by rw [hget]; exact e1, e2, e3, e4⟩
          · exact .inr ⟨t, cs, by rw [k3]; exact e1, e2⟩
        have hle : σ.h.next ≤ σ'.h.next := by
          rw [k2]
          show _ ≤ (bump fi o σ1.h).next
          unfold bump
          cases makes fi o with
          | true => show _ ≤ σ1.h.next + 1; omega
          | false => show _ ≤ σ1.h.next; omega
        have key : wpList P ops Q l (a.put o.dst x) w' := by
          refine wpOpsE_sound hT hF l σ' K β' μ' _ w' h2 (by rw [k2]; exact k1) fun σ2 β2 μ2 a2 w2 m1 m2 m3 m4 m5 => hQ σ2 β2 μ2 a2 w2 m1 m2 (hst.trans ⟨m3.ext, m3.os, m3.tape, m3.output, m3.size, fun r hr hn => m3.fr r hr fun hm => hn (hmine r hm), fun r hm => (m3.own r hm).imp (hmine r) id, fun b y p e1 e2 => (m3.blks b y p e1 e2).imp ?_ id⟩) (Nat.le_trans hle m4) (fun b hb => (m5 b (Nat.lt_of_lt_of_le hb hle)).trans (hnm b (.inl (by omega))))
          rintro ⟨b0, x0, p0, e1, e2, e3⟩
          exact ⟨b0, x0, p0, by rw [← hget]; exact e1, e2, e3⟩
        unfold Oper.wp
        rw [hrun]
        rcases hn with rfl | ⟨rfl, rfl⟩
        · exact key
        · exact key
    · exact h.elim

/-- What is forgotten behind a region. -/
theorem get_keepEnv {l : List Nat} {env : List (Nat × V)} {t : Nat} {v : V} : get (keepEnv l env) t = some v → get env t = some v := by
  induction l with
  | nil => intro h; simp [keepEnv, get] at h
  | cons u l ih =>
    intro h
    simp only [keepEnv, List.filterMap_cons] at h
    cases hu : get env u with
    | none => rw [hu] at h; exact ih h
    | some y =>
      rw [hu] at h
      simp only [Option.map_some] at h
      rw [get_cons] at h
      split at h
      · rename_i he
        subst he
        simp only [Option.some.injEq] at h
        subst h
        exact hu
      · exact ih h

theorem get_keepBx {l : List Nat} {bx : List (Nat × List C)} {t : Nat} {v : List C} : get (keepBx l bx) t = some v → get bx t = some v := by
  induction l with
  | nil => intro h; simp [keepBx, get] at h
  | cons u l ih =>
    intro h
    simp only [keepBx, List.filterMap_cons] at h
    cases hu : get bx u with
    | none => rw [hu] at h; exact ih h
    | some y =>
      rw [hu] at h
      simp only [Option.map_some] at h
      rw [get_cons] at h
      split at h
      · rename_i he
        subst he
        simp only [Option.some.injEq] at h
        subst h
        exact hu
      · exact ih h

theorem clean_ok {N : Nat} {β : Pls} {μ : Fms} {nt id : Nat} {σ : St} {a : Act} {w : World} (hS : SRel N β μ nt σ a w) : SRel N β μ nt (clean fi id σ) a w ∧ Step β μ σ w β μ (clean fi id σ) w ∧ (clean fi id σ).h = σ.h := by
  unfold clean
  split
  · rename_i l hl
    refine ⟨⟨hS.heap, hS.size, hS.defers, fun t v h => hS.env t v (get_keepEnv h), fun t cs h => hS.box t cs (get_keepBx h), fun t t' cs cs' r h0 h1 h2 => hS.bxap t t' cs cs' r h0 (get_keepBx h1) (get_keepBx h2), fun t cs b x p h1 => hS.hap t cs b x p (get_keepBx h1)⟩,
      ⟨fun _ _ h => h, rfl, rfl, rfl, Nat.le_refl _, fun _ _ _ => rfl, fun r hm => .inl ?_, fun b x p h1 h2 => .inl ⟨b, x, p, h1, h2, rfl⟩⟩, rfl⟩
    rcases hm with h | ⟨t, cs, h1, h2⟩
    · exact .inl h
    · exact .inr ⟨t, cs, get_keepBx h1, h2⟩
  · exact ⟨hS, Step.refl _ _ _ _, rfl⟩

/-- What stands behind a code, in the model. -/
def Post (fi : Fi) (β : Pls) (μ : Fms) (σ : St) (w : World) (Q : Ex → St → Prop) : Exit → Act → World → Prop := fun e a' w' =>
  ∃ ex σ' β' μ', ExRel e ex ∧ Q ex σ' ∧ SRel σ'.h.next β' μ' fi.nt σ' a' w' ∧ Step β μ σ w β' μ' σ' w' ∧ σ.h.next ≤ σ'.h.next ∧ ∀ b, b < σ.h.next → β' b = β b

theorem WP_sound (hT : TtOk P X) (hF : FlatOk P X) (hD : DrawOk P fi D) : ∀ (c : Code) (σ : St) (Q : Ex → St → Prop) (β : Pls) (μ : Fms) (a : Act) (w : World), WP P X fi D c σ Q → SRel σ.h.next β μ fi.nt σ a w → c.wp P (Post fi β μ σ w Q) a w
  | .skip, σ, Q, β, μ, a, w, h, hS => wp_skip ⟨.norm, σ, β, μ, trivial, h, hS, Step.refl _ _ _ _, Nat.le_refl _, fun _ _ => rfl⟩
  | .ret, σ, Q, β, μ, a, w, h, hS => wp_ret ⟨.ret, σ, β, μ, trivial, h, hS, Step.refl _ _ _ _, Nat.le_refl _, fun _ _ => rfl⟩
  | .exit id, σ, Q, β, μ, a, w, h, hS => wp_exit ⟨.exit id, σ, β, μ, rfl, h, hS, Step.refl _ _ _ _, Nat.le_refl _, fun _ _ => rfl⟩
  | .seq c d, σ, Q, β, μ, a, w, h, hS => by
    refine wp_seq (Go.wp_mono (WP_sound hT hF hD c σ _ β μ a w h hS) fun e a' w' he => ?_)
    obtain ⟨ex, σ', β', μ', h1, h2, h3, h4, h5, h6⟩ := he
    cases e <;> cases ex <;> simp only [ExRel] at h1
    · exact Go.wp_mono (WP_sound hT hF hD d σ' _ β' μ' a' w' h2 h3) fun e a2 w2 ⟨ex, σ2, β2, μ2, k1, k2, k3, k4, k5, k6⟩ => ⟨ex, σ2, β2, μ2, k1, k2, k3, h4.trans k4, Nat.le_trans h5 k5, fun b hb => (k6 b (Nat.lt_of_lt_of_le hb h5)).trans (h6 b hb)⟩
    · subst h1
      exact ⟨.exit _, σ', β', μ', rfl, h2, h3, h4, h5, h6⟩
    · exact ⟨.ret, σ', β', μ', trivial, h2, h3, h4, h5, h6⟩
  | .cond x c d, σ, Q, β, μ, a, w, h, hS => by
    simp only [WP] at h
    split at h
    · rename_i hx
      exact wp_cond (t := true) (ev_ok hS hx) (WP_sound hT hF hD c σ Q β μ a w h hS)
    · rename_i hx
      exact wp_cond (t := false) (ev_ok hS hx) (WP_sound hT hF hD d σ Q β μ a w h hS)
    · exact h.elim
  | .block id c, σ, Q, β, μ, a, w, h, hS => by
    refine wp_block (Go.wp_mono (WP_sound hT hF hD c σ _ β μ a w h hS) fun e a' w' he => ?_)
    obtain ⟨ex, σ', β', μ', h1, h2, h3, h4, h5, h6⟩ := he
    cases e <;> cases ex <;> simp only [ExRel] at h1
    · exact ⟨.norm, σ', β', μ', trivial, h2, h3, h4, h5, h6⟩
    · subst h1
      rename_i id'
      simp only at h2
      simp only [Exit.inBlock]
      by_cases hid : id' = id
      · rw [if_pos hid] at h2 ⊢
        exact ⟨.norm, σ', β', μ', trivial, h2, h3, h4, h5, h6⟩
      · rw [if_neg hid] at h2 ⊢
        exact ⟨.exit _, σ', β', μ', rfl, h2, h3, h4, h5, h6⟩
    · exact ⟨.ret, σ', β', μ', trivial, h2, h3, h4, h5, h6⟩
  | .loop c, σ, Q, β, μ, a, w, h, hS => by
    obtain ⟨n, h⟩ := h
    refine wp_loop_rounds n ?_
    have key : ∀ (n : Nat) (σ : St) (β1 : Pls) (μ1 : Fms) (σ1 : St) (a : Act) (w : World) (w1 : World), LoopW (WP P X fi D c) n σ1 Q → SRel σ1.h.next β1 μ1 fi.nt σ1 a w1 → Step β μ σ w β1 μ1 σ1 w1 → σ.h.next ≤ σ1.h.next → (∀ b, b < σ.h.next → β1 b = β b) →
        Code.rounds P c (Post fi β μ σ w Q) n a w1 := by
      intro n
      induction n with
      | zero => intro _ _ _ _ _ _ _ h; exact h.elim
      | succ n ih =>
        intro σ β1 μ1 σ1 a w w1 h hS1 hst hle hold
        rw [rounds_succ]
        refine Go.wp_mono (WP_sound hT hF hD c σ1 _ β1 μ1 a w1 h hS1) fun e a' w' he => ?_
        obtain ⟨ex, σ', β', μ', h1, h2, h3, h4, h5, h6⟩ := he
        cases e <;> cases ex <;> simp only [ExRel] at h1
        · exact ih σ β' μ' σ' a' w w' h2 h3 (hst.trans h4) (Nat.le_trans hle h5) (fun b hb => (h6 b (Nat.lt_of_lt_of_le hb hle)).trans (hold b hb))
        · subst h1
          exact ⟨.exit _, σ', β', μ', rfl, h2, h3, hst.trans h4, Nat.le_trans hle h5, fun b hb => (h6 b (Nat.lt_of_lt_of_le hb hle)).trans (hold b hb)⟩
        · exact ⟨.ret, σ', β', μ', trivial, h2, h3, hst.trans h4, Nat.le_trans hle h5, fun b hb => (h6 b (Nat.lt_of_lt_of_le hb hle)).trans (hold b hb)⟩
    exact key n σ β μ σ a w w h hS (Step.refl _ _ _ _) (Nat.le_refl _) (fun _ _ => rfl)
  | .region id ops draw, σ, Q, β, μ, a, w, h, hS => by
    simp only [WP] at h
    have fin : ∀ σ' β' μ' a' w', Q .norm (clean fi id σ') → SRel σ'.h.next β' μ' fi.nt σ' a' w' → Step β μ σ w β' μ' σ' w' → σ.h.next ≤ σ'.h.next → (∀ b, b < σ.h.next → β' b = β b) → Post fi β μ σ w Q .normal a' w' := fun σ' β' μ' a' w' k1 k2 k3 k4 k5 => by
      obtain ⟨g1, g2, g3⟩ := clean_ok (fi := fi) (id := id) k2
      exact ⟨.norm, _, β', μ', trivial, k1, by rw [g3]; exact g1, k3.trans g2, by rw [g3]; exact k4, k5⟩
    cases draw with
    | true => exact hD id ops σ _ β μ a w _ h hS fin
    | false => exact wp_region_list (wpOpsE_sound hT hF ops.toList σ _ β μ a w h hS fin)
  | .rangeFunc .., _, _, _, _, _, _, h, _ => h.elim
  | .scope _, _, _, _, _, _, _, h, _ => h.elim
  | .label _, _, _, _, _, _, _, h, _ => h.elim
  | .goto _, _, _, _, _, _, _, h, _ => h.elim
  | .refuse _, _, _, _, _, _, _, h, _ => h.elim
end sound
end E
end Go.Proofs.Ytnfehccnofhmnaa

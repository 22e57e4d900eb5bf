/-
  An abstract machine of this place's own: how its states stand to the model's; the lemmas on lists, cells and blocks. No condition.
-/
import Derived.Test.YtnfehccnofhmnaaE1
import Derived.WalkSpells
import Derived.WalkLawsBesides
import Derived.Deep.MidRow
import Derived.Lib.Hide
set_option linter.all false
namespace Go.Proofs.Ytnfehccnofhmnaa
open Go.RowKit
namespace E

/-! ### Lists, two at a time -/
def All2 {α β : Type} (R : α → β → Prop) : List α → List β → Prop
  | [], [] => True
  | x :: xs, y :: ys => R x y ∧ All2 R xs ys
  | _, _ => False

section all2
variable {α β : Type} {R S : α → β → Prop}
theorem All2.length : ∀ {xs : List α} {ys : List β}, All2 R xs ys → xs.length = ys.length
  | [], [], _ => rfl
  | _ :: _, _ :: _, h => congrArg (· + 1) (All2.length h.2)
  | [], _ :: _, h => h.elim
  | _ :: _, [], h => h.elim
theorem All2.get : ∀ {xs : List α} {ys : List β}, All2 R xs ys → ∀ {i : Nat} {x : α}, xs[i]? = some x → ∃ y, ys[i]? = some y ∧ R x y
  | [], [], _, _, _, h => by simp at h
  | x :: _, y :: _, h, 0, _, e => ⟨y, rfl, by simp at e; subst e; exact h.1⟩
  | _ :: xs, _ :: ys, h, i + 1, _, e => by
    obtain ⟨y, h1, h2⟩ := All2.get h.2 (i := i) (by simpa using e)
    exact ⟨y, by simpa using h1, h2⟩
  | [], _ :: _, h, _, _, _ => h.elim
  | _ :: _, [], h, _, _, _ => h.elim
theorem All2.mono : ∀ {xs : List α} {ys : List β}, All2 R xs ys → (∀ x, x ∈ xs → ∀ y, R x y → S x y) → All2 S xs ys
  | [], [], _, _ => trivial
  | x :: xs, y :: ys, h, k => ⟨k x (by simp) y h.1, All2.mono h.2 fun a ha b => k a (by simp [ha]) b⟩
  | [], _ :: _, h, _ => h.elim
  | _ :: _, [], h, _ => h.elim
theorem All2.append : ∀ {xs xs' : List α} {ys ys' : List β}, All2 R xs ys → All2 R xs' ys' → All2 R (xs ++ xs') (ys ++ ys')
  | [], _, [], _, _, h => h
  | _ :: _, _, _ :: _, _, h, h' => ⟨h.1, All2.append h.2 h'⟩
  | [], _, _ :: _, _, h, _ => h.elim
  | _ :: _, _, [], _, h, _ => h.elim
theorem All2.take : ∀ (n : Nat) {xs : List α} {ys : List β}, All2 R xs ys → All2 R (xs.take n) (ys.take n)
  | 0, _, _, _ => by simp [All2]
  | _ + 1, [], [], _ => by simp [All2]
  | n + 1, _ :: _, _ :: _, h => ⟨h.1, All2.take n h.2⟩
  | _, [], _ :: _, h => h.elim
  | _, _ :: _, [], h => h.elim
theorem All2.drop : ∀ (n : Nat) {xs : List α} {ys : List β}, All2 R xs ys → All2 R (xs.drop n) (ys.drop n)
  | 0, _, _, h => h
  | _ + 1, [], [], _ => by simp [All2]
  | n + 1, _ :: _, _ :: _, h => All2.drop n h.2
  | _, [], _ :: _, h => h.elim
  | _, _ :: _, [], h => h.elim
theorem All2.map_left {γ : Type} {f : γ → α} : ∀ {xs : List γ} {ys : List β}, All2 (fun c y => R (f c) y) xs ys → All2 R (xs.map f) ys
  | [], [], _ => trivial
  | _ :: _, _ :: _, h => ⟨h.1, All2.map_left h.2⟩
  | [], _ :: _, h => h.elim
  | _ :: _, [], h => h.elim
theorem All2.map_right {γ : Type} {f : γ → β} : ∀ {xs : List α} {ys : List γ}, All2 (fun x c => R x (f c)) xs ys → All2 R xs (ys.map f)
  | [], [], _ => trivial
  | _ :: _, _ :: _, h => ⟨h.1, All2.map_right h.2⟩
  | [], _ :: _, h => h.elim
  | _ :: _, [], h => h.elim
theorem All2.one {x : α} {ys : List β} (h : All2 R [x] ys) : ∃ y, ys = [y] ∧ R x y := by
  match ys, h with
  | [y], h => exact ⟨y, rfl, h.1⟩
end all2

theorem nbeq_ne {k t : Nat} (h : k ≠ t) : Nat.beq k t = false := by
  cases hb : Nat.beq k t with
  | false => rfl
  | true => exact absurd (Nat.eq_of_beq_eq_true hb) h

theorem get_cons {α : Type} (k : Nat) (x : α) (l : List (Nat × α)) (t : Nat) : get ((k, x) :: l) t = if k = t then some x else get l t := by
  by_cases h : k = t
  · subst h; simp [get]
  · simp [get, nbeq_ne h, h]

theorem get_setL {α : Type} (b : Nat) (x : α) : ∀ (l : List (Nat × α)) (t : Nat), get (setL b x l) t = if b = t then some x else get l t
  | [], t => by rw [setL, get_cons]
  | (k, y) :: l, t => by
    have ih := get_setL b x l t
    by_cases hk : k = b
    · subst hk
      simp only [setL, Nat.beq_refl, cond_true, get_cons]
      split <;> rfl
    · simp only [setL, nbeq_ne hk, cond_false, get_cons, ih]
      by_cases hb : k = t
      · subst hb
        rw [if_pos rfl, if_neg (fun h : b = k => hk h.symm), if_pos rfl]
      · simp [hb]

theorem get_delL {α : Type} (b : Nat) : ∀ (l : List (Nat × α)) (t : Nat), get (delL b l) t = if b = t then none else get l t
  | [], t => by simp [delL, get]
  | (k, y) :: l, t => by
    have ih := get_delL b l t
    by_cases hk : k = b
    · subst hk
      simp only [delL, Nat.beq_refl, cond_true, ih, get_cons]
      split <;> rfl
    · simp only [delL, nbeq_ne hk, cond_false, get_cons, ih]
      by_cases hb : k = t
      · subst hb
        rw [if_pos rfl, if_neg (fun h : b = k => hk h.symm), if_pos rfl]
      · simp [hb]

theorem Heap.get_set (h : Heap) (b : Nat) (x : Blk) (t : Nat) : (h.set b x).get t = if b = t then some x else h.get t := get_setL b x h.bs t
theorem Heap.get_del (h : Heap) (b t : Nat) : (h.del b).get t = if b = t then none else h.get t := get_delL b h.bs t

/-! ### What stands for what -/
/-- Where a block lies: the model's block, the place of its first cell, how many cells that block has, how many of them are the row's, the cells of an element. -/
structure Pl where
  rb : Nat
  ro : Nat
  ext : Nat
  n : Nat
  sz : Nat

abbrev Pls := Nat → Option Pl
abbrev Fms := Nat → Option Nat
def noF : Fms := fun _ => none

def PtrRel (β : Pls) (c : Nat × Nat) (x : Value) : Prop := ∃ p, β c.1 = some p ∧ x = .pointer (some ⟨p.rb, p.ro + c.2, none⟩)

def CRel (β : Pls) (μ : Fms) : C → Value → Prop
  | .lit v, x => x = v
  | .ptr b o, x => ∃ p, β b = some p ∧ x = .pointer (some ⟨p.rb, p.ro + o, none⟩)
  | .lp t o, x => ∃ r, μ t = some r ∧ x = .pointer (some ⟨r, o, none⟩)
  | .sl b o len cap, x => ∃ p k rc, β b = some p ∧ x = .slice (some ⟨p.rb, k, none⟩) len rc ∧ len ≤ cap ∧ cap ≤ rc ∧ (rc ≠ 0 → k = p.ro + o) ∧ (rc = cap ∨ (0 < p.sz ∧ o + cap * p.sz = p.n ∧ p.ro + o + rc * p.sz ≤ p.ext))
  | .mp b, x => ∃ p, β b = some p ∧ x = .map (some p.rb)
  | .fn f caps, x => ∃ l, x = .func (.func f) #[] l ∧ All2 (PtrRel β) caps l.toList

def VRel1 (β : Pls) (μ : Fms) : V → Value → Prop
  | .one c, x => CRel β μ c x
  | .agg cs, x => ∃ l, x = .agg l ∧ All2 (CRel β μ) cs l.toList
  | .tup _, _ => False

def VRel (β : Pls) (μ : Fms) : V → Value → Prop
  | .one c, x => CRel β μ c x
  | .agg cs, x => ∃ l, x = .agg l ∧ All2 (CRel β μ) cs l.toList
  | .tup vs, x => ∃ l, x = .tuple l ∧ All2 (VRel1 β μ) vs l.toList

theorem VRel1.up {β : Pls} {μ : Fms} {v : V} {x : Value} (h : VRel1 β μ v x) : VRel β μ v x := by
  cases v with
  | one c => exact h
  | agg cs => exact h
  | tup vs => exact h.elim

def ERel (β : Pls) (p : Value × V × Nat) (e : MapEntry) : Prop := e.key = p.1 ∧ VRel β noF p.2.1 e.val ∧ e.born = p.2.2

/-- The cells xs lie in a row from place o on. -/
def winAt (arr : Array Value) (o : Nat) (xs : List Value) : Prop := ∀ j x, xs[j]? = some x → arr[o + j]? = some x

def BRel (β : Pls) (p : Pl) (blk : Blk) (w : World) : Prop :=
  match blk with
  | .row rw sz cs => p.sz = sz ∧ p.n = cs.length ∧ ∃ arr el fr xs, w.heap[p.rb]? = some (.cells arr el fr) ∧ winAt arr p.ro xs ∧ All2 (CRel β noF) cs xs ∧ p.ext = arr.size ∧ p.ro + cs.length ≤ arr.size ∧ (rw = true → fr = (0, 0))
  | .map es clock => p.ro = 0 ∧ ∃ arr, w.heap[p.rb]? = some (.map arr clock) ∧ All2 (ERel β) es arr.toList

structure HRel (N : Nat) (β : Pls) (h : Heap) (w : World) : Prop where
  fresh : ∀ b, N ≤ b → β b = none
  blk : ∀ b x, h.get b = some x → ∃ p, β b = some p ∧ BRel β p x w
  apart : ∀ b b' x x' p p', b ≠ b' → h.get b = some x → h.get b' = some x' → β b = some p → β b' = some p' → x.rw = true → p.rb ≠ p'.rb

/-- A variable of the frame. -/
def XRel (β : Pls) (r : Nat) (cs : List C) (w : World) : Prop :=
  ∃ arr el, w.heap[r]? = some (.cells arr el (0, 0)) ∧ All2 (CRel β noF) cs arr.toList

structure SRel (N : Nat) (β : Pls) (μ : Fms) (nt : Nat) (σ : St) (a : Act) (w : World) : Prop where
  heap : HRel N β σ.h w
  size : a.tmps.size = nt
  defers : a.defers = []
  env : ∀ t v, get σ.env t = some v → ∃ x, a.tmps[t]? = some x ∧ VRel β μ v x
  box : ∀ t cs, get σ.bx t = some cs → ∃ r, μ t = some r ∧ XRel β r cs w
  bxap : ∀ t t' cs cs' r, t ≠ t' → get σ.bx t = some cs → get σ.bx t' = some cs' → μ t = some r → μ t' ≠ some r
  hap : ∀ t cs b x p, get σ.bx t = some cs → σ.h.get b = some x → β b = some p → μ t ≠ some p.rb

/-- The model's blocks that the state may write. -/
def mine (β : Pls) (μ : Fms) (σ : St) (r : Nat) : Prop :=
  (∃ b x p, σ.h.get b = some x ∧ x.rw = true ∧ β b = some p ∧ p.rb = r) ∨ (∃ t cs, get σ.bx t = some cs ∧ μ t = some r)

structure Step (β : Pls) (μ : Fms) (σ : St) (w : World) (β' : Pls) (μ' : Fms) (σ' : St) (w' : World) : Prop where
  ext : ∀ b p, β b = some p → β' b = some p
  os : w'.os = w.os
  tape : w'.tape = w.tape
  output : w'.output = w.output
  size : w.heap.size ≤ w'.heap.size
  fr : ∀ r, r < w.heap.size → ¬ mine β μ σ r → w'.heap[r]? = w.heap[r]?
  own : ∀ r, mine β' μ' σ' r → mine β μ σ r ∨ w.heap.size ≤ r
  blks : ∀ b x p, σ'.h.get b = some x → β' b = some p → (∃ b0 x0 p0, σ.h.get b0 = some x0 ∧ β b0 = some p0 ∧ p0.rb = p.rb) ∨ w.heap.size ≤ p.rb

theorem Step.refl (β : Pls) (μ : Fms) (σ : St) (w : World) : Step β μ σ w β μ σ w := ⟨fun _ _ h => h, rfl, rfl, rfl, Nat.le_refl _, fun _ _ _ => rfl, fun _ h => .inl h, fun b x p h1 h2 => .inl ⟨b, x, p, h1, h2, rfl⟩⟩

theorem Step.trans {β β1 β2 : Pls} {μ μ1 μ2 : Fms} {σ σ1 σ2 : St} {w w1 w2 : World} (h : Step β μ σ w β1 μ1 σ1 w1) (k : Step β1 μ1 σ1 w1 β2 μ2 σ2 w2) : Step β μ σ w β2 μ2 σ2 w2 where
  ext := fun b p e => k.ext b p (h.ext b p e)
  os := k.os.trans h.os
  tape := k.tape.trans h.tape
  output := k.output.trans h.output
  size := Nat.le_trans h.size k.size
  fr := fun r hr hn => by
    rw [k.fr r (Nat.lt_of_lt_of_le hr h.size) (fun hm => (h.own r hm).elim hn (fun hge => absurd hr (Nat.not_lt.2 hge)))]
    exact h.fr r hr hn
  own := fun r hm => (k.own r hm).elim (h.own r) (fun hge => .inr (Nat.le_trans h.size hge))
  blks := fun b x p h1 h2 => (k.blks b x p h1 h2).elim (fun ⟨b1, x1, p1, g1, g2, g3⟩ => g3 ▸ h.blks b1 x1 p1 g1 g2) (fun hge => .inr (Nat.le_trans h.size hge))

/-! ### What grows -/
theorem PtrRel.up {β β' : Pls} (hx : ∀ b p, β b = some p → β' b = some p) {c : Nat × Nat} {x : Value} (h : PtrRel β c x) : PtrRel β' c x :=
  let ⟨p, h1, h2⟩ := h; ⟨p, hx _ _ h1, h2⟩

theorem CRel.up {β β' : Pls} {μ μ' : Fms} (hx : ∀ b p, β b = some p → β' b = some p) {c : C} {x : Value} (hm : ∀ t r, mentionsC t c = true → μ t = some r → μ' t = some r) (h : CRel β μ c x) : CRel β' μ' c x := by
  cases c with
  | lit v => exact h
  | ptr b o => obtain ⟨p, h1, h2⟩ := h; exact ⟨p, hx _ _ h1, h2⟩
  | lp t o => obtain ⟨r, h1, h2⟩ := h; exact ⟨r, hm t r (by simp [mentionsC]) h1, h2⟩
  | sl b o len cap => obtain ⟨p, k, rc, h1, h2⟩ := h; exact ⟨p, k, rc, hx _ _ h1, h2⟩
  | mp b => obtain ⟨p, h1, h2⟩ := h; exact ⟨p, hx _ _ h1, h2⟩
  | fn f caps => obtain ⟨l, h1, h2⟩ := h; exact ⟨l, h1, h2.mono fun _ _ _ => PtrRel.up hx⟩

theorem VRel1.ups {β β' : Pls} {μ μ' : Fms} (hx : ∀ b p, β b = some p → β' b = some p) {v : V} {x : Value} (hm : ∀ t r, mentionsV t v = true → μ t = some r → μ' t = some r) (h : VRel1 β μ v x) : VRel1 β' μ' v x := by
  cases v with
  | one c => exact CRel.up hx hm h
  | agg cs =>
    obtain ⟨l, h1, h2⟩ := h
    exact ⟨l, h1, h2.mono fun c hc _ => CRel.up hx fun t r ht => hm t r (by simp only [mentionsV, List.any_eq_true]; exact ⟨c, hc, ht⟩)⟩
  | tup vs => exact h.elim

theorem VRel.ups {β β' : Pls} {μ μ' : Fms} (hx : ∀ b p, β b = some p → β' b = some p) {v : V} {x : Value} (hm : ∀ t r, mentionsV t v = true → μ t = some r → μ' t = some r) (h : VRel β μ v x) : VRel β' μ' v x := by
  cases v with
  | one c => exact CRel.up hx hm h
  | agg cs =>
    obtain ⟨l, h1, h2⟩ := h
    exact ⟨l, h1, h2.mono fun c hc _ => CRel.up hx fun t r ht => hm t r (by simp only [mentionsV, List.any_eq_true]; exact ⟨c, hc, ht⟩)⟩
  | tup vs =>
    obtain ⟨l, h1, h2⟩ := h
    refine ⟨l, h1, h2.mono fun u hu y hy => VRel1.ups hx (fun t r ht => hm t r ?_) hy⟩
    simp only [mentionsV, List.any_eq_true]
    refine ⟨u, hu, ?_⟩
    cases u with
    | one c => exact ht
    | agg cs => exact ht
    | tup _ => rfl

theorem VRel.up {β β' : Pls} {μ : Fms} (hx : ∀ b p, β b = some p → β' b = some p) {v : V} {x : Value} (h : VRel β μ v x) : VRel β' μ v x := VRel.ups hx (fun _ _ _ h => h) h

/-- A cell that may be kept has no pointer into the frame. -/
theorem CRel.noF {β : Pls} {μ μ' : Fms} {c : C} {x : Value} (ho : c.ok = true) (h : CRel β μ c x) : CRel β μ' c x :=
  CRel.up (fun _ _ h => h) (fun t r ht => by cases c <;> simp_all [mentionsC, C.ok]) h

theorem CRel.oneCell {β : Pls} {μ : Fms} {c : C} {x : Value} (ho : c.ok = true) (h : CRel β μ c x) : x.oneCell' = true := by
  cases c with
  | lit v =>
    have hv : x = v := h
    subst hv
    cases x <;> simp_all [C.ok, Value.oneCell']
  | ptr b o => obtain ⟨p, h1, rfl⟩ := h; rfl
  | lp t o => obtain ⟨p, h1, rfl⟩ := h; rfl
  | sl b o len cap => obtain ⟨p, k, rc, h1, rfl, _⟩ := h; rfl
  | mp b => obtain ⟨p, h1, rfl⟩ := h; rfl
  | fn f caps => obtain ⟨l, rfl, h2⟩ := h; rfl

theorem all2_noF {β : Pls} {μ μ' : Fms} {cs : List C} {xs : List Value} (ho : cs.all C.ok = true) (h : All2 (CRel β μ) cs xs) : All2 (CRel β μ') cs xs :=
  h.mono fun c hc _ hr => CRel.noF (List.all_eq_true.1 ho c hc) hr

theorem all2_oneCell {β : Pls} {μ : Fms} : ∀ {cs : List C} {xs : List Value}, cs.all C.ok = true → All2 (CRel β μ) cs xs → ∀ x ∈ xs, x.oneCell' = true
  | [], [], _, _ => by simp
  | c :: cs, x :: xs, ho, h => by
    simp only [List.all_cons, Bool.and_eq_true] at ho
    intro y hy
    cases hy with
    | head => exact CRel.oneCell ho.1 h.1
    | tail _ hy => exact all2_oneCell ho.2 h.2 y hy
  | [], _ :: _, _, h => h.elim
  | _ :: _, [], _, h => h.elim

theorem ERel.up {β β' : Pls} (hx : ∀ b p, β b = some p → β' b = some p) {q : Value × V × Nat} {e : MapEntry} (h : ERel β q e) : ERel β' q e := ⟨h.1, VRel.up hx h.2.1, h.2.2⟩

theorem BRel.up {β β' : Pls} (hx : ∀ b p, β b = some p → β' b = some p) {p : Pl} {blk : Blk} {w w' : World} (hw : w'.heap[p.rb]? = w.heap[p.rb]?) (h : BRel β p blk w) : BRel β' p blk w' := by
  cases blk with
  | row rw sz cs =>
    obtain ⟨h1, h2, arr, el, fr, xs, h3, h4, h5, h6⟩ := h
    exact ⟨h1, h2, arr, el, fr, xs, by rw [hw]; exact h3, h4, h5.mono fun _ _ _ => CRel.up hx fun _ _ _ h => h, h6⟩
  | map es clock =>
    obtain ⟨h1, arr, h3, h4⟩ := h
    exact ⟨h1, arr, by rw [hw]; exact h3, h4.mono fun _ _ _ => ERel.up hx⟩

theorem XRel.up {β β' : Pls} (hx : ∀ b p, β b = some p → β' b = some p) {r : Nat} {cs : List C} {w w' : World} (hw : w'.heap[r]? = w.heap[r]?) (h : XRel β r cs w) : XRel β' r cs w' := by
  obtain ⟨arr, el, h1, h2⟩ := h
  exact ⟨arr, el, by rw [hw]; exact h1, h2.mono fun _ _ _ => CRel.up hx fun _ _ _ h => h⟩

/-! ### What is read -/
section reads
variable {P : Program} {N : Nat} {β : Pls} {μ : Fms} {nt : Nat} {σ : St} {a : Act} {w : World}

theorem vrel_ofVal (β : Pls) (μ : Fms) (v : Value) : VRel β μ (V.ofVal v) v := by
  have hagg : ∀ l : List Value, All2 (CRel β μ) (l.map .lit) l := fun l => by
    induction l with
    | nil => trivial
    | cons x l ih => exact ⟨rfl, ih⟩
  cases v with
  | agg cs => exact ⟨cs, rfl, hagg _⟩
  | _ => exact rfl

theorem eval_tmp {t : Tmp} {x : Value} (h : a.tmps[t]? = some x) : a.eval (.tmp t) = x := by
  simp [Act.eval, h]

theorem ev_ok (hS : SRel N β μ nt σ a w) {x : Operand} {v : V} (h : ev σ x = some v) : VRel β μ v (a.eval x) := by
  cases x with
  | tmp t =>
    obtain ⟨y, h1, h2⟩ := hS.env t v h
    rw [eval_tmp h1]; exact h2
  | const c =>
    simp only [ev, Option.some.injEq] at h
    subst h
    exact vrel_ofVal β μ c
  | global g => simp [ev] at h
  | func f =>
    simp only [ev, Option.some.injEq] at h
    subst h
    exact ⟨#[], rfl, trivial⟩

theorem evs_ok (hS : SRel N β μ nt σ a w) : ∀ {l : List Operand} {vs : List V}, evs σ l = some vs → All2 (VRel β μ) vs (l.map a.eval)
  | [], vs, h => by simp only [evs, Option.some.injEq] at h; subst h; trivial
  | x :: l, vs, h => by
    simp only [evs] at h
    split at h
    · rename_i v us h1 h2
      simp only [Option.some.injEq] at h
      subst h
      exact ⟨ev_ok hS h1, evs_ok hS h2⟩
    · cases h

theorem evParts_ok (hS : SRel N β μ nt σ a w) : ∀ {l : List (Nat × Operand)} {vs : List (Nat × V)}, evParts σ l = some vs → All2 (fun (p : Nat × V) (q : Nat × Value) => p.1 = q.1 ∧ VRel β μ p.2 q.2) vs (l.map fun p => (p.1, a.eval p.2))
  | [], vs, h => by simp only [evParts, Option.some.injEq] at h; subst h; trivial
  | (i, x) :: l, vs, h => by
    simp only [evParts] at h
    split at h
    · rename_i v us h1 h2
      simp only [Option.some.injEq] at h
      subst h
      exact ⟨⟨rfl, ev_ok hS h1⟩, evParts_ok hS h2⟩
    · cases h

theorem vals_ok {cs : List C} : ∀ {l : List Value} {xs : List Value}, vals? cs = some l → All2 (CRel β μ) cs xs → xs = l := by
  induction cs with
  | nil =>
    intro l xs h h2
    cases xs with
    | nil => simp only [vals?, Option.some.injEq] at h; exact h
    | cons => exact h2.elim
  | cons c cs ih =>
    intro l xs h h2
    simp only [vals?] at h
    split at h
    · rename_i v vs hc hv
      simp only [Option.some.injEq] at h
      subst h
      cases xs with
      | nil => exact h2.elim
      | cons x xs =>
        cases c <;> simp only [C.val?, Option.some.injEq, reduceCtorEq] at hc
        subst hc
        rw [ih hv h2.2, h2.1]
    · cases h

theorem val_ok {v : V} {u x : Value} (h : v.val? = some u) (hr : VRel β μ v x) : x = u := by
  cases v with
  | one c =>
    cases c <;> simp only [V.val?, C.val?, Option.some.injEq, reduceCtorEq] at h
    subst h
    exact hr
  | agg cs =>
    obtain ⟨l, rfl, h2⟩ := hr
    simp only [V.val?, Option.map_eq_some_iff] at h
    obtain ⟨l', h3, rfl⟩ := h
    rw [← vals_ok h3 h2]
  | tup vs => simp [V.val?] at h

theorem pureRun_ok {α : Type} (s : Sem α) : ∀ {x : α}, pureRun P s = some x → ∀ w, s.run P w = .ok x w := by
  induction s with
  | pure y => intro x h w; simp only [pureRun, Option.some.injEq] at h; subst h; rfl
  | program k ih => intro x h w; exact ih P h w
  | mark m k ih => intro x h w; exact ih h w
  | _ => intro x h; simp [pureRun] at h

theorem pureOp_ok (hS : SRel N β μ nt σ a w) {o : Oper} {v : V} (h : pureOp P o σ = some v) (hs : ∀ cs b, o.op ≠ .select cs b) :
    ∃ x, (execOp a.eval o).run P w = .ok (.value x) w ∧ VRel β μ v x := by
  simp only [pureOp] at h
  split at h
  · rename_i hall
    split at h
    · rename_i x hx
      simp only [Option.some.injEq] at h
      subst h
      refine ⟨x, ?_, vrel_ofVal β μ x⟩
      rw [execOp_congr (ρ := a.eval) (ρ' := ρ σ) o hs fun y hy => ?_]
      · exact pureRun_ok _ hx w
      · have h1 := List.all_eq_true.1 hall y (by simpa using hy)
        unfold litAt at h1
        split at h1
        · rename_i u hu
          obtain ⟨z, hz⟩ := Option.isSome_iff_exists.1 h1
          simp only [ρ, hu, hz, Option.getD_some]
          exact val_ok hz (ev_ok hS hu)
        · cases h1
    · cases h
  · cases h
end reads
end E
end Go.Proofs.Ytnfehccnofhmnaa

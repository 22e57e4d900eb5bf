/-
  An abstract machine of this place's own: how its states stand to the model's; the lemmas on lists, cells and blocks. No condition.
-/
import Derived.Test.YtfibbhmmiemcoaaML1
import Derived.WalkSpells
import Derived.WalkLawsBesides
import Derived.Deep.MidRow
import Derived.Lib.Hide
set_option linter.all false
namespace Go.Proofs.Ytfibbhmmiemcoaa
open Go.RowKit
namespace E

/-! ### Lists, two at a time -/
def All2 {α β : Type} (R : α → β → Prop) : List α → List β → Prop
  | [], [] => True
  | x :: xs, y :: ys => R x y ∧ All2 R xs ys
  | _, _ => False

section all2
variable {α β : Type} {R S : α → β → Prop}
theorem All2.length : ∀ {xs : List α} {ys : List β}, All2 R xs ys → xs.length = ys.length
  | [], [], _ => rfl
  | _ :: _, _ :: _, h => congrArg (· + 1) (All2.length h.2)
  | [], _ :: _, h => h.elim
  | _ :: _, [], h => h.elim
theorem All2.get : ∀ {xs : List α} {ys : List β}, All2 R xs ys → ∀ {i : Nat} {x : α}, xs[i]? = some x → ∃ y, ys[i]? = some y ∧ R x y
  | [], [], _, _, _, h => by simp at h
  | x :: _, y :: _, h, 0, _, e => ⟨y, rfl, by simp at e; subst e; exact h.1⟩
  | _ :: xs, _ :: ys, h, i + 1, _, e => by
    obtain ⟨y, h1, h2⟩ := All2.get h.2 (i := i) (by simpa using e)
    exact ⟨y, by simpa using h1, h2⟩
  | [], _ :: _, h, _, _, _ => h.elim
  | _ :: _, [], h, _, _, _ => h.elim
theorem All2.mono : ∀ {xs : List α} {ys : List β}, All2 R xs ys → (∀ x, x ∈ xs → ∀ y, R x y → S x y) → All2 S xs ys
  | [], [], _, _ => trivial
  | x :: xs, y :: ys, h, k => ⟨k x (by simp) y h.1, All2.mono h.2 fun a ha b => k a (by simp [ha]) b⟩
  | [], _ :: _, h, _ => h.elim
  | _ :: _, [], h, _ => h.elim
theorem All2.append : ∀ {xs xs' : List α} {ys ys' : List β}, All2 R xs ys → All2 R xs' ys' → All2 R (xs ++ xs') (ys ++ ys')
  | [], _, [], _, _, h => h
  | _ :: _, _, _ :: _, _, h, h' => ⟨h.1, All2.append h.2 h'⟩
  | [], _, _ :: _, _, h, _ => h.elim
  | _ :: _, _, [], _, h, _ => h.elim
theorem All2.take : ∀ (n : Nat) {xs : List α} {ys : List β}, All2 R xs ys → All2 R (xs.take n) (ys.take n)
  | 0, _, _, _ => by simp [All2]
  | _ + 1, [], [], _ => by simp [All2]
  | n + 1, _ :: _, _ :: _, h => ⟨h.1, All2.take n h.2⟩
  | _, [], _ :: _, h => h.elim
  | _, _ :: _, [], h => h.elim
theorem All2.drop : ∀ (n : Nat) {xs : List α} {ys : List β}, All2 R xs ys → All2 R (xs.drop n) (ys.drop n)
  | 0, _, _, h => h
  | _ + 1, [], [], _ => by simp [All2]
  | n + 1, _ :: _, _ :: _, h => All2.drop n h.2
  | _, [], _ :: _, h => h.elim
  | _, _ :: _, [], h => h.elim
theorem All2.map_left {γ : Type} {f : γ → α} : ∀ {xs : List γ} {ys : List β}, All2 (fun c y => R (f c) y) xs ys → All2 R (xs.map f) ys
  | [], [], _ => trivial
  | _ :: _, _ :: _, h => ⟨h.1, All2.map_left h.2⟩
  | [], _ :: _, h => h.elim
  | _ :: _, [], h => h.elim
theorem All2.map_right {γ : Type} {f : γ → β} : ∀ {xs : List α} {ys : List γ}, All2 (fun x c => R x (f c)) xs ys → All2 R xs (ys.map f)
  | [], [], _ => trivial
  | _ :: _, _ :: _, h => ⟨h.1, All2.map_right h.2⟩
  | [], _ :: _, h => h.elim
  | _ :: _, [], h => h.elim
theorem All2.one {x : α} {ys : List β} (h : All2 R [x] ys) : ∃ y, ys = [y] ∧ R x y := by
  match ys, h with
  | [y], h => exact ⟨y, rfl, h.1⟩
end all2

theorem nbeq_ne {k t : Nat} (h : k ≠ t) : Nat.beq k t = false := by
  cases hb : Nat.beq k t with
  | false => rfl
  | true => exact absurd (Nat.eq_of_beq_eq_true hb) h

theorem get_cons {α : Type} (k : Nat) (x : α) (l : List (Nat × α)) (t : Nat) : get ((k, x) :: l) t = if k = t then some x else get l t := by
  by_cases h : k = t
  · subst h; simp [get]
  · simp [get, nbeq_ne h, h]

theorem get_setL {α : Type} (b : Nat) (x : α) : ∀ (l : List (Nat × α)) (t : Nat), get (setL b x l) t = if b = t then some x else get l t
  | [], t => by rw [setL, get_cons]
  | (k, y) :: l, t => by
    have ih := get_setL b x l t
    by_cases hk : k = b
    · subst hk
      simp only [setL, Nat.beq_refl, cond_true, get_cons]
      split <;> rfl
    · simp only [setL, nbeq_ne hk, cond_false, get_cons, ih]
      by_cases hb : k = t
      · subst hb
        rw [if_pos rfl, if_neg (fun h : b = k => hk h.symm), if_pos rfl]
      · simp [hb]

theorem get_delL {α : Type} (b : Nat) : ∀ (l : List (Nat × α)) (t : Nat), get (delL b l) t = if b = t then none else get l t
  | [], t => by simp [delL, get]
  | (k, y) :: l, t => by
    have ih := get_delL b l t
    by_cases hk : k = b
    · subst hk
      simp only [delL, Nat.beq_refl, cond_true, ih, get_cons]
      split <;> rfl
    · simp only [delL, nbeq_ne hk, cond_false, get_cons, ih]
      by_cases hb : k = t
      · subst hb
        rw [if_pos rfl, if_neg (fun h : b = k => hk h.symm), if_pos rfl]
      · simp [hb]

theorem Heap.get_set (h : Heap) (b : Nat) (x : Blk) (t : Nat) : (h.set b x).get t = if b = t then some x else h.get t := get_setL b x h.bs t
theorem Heap.get_del (h : Heap) (b t : Nat) : (h.del b).get t = if b = t then none else h.get t := get_delL b h.bs t

/-! ### What stands for what -/
/-- Where a block lies: the model's block, the place of its first cell, how many cells that block has, how many of them are the row's, the cells of an element. -/
structure Pl where
  rb : Nat
  ro : Nat
  ext : Nat
  n : Nat
  sz : Nat

abbrev Pls := Nat → Option Pl
abbrev Fms := Nat → Option Nat
def noF : Fms := fun _ => none

def PtrRel (β : Pls) (c : Nat × Nat) (x : Value) : Prop := ∃ p, β c.1 = some p ∧ x = .pointer (some ⟨p.rb, p.ro + c.2, none⟩)

def CRel (β : Pls) (μ : Fms) : C → Value → Prop
  | .lit v, x => x = v
  | .ptr b o, x => ∃ p, β b = some p ∧ x = .pointer (some ⟨p.rb, p.ro + o, none⟩)
  | .lp t o, x => ∃ r, μ t = some r ∧ x = .pointer (some ⟨r, o, none⟩)
  | .sl b o len cap, x => ∃ p k rc, β b = some p ∧ x = .slice (some ⟨p.rb, k, none⟩) len rc ∧ len ≤ cap ∧ cap ≤ rc ∧ (rc ≠ 0 → k = p.ro + o) ∧ (rc = cap ∨ (0 < p.sz ∧ o + cap * p.sz = p.n ∧ p.ro + o + rc * p.sz ≤ p.ext))
  | .mp b, x => ∃ p, β b = some p ∧ x = .map (some p.rb)
  | .fn f caps, x => ∃ l, x = .func (.func f) #[] l ∧ All2 (PtrRel β) caps l.toList

def VRel1 (β : Pls) (μ : Fms) : V → Value → Prop
  | .one c, x => CRel β μ c x
  | .agg cs, x => ∃ l, x = .agg l ∧ All2 (CRel β μ) cs l.toList
  | .tup _, _ => False

def VRel (β : Pls) (μ : Fms) : V → Value → Prop
  | .one c, x => CRel β μ c x
  | .agg cs, x => ∃ l, x = .agg l ∧ All2 (CRel β μ) cs l.toList
  | .tup vs, x => ∃ l, x = .tuple l ∧ All2 (VRel1 β μ) vs l.toList

theorem VRel1.up {β : Pls} {μ : Fms} {v : V} {x : Value} (h : VRel1 β μ v x) : VRel β μ v x := by
  cases v with
  | one c => exact h
  | agg cs => exact h
  | tup vs => exact h.elim

def ERel (β : Pls) (p : Value × V × Nat) (e : MapEntry) : Prop := e.key = p.1 ∧ VRel β noF p.2.1 e.val ∧ e.born = p.2.2

/-- The cells xs lie in a row from place o on. -/
def winAt (arr : Array Value) (o : Nat) (xs : List Value) : Prop := ∀ j x, xs[j]? = some x → arr[o + j]? = some x

def BRel (β : Pls) (p : Pl) (blk : Blk) (w : World) : Prop :=
  match blk with
  | .row rw sz cs => p.sz = sz ∧ p.n = cs.length ∧ ∃ arr el fr xs, w.heap[p.rb]? = some (.cells arr el fr) ∧ winAt arr p.ro xs ∧ All2 (CRel β noF) cs xs ∧ p.ext = arr.size ∧ p.ro + cs.length ≤ arr.size ∧ (rw = true → fr = (0, 0))
  | .map es clock => p.ro = 0 ∧ ∃ arr, w.heap[p.rb]? = some (.map arr clock) ∧ All2 (ERel β) es arr.toList

structure HRel (N : Nat) (β : Pls) (h : Heap) (w : World) : Prop where
  fresh : ∀ b, N ≤ b → β b = none
  blk : ∀ b x, h.get b = some x → ∃ p, β b = some p ∧ BRel β p x w
  apart : ∀ b b' x x' p p', b ≠ b' → h.get b = some x → h.get b' = some x' → β b = some p → β b' = some p' → x.rw = true → p.rb ≠ p'.rb

/-- A variable of the frame. -/
def XRel (β : Pls) (r : Nat) (cs : List C) (w : World) : Prop :=
  ∃ arr el, w.heap[r]? = some (.cells arr el (0, 0)) ∧ All2 (CRel β noF) cs arr.toList

structure SRel (N : Nat) (β : Pls) (μ : Fms) (nt : Nat) (σ : St) (a : Act) (w : World) : Prop where
  heap : HRel N β σ.h w
  size : a.tmps.size = nt
  defers : a.defers = []
  env : ∀ t v, get σ.env t = some v → ∃ x, a.tmps[t]? = some x ∧ VRel β μ v x
  box : ∀ t cs, get σ.bx t = some cs → ∃ r, μ t = some r ∧ XRel β r cs w
  bxap : ∀ t t' cs cs' r, t ≠ t' → get σ.bx t = some cs → get σ.bx t' = some cs' → μ t = some r → μ t' ≠ some r
  hap : ∀ t cs b x p, get σ.bx t = some cs → σ.h.get b = some x → β b = some p → μ t ≠ some p.rb

/-- The model's blocks that the state may write. -/
def mine (β : Pls) (μ : Fms) (σ : St) (r : Nat) : Prop :=
  (∃ b x p, σ.h.get b = some x ∧ x.rw = true ∧ β b = some p ∧ p.rb = r) ∨ (∃ t cs, get σ.bx t = some cs ∧ μ t = some r)

structure Step (β : Pls) (μ : Fms) (σ : St) (w : World) (β' : Pls) (μ' : Fms) (σ' : St) (w' : World) : Prop where
  ext : ∀ b p, β b = some p → β' b = some p
  os : w'.os = w.os
  tape : w'.tape = w.tape
  output : w'.output = w.output
  size : w.heap.size ≤ w'.heap.size
  fr : ∀ r, r < w.heap.size → ¬ mine β μ σ r → w'.heap[r]? = w.heap[r]?
  own : ∀ r, mine β' μ' σ' r → mine β μ σ r ∨ w.heap.size ≤ r
  blks : ∀ b x p, σ'.h.get b = some x → β' b = some p → (∃ b0 x0 p0, σ.h.get b0 = some x0 ∧ β b0 = some p0 ∧ p0.rb = p.rb) ∨ w.heap.size ≤ p.rb

theorem Step.refl (β : Pls) (μ : Fms) (σ : St) (w : World) : Step β μ σ w β μ σ w := ⟨fun _ _ h => h, rfl, rfl, rfl, Nat.le_refl _, fun _ _ _ => rfl, fun _ h => .inl h, fun b x p h1 h2 => .inl ⟨b, x, p, h1, h2, rfl⟩⟩

theorem Step.trans {β β1 β2 : Pls} {μ μ1 μ2 : Fms} {σ σ1 σ2 : St} {w w1 w2 : World} (h : Step β μ σ w β1 μ1 σ1 w1) (k : Step β1 μ1 σ1 w1 β2 μ2 σ2 w2) : Step β μ σ w β2 μ2 σ2 w2 where
  ext := fun b p e => k.ext b p (h.ext b p e)
  os := k.os.trans h.os
  tape := k.tape.trans h.tape
  output := k.output.trans h.output
  size := Nat.le_trans h.size k.size
  fr := fun r hr hn => by
    rw [k.fr r (Nat.lt_of_lt_of_le hr h.size) (fun hm => (h.own r hm).elim hn (fun hge => absurd hr (Nat.not_lt.2 hge)))]
    exact h.fr r hr hn
  own := fun r hm => (k.own r hm).elim (h.own r) (fun hge => .inr (Nat.le_trans h.size hge))
  blks := fun b x p h1 h2 => (k.blks b x p h1 h2).elim (fun ⟨b1, x1, p1, g1, g2, g3⟩ => g3 ▸ h.blks b1 x1 p1 g1 g2) (fun hge => .inr (Nat.le_trans h.size hge))

/-! ### What grows -/
theorem PtrRel.up {β β' : Pls} (hx : ∀ b p, β b = some p → β' b = some p) {c : Nat × Nat} {x : Value} (h : PtrRel β c x) : PtrRel β' c x :=
  let ⟨p, h1, h2⟩ := h; ⟨p, hx _ _ h1, h2⟩

theorem CRel.up {β β' : Pls} {μ μ' : Fms} (hx : ∀ b p, β b = some p → β' b = some p) {c : C} {x : Value} (hm : ∀ t r, mentionsC t c = true → μ t = some r → μ' t = some r) (h : CRel β μ c x) : CRel β' μ' c x := by
  cases c with
  | lit v => exact h
  | ptr b o => obtain ⟨p, h1, h2⟩ := h; exact ⟨p, hx _ _ h1, h2⟩
  | lp t o => obtain ⟨r, h1, h2⟩ := h; exact ⟨r, hm t r (by simp [mentionsC]) h1, h2⟩
  | sl b o len cap => obtain ⟨p, k, rc, h1, h2⟩ := h; exact ⟨p, k, rc, hx _ _ h1, h2⟩
  | mp b => obtain ⟨p, h1, h2⟩ := h; exact ⟨p, hx _ _ h1, h2⟩
  | fn f caps => obtain ⟨l, h1, h2⟩ := h; exact ⟨l, h1, h2.mono fun _ _ _ => PtrRel.up hx⟩

theorem VRel1.ups {β β' : Pls} {μ μ' : Fms} (hx : ∀ b p, β b = some p → β' b = some p) {v : V} {x : Value} (hm : ∀ t r, mentionsV t v = true → μ t = some r → μ' t = some r) (h : VRel1 β μ v x) : VRel1 β' μ' v x := by
  cases v with
  | one c => exact CRel.up hx hm h
  | agg cs =>
    obtain ⟨l, h1, h2⟩ := h
    exact ⟨l, h1, h2.mono fun c hc _ => CRel.up hx fun t r ht => hm t r (by simp only [mentionsV, List.any_eq_true]; exact ⟨c, hc, ht⟩)⟩
  | tup vs => exact h.elim

theorem VRel.ups {β β' : Pls} {μ μ' : Fms} (hx : ∀ b p, β b = some p → β' b = some p) {v : V} {x : Value} (hm : ∀ t r, mentionsV t v = true → μ t = some r → μ' t = some r) (h : VRel β μ v x) : VRel β' μ' v x := by
  cases v with
  | one c => exact CRel.up hx hm h
  | agg cs =>
    obtain ⟨l, h1, h2⟩ := h
    exact ⟨l, h1, h2.mono fun c hc _ => CRel.up hx fun t r ht => hm t r (by simp only [mentionsV, List.any_eq_true]; exact ⟨c, hc, ht⟩)⟩
  | tup vs =>
    obtain ⟨l, h1, h2⟩ := h
    refine ⟨l, h1, h2.mono fun u hu y hy => VRel1.ups hx (fun t r ht => hm t r ?_) hy⟩
    simp only [mentionsV, List.any_eq_true]
    refine ⟨u, hu, ?_⟩
    cases u with
    | one c => exact ht
    | agg cs => exact ht
    | tup _ => rfl

theorem VRel.up {β β' : Pls} {μ : Fms} (hx : ∀ b p, β b = some p → β' b = some p) {v : V} {x : Value} (h : VRel β μ v x) : VRel β' μ v x := VRel.ups hx (fun _ _ _ h => h) h

/-- A cell that may be kept has no pointer into the frame. -/
theorem CRel.noF {β : Pls} {μ μ' : Fms} {c : C} {x : Value} (ho : c.ok = true) (h : CRel β μ c x) : CRel β μ' c x :=
  CRel.up (fun _ _ h => h) (fun t r ht => by cases c <;> simp_all [mentionsC, C.ok]) h

theorem CRel.oneCell {β : Pls} {μ : Fms} {c : C} {x : Value} (ho : c.ok = true) (h : CRel β μ c x) : x.oneCell' = true := by
  cases c with
  | lit v =>
    have hv : x = v := h
    subst hv
    cases x <;> simp_all [C.ok, Value.oneCell']
  | ptr b o => obtain ⟨p, h1, rfl⟩ := h; rfl
  | lp t o => obtain ⟨p, h1, rfl⟩ := h; rfl
  | sl b o len cap => obtain ⟨p, k, rc, h1, rfl, _⟩ := h; rfl
  | mp b => obtain ⟨p, h1, rfl⟩ := h; rfl
  | fn f caps => obtain ⟨l, rfl, h2⟩ := h; rfl

theorem all2_noF {β : Pls} {μ μ' : Fms} {cs : List C} {xs : List Value} (ho : cs.all C.ok = true) (h : All2 (CRel β μ) cs xs) : All2 (CRel β μ') cs xs :=
  h.mono fun c hc _ hr => CRel.noF (List.all_eq_true.1 ho c hc) hr

theorem all2_oneCell {β : Pls} {μ : Fms} : ∀ {cs : List C} {xs : List Value}, cs.all C.ok = true → All2 (CRel β μ) cs xs → ∀ x ∈ xs, x.oneCell' = true
  | [], [], _, _ => by simp
  | c :: cs, x :: xs, ho, h => by
    simp only [List.all_cons, Bool.and_eq_true] at ho
    intro y hy
    cases hy with
    | head => exact CRel.oneCell ho.1 h.1
    | tail _ hy => exact all2_oneCell ho.2 h.2 y hy
  | [], _ :: _, _, h => h.elim
  | _ :: _, [], _, h => h.elim

theorem ERel.up {β β' : Pls} (hx : ∀ b p, β b = some p → β' b = some p) {q : Value × V × Nat} {e : MapEntry} (h : ERel β q e) : ERel β' q e := ⟨h.1, VRel.up hx h.2.1, h.2.2⟩

theorem BRel.up {β β' : Pls} (hx : ∀ b p, β b = some p → β' b = some p) {p : Pl} {blk : Blk} {w w' : World} (hw : w'.heap[p.rb]? = w.heap[p.rb]?) (h : BRel β p blk w) : BRel β' p blk w' := by
  cases blk with
  | row rw sz cs =>
    obtain ⟨h1, h2, arr, el, fr, xs, h3, h4, h5, h6⟩ := h
    exact ⟨h1, h2, arr, el, fr, xs, by rw [hw]; exact h3, h4, h5.mono fun _ _ _ => CRel.up hx fun _ _ _ h => h, h6⟩
  | map es clock =>
    obtain ⟨h1, arr, h3, h4⟩ := h
    exact ⟨h1, arr, by rw [hw]; exact h3, h4.mono fun _ _ _ => ERel.up hx⟩

theorem XRel.up {β β' : Pls} (hx : ∀ b p, β b = some p → β' b = some p) {r : Nat} {cs : List C} {w w' : World} (hw : w'.heap[r]? = w.heap[r]?) (h : XRel β r cs w) : XRel β' r cs w' := by
  obtain ⟨arr, el, h1, h2⟩ := h
  exact ⟨arr, el, by rw [hw]; exact h1, h2.mono fun _ _ _ => CRel.up hx fun _ _ _ h => h⟩

/-! ### What is read -/
section reads
variable {P : Program} {N : Nat} {β : Pls} {μ : Fms} {nt : Nat} {σ : St} {a : Act} {w : World}

theorem vrel_ofVal (β : Pls) (μ : Fms) (v : Value) : VRel β μ (V.ofVal v) v := by
  have hagg : ∀ l : List Value, All2 (CRel β μ) (l.map .lit) l := fun l => by
    induction l with
    | nil => trivial
    | cons x l ih => exact ⟨rfl, ih⟩
  cases v with
  | agg cs => exact ⟨cs, rfl, hagg _⟩
  | _ => exact rfl

theorem eval_tmp {t : Tmp} {x : Value} (h : a.tmps[t]? = some x) : a.eval (.tmp t) = x := by
  simp [Act.eval, h]

theorem ev_ok (hS : SRel N β μ nt σ a w) {x : Operand} {v : V} (h : ev σ x = some v) : VRel β μ v (a.eval x) := by
  cases x with
  | tmp t =>
    obtain ⟨y, h1, h2⟩ := hS.env t v h
    rw [eval_tmp h1]; exact h2
  | const c =>
    simp only [ev, Option.some.injEq] at h
    subst h
    exact vrel_ofVal β μ c
  | global g => simp [ev] at h
  | func f =>
    simp only [ev, Option.some.injEq] at h
    subst h
    exact ⟨#[], rfl, trivial⟩

theorem evs_ok (hS : SRel N β μ nt σ a w) : ∀ {l : List Operand} {vs : List V}, evs σ l = some vs → All2 (VRel β μ) vs (l.map a.eval)
  | [], vs, h => by simp only [evs, Option.some.injEq] at h; subst h; trivial
  | x :: l, vs, h => by
    simp only [evs] at h
    split at h
    · rename_i v us h1 h2
      simp only [Option.some.injEq] at h
      subst h
      exact ⟨ev_ok hS h1, evs_ok hS h2⟩
    · cases h

theorem evParts_ok (hS : SRel N β μ nt σ a w) : ∀ {l : List (Nat × Operand)} {vs : List (Nat × V)}, evParts σ l = some vs → All2 (fun (p : Nat × V) (q : Nat × Value) => p.1 = q.1 ∧ VRel β μ p.2 q.2) vs (l.map fun p => (p.1, a.eval p.2))
  | [], vs, h => by simp only [evParts, Option.some.injEq] at h; subst h; trivial
  | (i, x) :: l, vs, h => by
    simp only [evParts] at h
    split at h
    · rename_i v us h1 h2
      simp only [Option.some.injEq] at h
      subst h
      exact ⟨⟨rfl, ev_ok hS h1⟩, evParts_ok hS h2⟩
    · cases h

theorem vals_ok {cs : List C} : ∀ {l : List Value} {xs : List Value}, vals? cs = some l → All2 (CRel β μ) cs xs → xs = l := by
  induction cs with
  | nil =>
    intro l xs h h2
    cases xs with
    | nil => simp only [vals?, Option.some.injEq] at h; exact h
    | cons => exact h2.elim
  | cons c cs ih =>
    intro l xs h h2
    simp only [vals?] at h
    split at h
    · rename_i v vs hc hv
      simp only [Option.some.injEq] at h
      subst h
      cases xs with
      | nil => exact h2.elim
      | cons x xs =>
        cases c <;> simp only [C.val?, Option.some.injEq, reduceCtorEq] at hc
        subst hc
        rw [ih hv h2.2, h2.1]
    · cases h

theorem val_ok {v : V} {u x : Value} (h : v.val? = some u) (hr : VRel β μ v x) : x = u := by
  cases v with
  | one c =>
    cases c <;> simp only [V.val?, C.val?, Option.some.injEq, reduceCtorEq] at h
    subst h
    exact hr
  | agg cs =>
    obtain ⟨l, rfl, h2⟩ := hr
    simp only [V.val?, Option.map_eq_some_iff] at h
    obtain ⟨l', h3, rfl⟩ := h
    rw [← vals_ok h3 h2]
  | tup vs => simp [V.val?] at h

theorem pureRun_ok {α : Type} (s : Sem α) : ∀ {x : α}, pureRun P s = some x → ∀ w, s.run P w = .ok x w := by
  induction s with
  | pure y => intro x h w; simp only [pureRun, Option.some.injEq] at h; subst h; rfl
  | program k ih => intro x h w; exact ih P h w
  | mark m k ih => intro x h w; exact ih h w
  | _ => intro x h; simp [pureRun] at h

theorem pureOp_ok (hS : SRel N β μ nt σ a w) {o : Oper} {v : V} (h : pureOp P o σ = some v) (hs : ∀ cs b, o.op ≠ .select cs b) :
    ∃ x, (execOp a.eval o).run P w = .ok (.value x) w ∧ VRel β μ v x := by
  simp only [pureOp] at h
  split at h
  · rename_i hall
    split at h
    · rename_i x hx
      simp only [Option.some.injEq] at h
      subst h
      refine ⟨x, ?_, vrel_ofVal β μ x⟩
      rw [execOp_congr (ρ := a.eval) (ρ' := ρ σ) o hs fun y hy => ?_]
      · exact pureRun_ok _ hx w
      · have h1 := List.all_eq_true.1 hall y (by simpa using hy)
        unfold litAt at h1
        split at h1
        · rename_i u hu
          obtain ⟨z, hz⟩ := Option.isSome_iff_exists.1 h1
          simp only [ρ, hu, hz, Option.getD_some]
          exact val_ok hz (ev_ok hS hu)
        · cases h1
    · cases h
  · cases h
end reads
end E
end Go.Proofs.Ytfibbhmmiemcoaa

/-
  An abstract machine of this place's own: what becomes of a state when a block is written, made, handed on, forgotten. No condition.
-/
namespace Go.Proofs.Ytfibbhmmiemcoaa
open Go.RowKit
namespace E
section blocks
variable {N N' : Nat} {β : Pls} {μ : Fms} {nt : Nat} {σ : St} {a : Act} {w w' : World}

def upd {α : Type} (β : Nat → Option α) (b : Nat) (p : α) : Nat → Option α := fun k => if k = b then some p else β k
theorem upd_same {α : Type} (β : Nat → Option α) (b : Nat) (p : α) : upd β b p b = some p := by simp [upd]
theorem upd_other {α : Type} (β : Nat → Option α) {b k : Nat} (p : α) (h : k ≠ b) : upd β b p k = β k := by simp [upd, h]
theorem upd_ext {α : Type} {β : Nat → Option α} {b : Nat} (p : α) (h : β b = none) : ∀ k q, β k = some q → upd β b p k = some q := fun k q e => by
  rw [upd_other β p (fun hk => by subst hk; rw [h] at e; cases e)]; exact e

theorem BRel.lt {p : Pl} {x : Blk} (h : BRel β p x w) : p.rb < w.heap.size := by
  cases x with
  | row rw sz cs => obtain ⟨_, _, arr, el, fr, xs, h3, _⟩ := h; exact (Array.getElem?_eq_some_iff.1 h3).1
  | map es clock => obtain ⟨_, arr, h3, _⟩ := h; exact (Array.getElem?_eq_some_iff.1 h3).1

theorem XRel.lt {r : Nat} {cs : List C} (h : XRel β r cs w) : r < w.heap.size := by
  obtain ⟨arr, el, h3, _⟩ := h; exact (Array.getElem?_eq_some_iff.1 h3).1

/-- The state stands in a world that differs only in what nobody reads. -/
theorem SRel.world (hS : SRel N β μ nt σ a w) (h : ∀ r, r < w.heap.size → w'.heap[r]? = w.heap[r]?) : SRel N β μ nt σ a w' where
  heap := ⟨hS.heap.fresh, fun b x hx => let ⟨p, h1, h2⟩ := hS.heap.blk b x hx; ⟨p, h1, h2.up (fun _ _ h => h) (h _ h2.lt)⟩, hS.heap.apart⟩
  size := hS.size
  defers := hS.defers
  env := hS.env
  box := fun t cs ht => let ⟨r, h1, h2⟩ := hS.box t cs ht; ⟨r, h1, h2.up (fun _ _ h => h) (h _ h2.lt)⟩
  bxap := hS.bxap
  hap := hS.hap

theorem SRel.wider (hS : SRel N β μ nt σ a w) (h : N ≤ N') : SRel N' β μ nt σ a w :=
  { hS with heap := ⟨fun b hb => hS.heap.fresh b (Nat.le_trans h hb), hS.heap.blk, hS.heap.apart⟩ }

/-- A block is forgotten. -/
theorem SRel.del (hS : SRel N β μ nt σ a w) (b : Nat) : SRel N β μ nt { σ with h := σ.h.del b } a w where
  heap := by
    have g : ∀ k x, (σ.h.del b).get k = some x → σ.h.get k = some x := fun k x hx => by
      rw [Heap.get_del] at hx; split at hx
      · cases hx
      · exact hx
    exact ⟨hS.heap.fresh, fun k x hx => hS.heap.blk k x (g k x hx), fun k k' x x' p p' hk h1 h2 => hS.heap.apart k k' x x' p p' hk (g k x h1) (g k' x' h2)⟩
  size := hS.size
  defers := hS.defers
  env := hS.env
  box := hS.box
  bxap := hS.bxap
  hap := fun t cs k x p ht hx => hS.hap t cs k x p ht (by
    have hx' : (σ.h.del b).get k = some x := hx
    rw [Heap.get_del] at hx'; split at hx'
    · cases hx'
    · exact hx')

/-- A block is made, where no other one lies. -/
theorem SRel.make (hS : SRel N β μ nt σ a w) (hN : N ≤ N') {nm : Nat} (hnm : nm < N') (hβ : β nm = none) {p : Pl} {x1 : Blk}
    (hch : ∀ r, r < w.heap.size → r ≠ p.rb → w'.heap[r]? = w.heap[r]?)
    (hfree : ∀ b x q, σ.h.get b = some x → β b = some q → q.rb ≠ p.rb) (hbox : ∀ t cs, get σ.bx t = some cs → μ t ≠ some p.rb)
    (hB : BRel (upd β nm p) p x1 w') : SRel N' (upd β nm p) μ nt { σ with h := σ.h.set nm x1 } a w' where
  heap := by
    have hx := upd_ext p hβ
    refine ⟨fun b hb => ?_, fun b x hb => ?_, fun b b' x x' q q' hne h1 h2 e1 e2 hrw => ?_⟩
    · rw [upd_other β p (by omega)]; exact hS.heap.fresh b (by omega)
    · by_cases hbn : b = nm
      · subst hbn
        have hb' : (σ.h.set b x1).get b = some x := hb
        rw [Heap.get_set, if_pos rfl, Option.some.injEq] at hb'
        subst hb'
        exact ⟨p, upd_same β b p, hB⟩
      · have hb' : (σ.h.set nm x1).get b = some x := hb
        rw [Heap.get_set, if_neg (fun h => hbn h.symm)] at hb'
        obtain ⟨q, h3, h4⟩ := hS.heap.blk b x hb'
        exact ⟨q, hx b q h3, h4.up hx (hch _ h4.lt (hfree b x q hb' h3))⟩
    · have h1' : (σ.h.set nm x1).get b = some x := h1
      have h2' : (σ.h.set nm x1).get b' = some x' := h2
      rw [Heap.get_set] at h1' h2'
      by_cases hbn : nm = b
      · subst hbn
        rw [upd_same, Option.some.injEq] at e1
        subst e1
        rw [if_neg hne] at h2'
        rw [upd_other β p (Ne.symm hne)] at e2
        exact fun h => hfree b' x' q' h2' e2 h.symm
      · rw [if_neg hbn] at h1'
        rw [upd_other β p (fun h => hbn h.symm)] at e1
        by_cases hbn' : nm = b'
        · subst hbn'
          rw [upd_same, Option.some.injEq] at e2
          subst e2
          exact hfree b x q h1' e1
        · rw [if_neg hbn'] at h2'
          rw [upd_other β p (fun h => hbn' h.symm)] at e2
          exact hS.heap.apart b b' x x' q q' hne h1' h2' e1 e2 hrw
  size := hS.size
  defers := hS.defers
  env := fun t v ht => let ⟨x, h1, h2⟩ := hS.env t v ht; ⟨x, h1, h2.up (upd_ext p hβ)⟩
  box := fun t cs ht => by
    obtain ⟨r, h1, h2⟩ := hS.box t cs ht
    refine ⟨r, h1, h2.up (upd_ext p hβ) (hch _ h2.lt fun h => ?_)⟩
    subst h
    exact hbox t cs ht h1
  bxap := hS.bxap
  hap := fun t cs b x q ht hx hq => by
    have hx' : (σ.h.set nm x1).get b = some x := hx
    rw [Heap.get_set] at hx'
    by_cases hbn : nm = b
    · subst hbn
      rw [upd_same, Option.some.injEq] at hq
      subst hq
      exact hbox t cs ht
    · rw [if_neg hbn] at hx'
      rw [upd_other β p (fun h => hbn h.symm)] at hq
      exact hS.hap t cs b x q ht hx' hq

/-- A block is written. -/
theorem SRel.write (hS : SRel N β μ nt σ a w) {b : Nat} {x0 x1 : Blk} {p : Pl} (hb : σ.h.get b = some x0) (hrw : x0.rw = true) (hβ : β b = some p)
    (hch : ∀ r, r < w.heap.size → r ≠ p.rb → w'.heap[r]? = w.heap[r]?) (hB : BRel β p x1 w') : SRel N β μ nt { σ with h := σ.h.set b x1 } a w' where
  heap := by
    refine ⟨hS.heap.fresh, fun k x hk => ?_, fun k k' x x' q q' hne h1 h2 e1 e2 hr => ?_⟩
    · have hk' : (σ.h.set b x1).get k = some x := hk
      rw [Heap.get_set] at hk'
      by_cases hbk : b = k
      · subst hbk
        rw [if_pos rfl, Option.some.injEq] at hk'
        subst hk'
        exact ⟨p, hβ, hB⟩
      · rw [if_neg hbk] at hk'
        obtain ⟨q, h3, h4⟩ := hS.heap.blk k x hk'
        exact ⟨q, h3, h4.up (fun _ _ h => h) (hch _ h4.lt (Ne.symm (hS.heap.apart b k x0 x p q hbk hb hk' hβ h3 hrw)))⟩
    · have h1' : (σ.h.set b x1).get k = some x := h1
      have h2' : (σ.h.set b x1).get k' = some x' := h2
      rw [Heap.get_set] at h1' h2'
      by_cases hbk : b = k
      · subst hbk
        rw [if_neg hne] at h2'
        rw [hβ, Option.some.injEq] at e1
        subst e1
        exact hS.heap.apart b k' x0 x' p q' hne hb h2' hβ e2 hrw
      · rw [if_neg hbk] at h1'
        by_cases hbk' : b = k'
        · subst hbk'
          rw [hβ, Option.some.injEq] at e2
          subst e2
          exact Ne.symm (hS.heap.apart b k x0 x p q hbk hb h1' hβ e1 hrw)
        · rw [if_neg hbk'] at h2'
          exact hS.heap.apart k k' x x' q q' hne h1' h2' e1 e2 hr
  size := hS.size
  defers := hS.defers
  env := hS.env
  box := fun t cs ht => by
    obtain ⟨r, h1, h2⟩ := hS.box t cs ht
    refine ⟨r, h1, h2.up (fun _ _ h => h) (hch _ h2.lt fun h => ?_)⟩
    subst h
    exact hS.hap t cs b x0 p ht hb hβ h1
  bxap := hS.bxap
  hap := fun t cs k x q ht hx hq => by
    have hx' : (σ.h.set b x1).get k = some x := hx
    rw [Heap.get_set] at hx'
    by_cases hbk : b = k
    · subst hbk
      rw [hβ, Option.some.injEq] at hq
      subst hq
      exact hS.hap t cs b x0 p ht hb hβ
    · rw [if_neg hbk] at hx'
      exact hS.hap t cs k x q ht hx' hq

/-- A variable of the frame is written. -/
theorem SRel.writeBox (hS : SRel N β μ nt σ a w) {t : Nat} {cs cs' : List C} {r : Nat} (ht : get σ.bx t = some cs) (hr : μ t = some r)
    (hch : ∀ k, k < w.heap.size → k ≠ r → w'.heap[k]? = w.heap[k]?) (hX : XRel β r cs' w') : SRel N β μ nt { σ with bx := setL t cs' σ.bx } a w' where
  heap := ⟨hS.heap.fresh, fun b x hb => by
    obtain ⟨p, h1, h2⟩ := hS.heap.blk b x hb
    exact ⟨p, h1, h2.up (fun _ _ h => h) (hch _ h2.lt fun h => by
      have := hS.hap t cs b x p ht hb h1
      rw [hr, h] at this
      exact this rfl)⟩, hS.heap.apart⟩
  size := hS.size
  defers := hS.defers
  env := hS.env
  box := fun u ds hu => by
    have hu' : get (setL t cs' σ.bx) u = some ds := hu
    rw [get_setL] at hu'
    by_cases h : t = u
    · subst h
      rw [if_pos rfl, Option.some.injEq] at hu'
      subst hu'
      exact ⟨r, hr, hX⟩
    · rw [if_neg h] at hu'
      obtain ⟨k, h1, h2⟩ := hS.box u ds hu'
      exact ⟨k, h1, h2.up (fun _ _ h => h) (hch _ h2.lt fun hk => by
        subst hk
        exact hS.bxap t u cs ds _ h ht hu' hr h1)⟩
  bxap := fun u u' ds ds' k hne h1 h2 e1 => by
    have f : ∀ v es, get (setL t cs' σ.bx) v = some es → ∃ fs, get σ.bx v = some fs := fun v es hv => by
      rw [get_setL] at hv
      by_cases h : t = v
      · subst h; exact ⟨cs, ht⟩
      · rw [if_neg h] at hv; exact ⟨es, hv⟩
    obtain ⟨fs, g1⟩ := f u ds h1
    obtain ⟨fs', g2⟩ := f u' ds' h2
    exact hS.bxap u u' fs fs' k hne g1 g2 e1
  hap := fun u ds b x p hu hx hp => by
    have hu' : get (setL t cs' σ.bx) u = some ds := hu
    rw [get_setL] at hu'
    by_cases h : t = u
    · subst h; exact hS.hap t cs b x p ht hx hp
    · rw [if_neg h] at hu'; exact hS.hap u ds b x p hu' hx hp

theorem mentionsV_env {σ : St} {t : Nat} (hm : (σ.env.any fun p => mentionsV t p.2) = false) : ∀ u v, get σ.env u = some v → mentionsV t v = false := by
  intro u v hu
  have key : ∀ l : List (Nat × V), (l.any fun p => mentionsV t p.2) = false → get l u = some v → mentionsV t v = false := by
    intro l
    induction l with
    | nil => intro _ h; simp [get] at h
    | cons q l ih =>
      intro hl h
      obtain ⟨k, y⟩ := q
      simp only [List.any_cons, Bool.or_eq_false_iff] at hl
      rw [get_cons] at h
      split at h
      · simp only [Option.some.injEq] at h; subst h; exact hl.1
      · exact ih hl.2 h
  exact key σ.env hm hu

/-- A variable of the frame is made. -/
theorem SRel.makeBox (hS : SRel N β μ nt σ a w) {t : Nat} {cs : List C} {r : Nat} (ht : get σ.bx t = none) (hm : (σ.env.any fun p => mentionsV t p.2) = false)
    (hch : ∀ k, k < w.heap.size → w'.heap[k]? = w.heap[k]?) (hr : w.heap.size ≤ r) (hX : XRel β r cs w') : SRel N β (upd μ t r) nt { σ with bx := (t, cs) :: σ.bx } a w' where
  heap := ⟨hS.heap.fresh, fun b x hb => by
    obtain ⟨p, h1, h2⟩ := hS.heap.blk b x hb
    exact ⟨p, h1, h2.up (fun _ _ h => h) (hch _ h2.lt)⟩, hS.heap.apart⟩
  size := hS.size
  defers := hS.defers
  env := fun u v hu => by
    obtain ⟨x, h1, h2⟩ := hS.env u v hu
    refine ⟨x, h1, h2.ups (fun _ _ h => h) fun k q hk hq => ?_⟩
    rw [upd_other μ r fun h => ?_]
    · exact hq
    · subst h
      rw [mentionsV_env hm u v hu] at hk
      cases hk
  box := fun u ds hu => by
    have hu' : get ((t, cs) :: σ.bx) u = some ds := hu
    rw [get_cons] at hu'
    by_cases h : t = u
    · subst h
      rw [if_pos rfl, Option.some.injEq] at hu'
      subst hu'
      exact ⟨r, upd_same μ t r, hX⟩
    · rw [if_neg h] at hu'
      obtain ⟨k, h1, h2⟩ := hS.box u ds hu'
      exact ⟨k, by rw [upd_other μ r (Ne.symm h)]; exact h1, h2.up (fun _ _ h => h) (hch _ h2.lt)⟩
  bxap := fun u u' ds ds' k hne h1 h2 e1 => by
    have h1' : get ((t, cs) :: σ.bx) u = some ds := h1
    have h2' : get ((t, cs) :: σ.bx) u' = some ds' := h2
    rw [get_cons] at h1' h2'
    have old : ∀ v es, get σ.bx v = some es → ∀ q, μ v = some q → q < w.heap.size := fun v es hv q hq => by
      obtain ⟨q', g1, g2⟩ := hS.box v es hv
      rw [hq, Option.some.injEq] at g1
      subst g1
      exact g2.lt
    by_cases h : t = u
    · subst h
      rw [if_neg hne] at h2'
      rw [upd_same, Option.some.injEq] at e1
      subst e1
      rw [upd_other μ _ (Ne.symm hne)]
      intro he
      have := old u' ds' h2' _ he
      omega
    · rw [if_neg h] at h1'
      rw [upd_other μ r (Ne.symm h)] at e1
      by_cases h' : t = u'
      · subst h'
        rw [upd_same]
        intro he
        simp only [Option.some.injEq] at he
        subst he
        have := old u ds h1' _ e1
        omega
      · rw [if_neg h'] at h2'
        rw [upd_other μ r (Ne.symm h')]
        exact hS.bxap u u' ds ds' k hne h1' h2' e1
  hap := fun u ds b x p hu hx hp => by
    have hu' : get ((t, cs) :: σ.bx) u = some ds := hu
    rw [get_cons] at hu'
    by_cases h : t = u
    · subst h
      rw [upd_same]
      intro he
      simp only [Option.some.injEq] at he
      obtain ⟨q, g1, g2⟩ := hS.heap.blk b x hx
      rw [hp, Option.some.injEq] at g1
      subst g1
      have := g2.lt
      omega
    · rw [if_neg h] at hu'
      rw [upd_other μ r (Ne.symm h)]
      exact hS.hap u ds b x p hu' hx hp

/-! ### The steps -/
structure Same (w w' : World) : Prop where
  os : w'.os = w.os
  tape : w'.tape = w.tape
  output : w'.output = w.output
  size : w.heap.size ≤ w'.heap.size

theorem Step.make (hs : Same w w') {nm : Nat} (hβ : β nm = none) {p : Pl} {x1 : Blk} (hp : w.heap.size ≤ p.rb)
    (hch : ∀ r, r < w.heap.size → w'.heap[r]? = w.heap[r]?) : Step β μ σ w (upd β nm p) μ { σ with h := σ.h.set nm x1 } w' where
  ext := upd_ext p hβ
  os := hs.os
  tape := hs.tape
  output := hs.output
  size := hs.size
  fr := fun r hr _ => hch r hr
  own := fun r hm => by
    rcases hm with ⟨b, x, q, h1, h2, h3, h4⟩ | ⟨t, cs, h1, h2⟩
    · have h1' : (σ.h.set nm x1).get b = some x := h1
      rw [Heap.get_set] at h1'
      by_cases h : nm = b
      · subst h
        rw [upd_same, Option.some.injEq] at h3
        subst h3
        exact .inr (by omega)
      · rw [if_neg h] at h1'
        rw [upd_other β p (Ne.symm h)] at h3
        exact .inl (.inl ⟨b, x, q, h1', h2, h3, h4⟩)
    · exact .inl (.inr ⟨t, cs, h1, h2⟩)
  blks := fun b x q h1 h3 => by
    have h1' : (σ.h.set nm x1).get b = some x := h1
    rw [Heap.get_set] at h1'
    by_cases h : nm = b
    · subst h
      rw [upd_same, Option.some.injEq] at h3
      subst h3
      exact .inr hp
    · rw [if_neg h] at h1'
      rw [upd_other β p (Ne.symm h)] at h3
      exact .inl ⟨b, x, q, h1', h3, rfl⟩

theorem Step.del (β : Pls) (μ : Fms) (σ : St) (w : World) (b : Nat) : Step β μ σ w β μ { σ with h := σ.h.del b } w where
  ext := fun _ _ h => h
  os := rfl
  tape := rfl
  output := rfl
  size := Nat.le_refl _
  fr := fun _ _ _ => rfl
  own := fun r hm => by
    rcases hm with ⟨k, x, q, h1, h2, h3, h4⟩ | ⟨t, cs, h1, h2⟩
    · have h1' : (σ.h.del b).get k = some x := h1
      rw [Heap.get_del] at h1'
      split at h1'
      · cases h1'
      · exact .inl (.inl ⟨k, x, q, h1', h2, h3, h4⟩)
    · exact .inl (.inr ⟨t, cs, h1, h2⟩)
  blks := fun k x q h1 h3 => by
    have h1' : (σ.h.del b).get k = some x := h1
    rw [Heap.get_del] at h1'
    split at h1'
    · cases h1'
    · exact .inl ⟨k, x, q, h1', h3, rfl⟩

/-- The block goes on under another name. -/
theorem Step.move (hs : Same w w') {b nm : Nat} {x0 x1 : Blk} {p p' : Pl} (hb : σ.h.get b = some x0) (hrw : x0.rw = true) (hp : β b = some p) (hβ : β nm = none) (hpp : p'.rb = p.rb)
    (hch : ∀ r, r < w.heap.size → r ≠ p.rb → w'.heap[r]? = w.heap[r]?) : Step β μ σ w (upd β nm p') μ { σ with h := (σ.h.del b).set nm x1 } w' where
  ext := upd_ext p' hβ
  os := hs.os
  tape := hs.tape
  output := hs.output
  size := hs.size
  fr := fun r hr hn => hch r hr fun h => hn (.inl ⟨b, x0, p, hb, hrw, hp, h.symm⟩)
  own := fun r hm => by
    rcases hm with ⟨k, x, q, h1, h2, h3, h4⟩ | ⟨t, cs, h1, h2⟩
    · have h1' : ((σ.h.del b).set nm x1).get k = some x := h1
      rw [Heap.get_set] at h1'
      by_cases h : nm = k
      · subst h
        rw [upd_same, Option.some.injEq] at h3
        subst h3
        exact .inl (.inl ⟨b, x0, p, hb, hrw, hp, by omega⟩)
      · rw [if_neg h, Heap.get_del] at h1'
        rw [upd_other β p' (Ne.symm h)] at h3
        split at h1'
        · cases h1'
        · exact .inl (.inl ⟨k, x, q, h1', h2, h3, h4⟩)
    · exact .inl (.inr ⟨t, cs, h1, h2⟩)
  blks := fun k x q h1 h3 => by
    have h1' : ((σ.h.del b).set nm x1).get k = some x := h1
    rw [Heap.get_set] at h1'
    by_cases h : nm = k
    · subst h
      rw [upd_same, Option.some.injEq] at h3
      subst h3
      exact .inl ⟨b, x0, p, hb, hp, hpp.symm⟩
    · rw [if_neg h, Heap.get_del] at h1'
      rw [upd_other β p' (Ne.symm h)] at h3
      split at h1'
      · cases h1'
      · exact .inl ⟨k, x, q, h1', h3, rfl⟩

theorem Step.write (hs : Same w w') {b : Nat} {x0 x1 : Blk} {p : Pl} (hb : σ.h.get b = some x0) (hrw : x0.rw = true) (hp : β b = some p)
    (hch : ∀ r, r < w.heap.size → r ≠ p.rb → w'.heap[r]? = w.heap[r]?) : Step β μ σ w β μ { σ with h := σ.h.set b x1 } w' where
  ext := fun _ _ h => h
  os := hs.os
  tape := hs.tape
  output := hs.output
  size := hs.size
  fr := fun r hr hn => hch r hr fun h => hn (.inl ⟨b, x0, p, hb, hrw, hp, h.symm⟩)
  own := fun r hm => by
    rcases hm with ⟨k, x, q, h1, h2, h3, h4⟩ | ⟨t, cs, h1, h2⟩
    · have h1' : (σ.h.set b x1).get k = some x := h1
      rw [Heap.get_set] at h1'
      by_cases h : b = k
      · subst h
        rw [hp, Option.some.injEq] at h3
        subst h3
        exact .inl (.inl ⟨b, x0, p, hb, hrw, hp, h4⟩)
      · rw [if_neg h] at h1'
        exact .inl (.inl ⟨k, x, q, h1', h2, h3, h4⟩)
    · exact .inl (.inr ⟨t, cs, h1, h2⟩)
  blks := fun k x q h1 h3 => by
    have h1' : (σ.h.set b x1).get k = some x := h1
    rw [Heap.get_set] at h1'
    by_cases h : b = k
    · subst h
      exact .inl ⟨b, x0, q, hb, h3, rfl⟩
    · rw [if_neg h] at h1'
      exact .inl ⟨k, x, q, h1', h3, rfl⟩

theorem Step.writeBox (hs : Same w w') {t : Nat} {cs cs' : List C} {r : Nat} (ht : get σ.bx t = some cs) (hr : μ t = some r)
    (hch : ∀ k, k < w.heap.size → k ≠ r → w'.heap[k]? = w.heap[k]?) : Step β μ σ w β μ { σ with bx := setL t cs' σ.bx } w' where
  ext := fun _ _ h => h
  os := hs.os
  tape := hs.tape
  output := hs.output
  size := hs.size
  fr := fun k hk hn => hch k hk fun h => hn (.inr ⟨t, cs, ht, by rw [h]; exact hr⟩)
  own := fun k hm => by
    rcases hm with h | ⟨u, ds, h1, h2⟩
    · exact .inl (.inl h)
    · have h1' : get (setL t cs' σ.bx) u = some ds := h1
      rw [get_setL] at h1'
      by_cases h : t = u
      · subst h
        exact .inl (.inr ⟨t, cs, ht, h2⟩)
      · rw [if_neg h] at h1'
        exact .inl (.inr ⟨u, ds, h1', h2⟩)
  blks := fun k x q h1 h3 => .inl ⟨k, x, q, h1, h3, rfl⟩

theorem Step.makeBox (hs : Same w w') {t : Nat} {cs : List C} {r : Nat} (hr : w.heap.size ≤ r)
    (hch : ∀ k, k < w.heap.size → w'.heap[k]? = w.heap[k]?) : Step β μ σ w β (upd μ t r) { σ with bx := (t, cs) :: σ.bx } w' where
  ext := fun _ _ h => h
  os := hs.os
  tape := hs.tape
  output := hs.output
  size := hs.size
  fr := fun k hk _ => hch k hk
  own := fun k hm => by
    rcases hm with h | ⟨u, ds, h1, h2⟩
    · exact .inl (.inl h)
    · have h1' : get ((t, cs) :: σ.bx) u = some ds := h1
      rw [get_cons] at h1'
      by_cases h : t = u
      · subst h
        rw [upd_same, Option.some.injEq] at h2
        exact .inr (by omega)
      · rw [if_neg h] at h1'
        rw [upd_other μ r (Ne.symm h)] at h2
        exact .inl (.inr ⟨u, ds, h1', h2⟩)
  blks := fun k x q h1 h3 => .inl ⟨k, x, q, h1, h3, rfl⟩

theorem same_alloc (w : World) (o : Obj) : Same w (w.alloc o) := ⟨rfl, rfl, rfl, by simp⟩
theorem same_setRow (w : World) (g : Nat) (cs : Array Value) : Same w (w.setRow g cs) := ⟨rfl, rfl, rfl, by simp⟩
theorem alloc_old (w : World) (o : Obj) (k : Nat) (h : k < w.heap.size) : (w.alloc o).heap[k]? = w.heap[k]? := Below.heap_alloc w o k h
theorem alloc_new (w : World) (o : Obj) : (w.alloc o).heap[w.heap.size]? = some o := by
  show (w.heap.push o)[w.heap.size]? = _
  simp
end blocks
end E
end Go.Proofs.Ytfibbhmmiemcoaa

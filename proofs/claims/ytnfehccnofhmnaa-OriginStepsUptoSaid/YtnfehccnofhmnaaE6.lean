/-
  An abstract machine of this place's own: comparisons, sums, slices: in the model as here. No condition.
-/
import Derived.Test.YtnfehccnofhmnaaE5
set_option linter.all false
namespace Go.Proofs.Ytnfehccnofhmnaa
open Go.RowKit
namespace E
section ops
variable {P : Program} {X : Ctx} {fi : Fi} {N N' nm : Nat} {β : Pls} {μ : Fms} {nt : Nat} {σ σ' : St} {a : Act} {w : World} {o : Oper} {v : V}

theorem strEq_eq (s t : ByteArray) : (s.toList == t.toList) = strEq s t := by
  rw [ByteArray.toList_eq, ByteArray.toList_eq]; rfl

/-- What the machine is told of the types that compare cell by cell is so. -/
def FlatOk (P : Program) (X : Ctx) : Prop := ∀ t ks, X.flat t = some ks → P.eqGuardType P.depth t = false ∧
  ∀ (xs ys : Array Value) r, eqK ks (xs.toList.map .lit) (ys.toList.map .lit) = some r → ∀ w, (Op.equal t (.agg xs) (.agg ys)).run P w = .ok r w ∧
    ∀ b, (Instr.checkKey b 10000 t (.agg xs)).run P w = .ok () w

theorem eqK1_lit {k : CK} {x y : C} {r : Bool} (h : eqK1 k x y = some r) : ∃ u v, x = .lit u ∧ y = .lit v := by
  unfold eqK1 at h
  split at h <;> first | exact ⟨_, _, rfl, rfl⟩ | cases h

theorem eqK_lits : ∀ {ks : List CK} {xs ys : List C} {l l' : List Value} {r : Bool}, eqK ks xs ys = some r → All2 (CRel β μ) xs l → All2 (CRel β μ) ys l' → eqK ks (l.map .lit) (l'.map .lit) = some r
  | [], [], [], [], [], r, h, _, _ => h
  | k :: ks, x :: xs, y :: ys, u :: l, u' :: l', r, h, hx, hy => by
    simp only [eqK] at h
    split at h
    · rename_i b1 b2 h1 h2
      obtain ⟨p, q, rfl, rfl⟩ := eqK1_lit h1
      have e1 : u = p := hx.1
      have e2 : u' = q := hy.1
      subst e1; subst e2
      simp only [List.map_cons, eqK, h1, eqK_lits h2 hx.2 hy.2]
      exact h
    · cases h
  | [], [], [], _ :: _, _, _, _, h, _ => h.elim
  | [], [], [], [], _ :: _, _, _, _, h => h.elim
  | _ :: _, _ :: _, _ :: _, [], _, _, _, h, _ => h.elim
  | _ :: _, _ :: _, _ :: _, _ :: _, [], _, _, _, h => h.elim
  | [], _ :: _, _, _, _, _, h, _, _ => by simp [eqK] at h
  | [], [], _ :: _, _, _, _, h, _, _ => by simp [eqK] at h
  | _ :: _, [], _, _, _, _, h, _, _ => by simp [eqK] at h
  | _ :: _, _ :: _, [], _, _, _, h, _, _ => by simp [eqK] at h

theorem guard_plain {b : BinOp} {t : TypeId} {x y : Operand} {u u' : Value} (h1 : u ≠ .nilIface) (h2 : ∀ l, u ≠ .agg l) : (eqGuard b t x y u u').run P w = .ok () w := by
  unfold eqGuard
  cases u with
  | nilIface => exact absurd rfl h1
  | agg l => exact absurd rfl (h2 l)
  | _ => cases b <;> rfl

theorem run_binI {b : BinOp} {t : TypeId} {k : IntKind} {i j : Int} {r : Value} (h : binI b k i j = some r) : (Go.binOp b t (.int k i) (.int k j)).run P w = .ok r w := by
  cases b <;> simp only [binI, Option.some.injEq, reduceCtorEq] at h <;> subst h <;> simp [Go.binOp, Op.intArith, Op.intCmp]

theorem run_binS {b : BinOp} {t : TypeId} {s s' : ByteArray} {r : Value} (h : binS b s s' = some r) : (Go.binOp b t (.string s) (.string s')).run P w = .ok r w := by
  cases b <;> simp only [binS, Option.some.injEq, reduceCtorEq] at h <;> subst h <;> simp [Go.binOp, Op.stringOp, strEq_eq]

theorem eqIn_ptr {t e : TypeId} (hu : P.underlying t = some (.pointer e)) {p q : Option Addr} (h : p = none ∨ q = none) (d : Nat) : (Op.equalIn (d + 1) t (.pointer p) (.pointer q)).run P w = .ok (p.isNone && q.isNone) w := by
  simp only [Op.equalIn, Sem.run_bind, run_underlying hu w, Result.andThen_ok]
  cases p <;> cases q <;> simp_all

theorem eqIn_slice {t e : TypeId} (hu : P.underlying t = some (.slice e)) {p q : Option Addr} {n m n' m' : Nat} (h : p = none ∨ q = none) (d : Nat) : (Op.equalIn (d + 1) t (.slice p n m) (.slice q n' m')).run P w = .ok (p.isNone && q.isNone) w := by
  simp only [Op.equalIn, Sem.run_bind, run_underlying hu w, Result.andThen_ok]
  cases p <;> cases q <;> simp_all

theorem eqIn_map {t k e : TypeId} (hu : P.underlying t = some (.map k e)) {p q : Option Nat} (h : p = none ∨ q = none) (d : Nat) : (Op.equalIn (d + 1) t (.map p) (.map q)).run P w = .ok (p.isNone && q.isNone) w := by
  simp only [Op.equalIn, Sem.run_bind, run_underlying hu w, Result.andThen_ok]
  cases p <;> cases q <;> simp_all

theorem eqIn_fn {t : TypeId} {ps rs : Array TypeId} {va : Bool} (hu : P.underlying t = some (.func ps rs va)) {f : Fn} {l l' : Array Value} (d : Nat) :
    (Op.equalIn (d + 1) t .nilFunc .nilFunc).run P w = .ok true w ∧ (Op.equalIn (d + 1) t .nilFunc (.func f l l')).run P w = .ok false w ∧ (Op.equalIn (d + 1) t (.func f l l') .nilFunc).run P w = .ok false w := by
  refine ⟨?_, ?_, ?_⟩ <;>
  · simp only [Op.equalIn, Sem.run_bind, run_underlying hu w, Result.andThen_ok]
    rfl

theorem eqIn_bool {t : TypeId} (hu : P.underlying t = some .bool) (x y : Bool) (d : Nat) : (Op.equalIn (d + 1) t (.bool x) (.bool y)).run P w = .ok (x == y) w := by
  simp only [Op.equalIn, Sem.run_bind, run_underlying hu w, Result.andThen_ok]
  rfl

theorem eq_ptr {t e : TypeId} (hu : P.underlying t = some (.pointer e)) {p q : Option Addr} (h : p = none ∨ q = none) : (Op.equal t (.pointer p) (.pointer q)).run P w = .ok (p.isNone && q.isNone) w := eqIn_ptr hu h 9999
theorem eq_slice {t e : TypeId} (hu : P.underlying t = some (.slice e)) {p q : Option Addr} {n m n' m' : Nat} (h : p = none ∨ q = none) : (Op.equal t (.slice p n m) (.slice q n' m')).run P w = .ok (p.isNone && q.isNone) w := eqIn_slice hu h 9999
theorem eq_map {t k e : TypeId} (hu : P.underlying t = some (.map k e)) {p q : Option Nat} (h : p = none ∨ q = none) : (Op.equal t (.map p) (.map q)).run P w = .ok (p.isNone && q.isNone) w := eqIn_map hu h 9999
theorem eq_fn {t : TypeId} {ps rs : Array TypeId} {va : Bool} (hu : P.underlying t = some (.func ps rs va)) {f : Fn} {l l' : Array Value} :
    (Op.equal t .nilFunc .nilFunc).run P w = .ok true w ∧ (Op.equal t .nilFunc (.func f l l')).run P w = .ok false w ∧ (Op.equal t (.func f l l') .nilFunc).run P w = .ok false w := eqIn_fn hu 9999
theorem eq_bool {t : TypeId} (hu : P.underlying t = some .bool) (x y : Bool) : (Op.equal t (.bool x) (.bool y)).run P w = .ok (x == y) w := eqIn_bool hu x y 9999

/-- The four kinds of value that may be nil. -/
inductive NilV : Nat → Bool → Value → Prop
  | ptr (p : Option Addr) : NilV 1 p.isNone (.pointer p)
  | slice (p : Option Addr) (n m : Nat) : NilV 2 p.isNone (.slice p n m)
  | map (p : Option Nat) : NilV 3 p.isNone (.map p)
  | nilF : NilV 4 true .nilFunc
  | fn (f : Fn) (l l' : Array Value) : NilV 4 false (.func f l l')

theorem nilV_of {c : C} {u : Value} {q : Bool} (hc : CRel β μ c u) (hq : nilC c = some q) : NilV (kindC c) q u := by
  cases c with
  | lit v =>
    have hv : u = v := hc
    subst hv
    unfold nilC at hq
    split at hq
    · rename_i hh; cases hh; cases hq; exact .ptr none
    · rename_i hh; cases hh; cases hq; exact .slice none _ _
    · rename_i hh; cases hh; cases hq; exact .map none
    · rename_i hh; cases hh; cases hq; exact .nilF
    all_goals first | (rename_i hh; cases hh; done) | (cases hq; done) | skip
  | ptr b k => obtain ⟨p, _, rfl⟩ := hc; cases hq; exact .ptr (some _)
  | lp b k => obtain ⟨p, _, rfl⟩ := hc; cases hq; exact .ptr (some _)
  | sl b k n m => obtain ⟨p, k', rc, _, rfl, _⟩ := hc; cases hq; exact .slice (some _) _ _
  | mp b => obtain ⟨p, _, rfl⟩ := hc; cases hq; exact .map (some _)
  | fn f l => obtain ⟨l', rfl, _⟩ := hc; cases hq; exact .fn _ _ _

theorem run_nilV {d : TypeDesc} {t : TypeId} (hu : P.underlying t = some d) {q q' : Bool} {u u' : Value} (hx : NilV (kindD d) q u) (hy : NilV (kindD d) q' u') (h : q = true ∨ q' = true) :
    (Op.equal t u u').run P w = .ok (q && q') w := by
  cases d <;> simp only [kindD] at hx hy
  case pointer e =>
    cases hx; cases hy
    exact eq_ptr hu (by simpa using h)
  case slice e =>
    cases hx; cases hy
    exact eq_slice hu (by simpa using h)
  case map k e =>
    cases hx; cases hy
    exact eq_map hu (by simpa using h)
  case func ps rs va =>
    cases hx with
    | nilF => cases hy with
      | nilF => exact (eq_fn hu (f := .func 0) (l := #[]) (l' := #[])).1
      | fn f l l' => exact (eq_fn hu).2.1
    | fn f l l' => cases hy with
      | nilF => exact (eq_fn hu).2.2
      | fn f l l' => simp at h
  all_goals cases hx

theorem NilV.plain {k : Nat} {q : Bool} {u : Value} (h : NilV k q u) : u ≠ .nilIface ∧ (∀ l, u ≠ .agg l) ∧ (∀ k n, u ≠ .int k n) ∧ (∀ s, u ≠ .string s) ∧ (∀ k n, u ≠ .float k n) ∧ (∀ k n m, u ≠ .complex k n m) := by
  cases h <;> simp

theorem run_nilEq {d : TypeDesc} {t : TypeId} (hu : P.underlying t = some d) {x y : C} {r : Bool} (h : nilEq d x y = some r) {u u' : Value} (hx : CRel β μ x u) (hy : CRel β μ y u') :
    (Op.equal t u u').run P w = .ok r w ∧ u ≠ .nilIface ∧ (∀ l, u ≠ .agg l) ∧ (∀ k n, u ≠ .int k n) ∧ (∀ s, u ≠ .string s) ∧ (∀ k n, u ≠ .float k n) ∧ (∀ k n m, u ≠ .complex k n m) := by
  unfold nilEq at h
  split at h
  · rename_i hk
    simp only [Bool.and_eq_true, decide_eq_true_eq] at hk
    obtain ⟨hk1, hk2⟩ := hk
    split at h
    · rename_i q h1 h2
      simp only [Option.some.injEq] at h
      subst h
      have g1 := nilV_of hx h1
      have g2 := nilV_of hy h2
      rw [hk1] at g1
      rw [hk2] at g2
      have := run_nilV (P := P) (w := w) hu g1 g2 (.inl rfl)
      rw [Bool.true_and] at this
      exact ⟨this, g1.plain⟩
    · rename_i q _ h1 h2
      simp only [Option.some.injEq] at h
      subst h
      have g1 := nilV_of hx h1
      have g2 := nilV_of hy h2
      rw [hk1] at g1
      rw [hk2] at g2
      have := run_nilV (P := P) (w := w) hu g1 g2 (.inr rfl)
      rw [Bool.and_true] at this
      exact ⟨this, g1.plain⟩
    · cases h
  · cases h

theorem eqK1_b {x y : C} {r : Bool} (h : eqK1 .b x y = some r) : ∃ p q, x = .lit (.bool p) ∧ y = .lit (.bool q) ∧ r = (p == q) := by
  unfold eqK1 at h
  split at h
  · rename_i hk; cases hk
  · simp only [Option.some.injEq] at h; exact ⟨_, _, rfl, rfl, h.symm⟩
  · rename_i hk; cases hk
  · cases h

theorem run_eqlOf {t : TypeId} {u u' : Value} {r : Bool} (h : (Op.equal t u u').run P w = .ok r w) (h3 : ∀ k n, u ≠ .int k n) (h4 : ∀ s, u ≠ .string s) (h5 : ∀ k n, u ≠ .float k n) (h6 : ∀ k n m, u ≠ .complex k n m) :
    (Go.binOp .eql t u u').run P w = .ok (.bool r) w ∧ (Go.binOp .neq t u u').run P w = .ok (.bool (!r)) w := by
  cases u <;> simp_all [Go.binOp]

theorem op_binOp (hT : TtOk P X) (hF : FlatOk P X) (hN : N ≤ N') (hS : SRel N β μ nt σ a w) {b : BinOp} {t t' : TypeId} {x y : Operand} (ho : o.op = .binOp b t x y t') (h : op P X fi nm o σ = some (v, σ')) : OpOk P fi N' nm β μ nt σ a w o v σ' := by
  simp only [op, ho] at h
  obtain ⟨u, h3, h4⟩ := onV_some h
  obtain ⟨u', h5, h6⟩ := onV_some h4
  have hx := ev_ok hS h3
  have hy := ev_ok hS h5
  split at h6
  · rename_i r hr
    simp only [Option.some.injEq, Prod.mk.injEq] at h6
    obtain ⟨rfl, rfl⟩ := h6
    suffices hh : (eqGuard b t x y (a.eval x) (a.eval y)).run P w = .ok () w ∧ (Go.binOp b t (a.eval x) (a.eval y)).run P w = .ok r w by
      refine OpOk.val hN hS (x := r) ?_ rfl
      unfold execOp
      simp [ho, hh.1, hh.2]
    unfold binV at hr
    split at hr
    · rename_i j i k i'
      split at hr
      · rename_i hjk
        subst hjk
        have e1 : a.eval x = .int j i := hx
        have e2 : a.eval y = .int j i' := hy
        rw [e1, e2]
        exact ⟨guard_plain (by simp) (by simp), run_binI hr⟩
      · cases hr
    · rename_i s s'
      have e1 : a.eval x = .string s := hx
      have e2 : a.eval y = .string s' := hy
      rw [e1, e2]
      exact ⟨guard_plain (by simp) (by simp), run_binS hr⟩
    · rename_i c c' _ _
      have both : ∀ q, cellEq X t c c' = some q → (Op.equal t (a.eval x) (a.eval y)).run P w = .ok q w ∧ a.eval x ≠ .nilIface ∧ (∀ l, a.eval x ≠ .agg l) ∧ (∀ k n, a.eval x ≠ .int k n) ∧ (∀ s, a.eval x ≠ .string s) ∧ (∀ k n, a.eval x ≠ .float k n) ∧ (∀ k n m, a.eval x ≠ .complex k n m) := by
        intro q hq
        unfold cellEq at hq
        split at hq
        · rename_i ti hti
          obtain ⟨i, hi, hs, hb, hz, hu⟩ := tt_info hT hti
          split at hq
          · rename_i hd
            rw [hd] at hu
            obtain ⟨p, q', rfl, rfl, rfl⟩ := eqK1_b hq
            have e1 : a.eval x = .bool p := hx
            have e2 : a.eval y = .bool q' := hy
            rw [e1, e2]
            refine ⟨?_, by simp, by simp, by simp, by simp, by simp, by simp⟩
            exact eq_bool hu p q'
          · exact run_nilEq (P := P) (w := w) hu hq hx hy
        · cases hq
      split at hr
      · simp only [Option.map_eq_some_iff] at hr
        obtain ⟨q, hq, rfl⟩ := hr
        obtain ⟨g1, g2, g3, g4, g5, g6, g7⟩ := both q hq
        exact ⟨guard_plain g2 g3, (run_eqlOf g1 g4 g5 g6 g7).1⟩
      · simp only [Option.map_eq_some_iff] at hr
        obtain ⟨q, hq, rfl⟩ := hr
        obtain ⟨g1, g2, g3, g4, g5, g6, g7⟩ := both q hq
        exact ⟨guard_plain g2 g3, (run_eqlOf g1 g4 g5 g6 g7).2⟩
      · cases hr
    · rename_i xs ys
      obtain ⟨l, e1, hl⟩ := hx
      obtain ⟨l', e2, hl'⟩ := hy
      split at hr
      · rename_i ks hks
        obtain ⟨hg, heq⟩ := hF t ks hks
        have guard : (eqGuard b t x y (a.eval x) (a.eval y)).run P w = .ok () w := by
          rw [e1, e2]
          unfold eqGuard
          cases b <;> simp [Sem.run_bind, program, Sem.run, hg]
        refine ⟨guard, ?_⟩
        rw [e1, e2]
        split at hr
        · simp only [Option.map_eq_some_iff] at hr
          obtain ⟨q, hq, rfl⟩ := hr
          exact (run_eqlOf ((heq l l' q (eqK_lits hq hl hl') w).1) (by simp) (by simp) (by simp) (by simp)).1
        · simp only [Option.map_eq_some_iff] at hr
          obtain ⟨q, hq, rfl⟩ := hr
          exact (run_eqlOf ((heq l l' q (eqK_lits hq hl hl') w).1) (by simp) (by simp) (by simp) (by simp)).2
        · cases hr
      · cases hr
    · cases hr
  · exact op_pure hN hS (fun _ _ => by rw [ho]; exact fun h => by cases h) h6
end ops
end E
end Go.Proofs.Ytnfehccnofhmnaa

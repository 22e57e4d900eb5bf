/-
  An abstract machine of this place's own: comparisons, sums, slices: in the model as here. No condition.
-/
import Derived.Test.YtibdplfdmncgiaaMC2
set_option linter.all false
namespace Go.Proofs.Ytibdplfdmncgiaa
open Go.RowKit
namespace E
section ops
variable {P : Program} {X : Ctx} {fi : Fi} {N N' nm : Nat} {β : Pls} {μ : Fms} {nt : Nat} {σ σ' : St} {a : Act} {w : World} {o : Oper} {v : V}

theorem strEq_eq (s t : ByteArray) : (s.toList == t.toList) = strEq s t := by
  rw [ByteArray.toList_eq, ByteArray.toList_eq]; rfl

/-- What the machine is told of the types that compare cell by cell is so. -/
def FlatOk (P : Program) (X : Ctx) : Prop := ∀ t ks, X.flat t = some ks → P.eqGuardType P.depth t = false ∧
  ∀ (xs ys : Array Value) r, eqK ks (xs.toList.map .lit) (ys.toList.map .lit) = some r → ∀ w, (Op.equal t (.agg xs) (.agg ys)).run P w = .ok r w ∧
    ∀ b, (Instr.checkKey b 10000 t (.agg xs)).run P w = .ok () w

theorem eqK1_lit {k : CK} {x y : C} {r : Bool} (h : eqK1 k x y = some r) : ∃ u v, x = .lit u ∧ y = .lit v := by
  unfold eqK1 at h
  split at h <;> first | exact ⟨_, _, rfl, rfl⟩ | cases h

theorem eqK_lits : ∀ {ks : List CK} {xs ys : List C} {l l' : List Value} {r : Bool}, eqK ks xs ys = some r → All2 (CRel β μ) xs l → All2 (CRel β μ) ys l' → eqK ks (l.map .lit) (l'.map .lit) = some r
  | [], [], [], [], [], r, h, _, _ => h
  | k :: ks, x :: xs, y :: ys, u :: l, u' :: l', r, h, hx, hy => by
    simp only [eqK] at h
    split at h
    · rename_i b1 b2 h1 h2
      obtain ⟨p, q, rfl, rfl⟩ := eqK1_lit h1
      have e1 : u = p := hx.1
      have e2 : u' = q := hy.1
      subst e1; subst e2
      simp only [List.map_cons, eqK, h1, eqK_lits h2 hx.2 hy.2]
      exact h
    · cases h
  | [], [], [], _ :: _, _, _, _, h, _ => h.elim
  | [], [], [], [], _ :: _, _, _, _, h => h.elim
  | _ :: _, _ :: _, _ :: _, [], _, _, _, h, _ => h.elim
  | _ :: _, _ :: _, _ :: _, _ :: _, [], _, _, _, h => h.elim
  | [], _ :: _, _, _, _, _, h, _, _ => by simp [eqK] at h
  | [], [], _ :: _, _, _, _, h, _, _ => by simp [eqK] at h
  | _ :: _, [], _, _, _, _, h, _, _ => by simp [eqK] at h
  | _ :: _, _ :: _, [], _, _, _, h, _, _ => by simp [eqK] at h

theorem guard_plain {b : BinOp} {t : TypeId} {x y : Operand} {u u' : Value} (h1 : u ≠ .nilIface) (h2 : ∀ l, u ≠ .agg l) : (eqGuard b t x y u u').run P w = .ok () w := by
  unfold eqGuard
  cases u with
  | nilIface => exact absurd rfl h1
  | agg l => exact absurd rfl (h2 l)
  | _ => cases b <;> rfl

theorem run_binI {b : BinOp} {t : TypeId} {k : IntKind} {i j : Int} {r : Value} (h : binI b k i j = some r) : (Go.binOp b t (.int k i) (.int k j)).run P w = .ok r w := by
  cases b <;> simp only [binI, Option.some.injEq, reduceCtorEq] at h <;> subst h <;> simp [Go.binOp, Op.intArith, Op.intCmp]

theorem run_binS {b : BinOp} {t : TypeId} {s s' : ByteArray} {r : Value} (h : binS b s s' = some r) : (Go.binOp b t (.string s) (.string s')).run P w = .ok r w := by
  cases b <;> simp only [binS, Option.some.injEq, reduceCtorEq] at h <;> subst h <;> simp [Go.binOp, Op.stringOp, strEq_eq]

theorem eqIn_ptr {t e : TypeId} (hu : P.underlying t = some (.pointer e)) {p q : Option Addr} (h : p = none ∨ q = none) (d : Nat) : (Op.equalIn (d + 1) t (.pointer p) (.pointer q)).run P w = .ok (p.isNone && q.isNone) w := by
  simp only [Op.equalIn, Sem.run_bind, run_underlying hu w, Result.andThen_ok]
  cases p <;> cases q <;> simp_all

theorem eqIn_slice {t e : TypeId} (hu : P.underlying t = some (.slice e)) {p q : Option Addr} {n m n' m' : Nat} (h : p = none ∨ q = none) (d : Nat) : (Op.equalIn (d + 1) t (.slice p n m) (.slice q n' m')).run P w = .ok (p.isNone && q.isNone) w := by
  simp only [Op.equalIn, Sem.run_bind, run_underlying hu w, Result.andThen_ok]
  cases p <;> cases q <;> simp_all

theorem eqIn_map {t k e : TypeId} (hu : P.underlying t = some (.map k e)) {p q : Option Nat} (h : p = none ∨ q = none) (d : Nat) : (Op.equalIn (d + 1) t (.map p) (.map q)).run P w = .ok (p.isNone && q.isNone) w := by
  simp only [Op.equalIn, Sem.run_bind, run_underlying hu w, Result.andThen_ok]
  cases p <;> cases q <;> simp_all

theorem eqIn_fn {t : TypeId} {ps rs : Array TypeId} {va : Bool} (hu : P.underlying t = some (.func ps rs va)) {f : Fn} {l l' : Array Value} (d : Nat) :
    (Op.equalIn (d + 1) t .nilFunc .nilFunc).run P w = .ok true w ∧ (Op.equalIn (d + 1) t .nilFunc (.func f l l')).run P w = .ok false w ∧ (Op.equalIn (d + 1) t (.func f l l') .nilFunc).run P w = .ok false w := by
  refine ⟨?_, ?_, ?_⟩ <;>
  · simp only [Op.equalIn, Sem.run_bind, run_underlying hu w, Result.andThen_ok]
    rfl

theorem eqIn_bool {t : TypeId} (hu : P.underlying t = some .bool) (x y : Bool) (d : Nat) : (Op.equalIn (d + 1) t (.bool x) (.bool y)).run P w = .ok (x == y) w := by
  simp only [Op.equalIn, Sem.run_bind, run_underlying hu w, Result.andThen_ok]
  rfl

theorem eq_ptr {t e : TypeId} (hu : P.underlying t = some (.pointer e)) {p q : Option Addr} (h : p = none ∨ q = none) : (Op.equal t (.pointer p) (.pointer q)).run P w = .ok (p.isNone && q.isNone) w := eqIn_ptr hu h 9999
theorem eq_slice {t e : TypeId} (hu : P.underlying t = some (.slice e)) {p q : Option Addr} {n m n' m' : Nat} (h : p = none ∨ q = none) : (Op.equal t (.slice p n m) (.slice q n' m')).run P w = .ok (p.isNone && q.isNone) w := eqIn_slice hu h 9999
theorem eq_map {t k e : TypeId} (hu : P.underlying t = some (.map k e)) {p q : Option Nat} (h : p = none ∨ q = none) : (Op.equal t (.map p) (.map q)).run P w = .ok (p.isNone && q.isNone) w := eqIn_map hu h 9999
theorem eq_fn {t : TypeId} {ps rs : Array TypeId} {va : Bool} (hu : P.underlying t = some (.func ps rs va)) {f : Fn} {l l' : Array Value} :
    (Op.equal t .nilFunc .nilFunc).run P w = .ok true w ∧ (Op.equal t .nilFunc (.func f l l')).run P w = .ok false w ∧ (Op.equal t (.func f l l') .nilFunc).run P w = .ok false w := eqIn_fn hu 9999
theorem eq_bool {t : TypeId} (hu : P.underlying t = some .bool) (x y : Bool) : (Op.equal t (.bool x) (.bool y)).run P w = .ok (x == y) w := eqIn_bool hu x y 9999

/-- The four kinds of value that may be nil. -/
inductive NilV : Nat → Bool → Value → Prop
  | ptr (p : Option Addr) : NilV 1 p.isNone (.pointer p)
  | slice (p : Option Addr) (n m : Nat) : NilV 2 p.isNone (.slice p n m)
  | map (p : Option Nat) : NilV 3 p.isNone (.map p)
  | nilF : NilV 4 true .nilFunc
  | fn (f : Fn) (l l' : Array Value) : NilV 4 false (.func f l l')

theorem nilV_of {c : C} {u : Value} {q : Bool} (hc : CRel β μ c u) (hq : nilC c = some q) : NilV (kindC c) q u := by
  cases c with
  | lit v =>
    have hv : u = v := hc
    subst hv
    unfold nilC at hq
    split at hq
    · rename_i hh; cases hh; cases hq; exact .ptr none
    · rename_i hh; cases hh; cases hq; exact .slice none _ _
    · rename_i hh; cases hh; cases hq; exact .map none
    · rename_i hh; cases hh; cases hq; exact .nilF
    all_goals first | (rename_i hh; cases hh; done) | (cases hq; done) | skip
  | ptr b k => obtain ⟨p, _, rfl⟩ := hc; cases hq; exact .ptr (some _)
  | lp b k => obtain ⟨p, _, rfl⟩ := hc; cases hq; exact .ptr (some _)
  | sl b k n m => obtain ⟨p, k', rc, _, rfl, _⟩ := hc; cases hq; exact .slice (some _) _ _
  | mp b => obtain ⟨p, _, rfl⟩ := hc; cases hq; exact .map (some _)
  | fn f l => obtain ⟨l', rfl, _⟩ := hc; cases hq; exact .fn _ _ _

theorem run_nilV {d : TypeDesc} {t : TypeId} (hu : P.underlying t = some d) {q q' : Bool} {u u' : Value} (hx : NilV (kindD d) q u) (hy : NilV (kindD d) q' u') (h : q = true ∨ q' = true) :
    (Op.equal t u u').run P w = .ok (q && q') w := by
  cases d <;> simp only [kindD] at hx hy
  case pointer e =>
    cases hx; cases hy
    exact eq_ptr hu (by simpa using h)
  case slice e =>
    cases hx; cases hy
    exact eq_slice hu (by simpa using h)
  case map k e =>
    cases hx; cases hy
    exact eq_map hu (by simpa using h)
  case func ps rs va =>
    cases hx with
    | nilF => cases hy with
      | nilF => exact (eq_fn hu (f := .func 0) (l := #[]) (l' := #[])).1
      | fn f l l' => exact (eq_fn hu).2.1
    | fn f l l' => cases hy with
      | nilF => exact (eq_fn hu).2.2
      | fn f l l' => simp at h
  all_goals cases hx

theorem NilV.plain {k : Nat} {q : Bool} {u : Value} (h : NilV k q u) : u ≠ .nilIface ∧ (∀ l, u ≠ .agg l) ∧ (∀ k n, u ≠ .int k n) ∧ (∀ s, u ≠ .string s) ∧ (∀ k n, u ≠ .float k n) ∧ (∀ k n m, u ≠ .complex k n m) := by
  cases h <;> simp

theorem run_nilEq {d : TypeDesc} {t : TypeId} (hu : P.underlying t = some d) {x y : C} {r : Bool} (h : nilEq d x y = some r) {u u' : Value} (hx : CRel β μ x u) (hy : CRel β μ y u') :
    (Op.equal t u u').run P w = .ok r w ∧ u ≠ .nilIface ∧ (∀ l, u ≠ .agg l) ∧ (∀ k n, u ≠ .int k n) ∧ (∀ s, u ≠ .string s) ∧ (∀ k n, u ≠ .float k n) ∧ (∀ k n m, u ≠ .complex k n m) := by
  unfold nilEq at h
  split at h
  · rename_i hk
    simp only [Bool.and_eq_true, decide_eq_true_eq] at hk
    obtain ⟨hk1, hk2⟩ := hk
    split at h
    · rename_i q h1 h2
      simp only [Option.some.injEq] at h
      subst h
      have g1 := nilV_of hx h1
      have g2 := nilV_of hy h2
      rw [hk1] at g1
      rw [hk2] at g2
      have := run_nilV (P := P) (w := w) hu g1 g2 (.inl rfl)
      rw [Bool.true_and] at this
      exact ⟨this, g1.plain⟩
    · rename_i q _ h1 h2
      simp only [Option.some.injEq] at h
      subst h
      have g1 := nilV_of hx h1
      have g2 := nilV_of hy h2
      rw [hk1] at g1
      rw [hk2] at g2
      have := run_nilV (P := P) (w := w) hu g1 g2 (.inr rfl)
      rw [Bool.and_true] at this
      exact ⟨this, g1.plain⟩
    · cases h
  · cases h

theorem eqK1_b {x y : C} {r : Bool} (h : eqK1 .b x y = some r) : ∃ p q, x = .lit (.bool p) ∧ y = .lit (.bool q) ∧ r = (p == q) := by
  unfold eqK1 at h
  split at h
  · rename_i hk; cases hk
  · simp only [Option.some.injEq] at h; exact ⟨_, _, rfl, rfl, h.symm⟩
  · rename_i hk; cases hk
  · cases h

theorem run_eqlOf {t : TypeId} {u u' : Value} {r : Bool} (h : (Op.equal t u u').run P w = .ok r w) (h3 : ∀ k n, u ≠ .int k n) (h4 : ∀ s, u ≠ .string s) (h5 : ∀ k n, u ≠ .float k n) (h6 : ∀ k n m, u ≠ .complex k n m) :
    (Go.binOp .eql t u u').run P w = .ok (.bool r) w ∧ (Go.binOp .neq t u u').run P w = .ok (.bool (!r)) w := by
  cases u <;> simp_all [Go.binOp]

theorem op_binOp (hT : TtOk P X) (hF : FlatOk P X) (hN : N ≤ N') (hS : SRel N β μ nt σ a w) {b : BinOp} {t t' : TypeId} {x y : Operand} (ho : o.op = .binOp b t x y t') (h : op P X fi nm o σ = some (v, σ')) : OpOk P fi N' nm β μ nt σ a w o v σ' := by
  simp only [op, ho] at h
  obtain ⟨u, h3, h4⟩ := onV_some h
  obtain ⟨u', h5, h6⟩ := onV_some h4
  have hx := ev_ok hS h3
  have hy := ev_ok hS h5
  split at h6
  · rename_i r hr
    simp only [Option.some.injEq, Prod.mk.injEq] at h6
    obtain ⟨rfl, rfl⟩ := h6
    suffices hh : (eqGuard b t x y (a.eval x) (a.eval y)).run P w = .ok () w ∧ (Go.binOp b t (a.eval x) (a.eval y)).run P w = .ok r w by
      refine OpOk.val hN hS (x := r) ?_ rfl
      unfold execOp
      simp [ho, hh.1, hh.2]
    unfold binV at hr
    split at hr
    · rename_i j i k i'
      split at hr
      · rename_i hjk
        subst hjk
        have e1 : a.eval x = .int j i := hx
        have e2 : a.eval y = .int j i' := hy
        rw [e1, e2]
        exact ⟨guard_plain (by simp) (by simp), run_binI hr⟩
      · cases hr
    · rename_i s s'
      have e1 : a.eval x = .string s := hx
      have e2 : a.eval y = .string s' := hy
      rw [e1, e2]
      exact ⟨guard_plain (by simp) (by simp), run_binS hr⟩
    · rename_i c c' _ _
      have both : ∀ q, cellEq X t c c' = some q → (Op.equal t (a.eval x) (a.eval y)).run P w = .ok q w ∧ a.eval x ≠ .nilIface ∧ (∀ l, a.eval x ≠ .agg l) ∧ (∀ k n, a.eval x ≠ .int k n) ∧ (∀ s, a.eval x ≠ .string s) ∧ (∀ k n, a.eval x ≠ .float k n) ∧ (∀ k n m, a.eval x ≠ .complex k n m) := by
        intro q hq
        unfold cellEq at hq
        split at hq
        · rename_i ti hti
          obtain ⟨i, hi, hs, hb, hz, hu⟩ := tt_info hT hti
          split at hq
          · rename_i hd
            rw [hd] at hu
            obtain ⟨p, q', rfl, rfl, rfl⟩ := eqK1_b hq
            have e1 : a.eval x = .bool p := hx
            have e2 : a.eval y = .bool q' := hy
            rw [e1, e2]
            refine ⟨?_, by simp, by simp, by simp, by simp, by simp, by simp⟩
            exact eq_bool hu p q'
          · exact run_nilEq (P := P) (w := w) hu hq hx hy
        · cases hq
      split at hr
      · simp only [Option.map_eq_some_iff] at hr
        obtain ⟨q, hq, rfl⟩ := hr
        obtain ⟨g1, g2, g3, g4, g5, g6, g7⟩ := both q hq
        exact ⟨guard_plain g2 g3, (run_eqlOf g1 g4 g5 g6 g7).1⟩
      · simp only [Option.map_eq_some_iff] at hr
        obtain ⟨q, hq, rfl⟩ := hr
        obtain ⟨g1, g2, g3, g4, g5, g6, g7⟩ := both q hq
        exact ⟨guard_plain g2 g3, (run_eqlOf g1 g4 g5 g6 g7).2⟩
      · cases hr
    · rename_i xs ys
      obtain ⟨l, e1, hl⟩ := hx
      obtain ⟨l', e2, hl'⟩ := hy
      split at hr
      · rename_i ks hks
        obtain ⟨hg, heq⟩ := hF t ks hks
        have guard : (eqGuard b t x y (a.eval x) (a.eval y)).run P w = .ok () w := by
          rw [e1, e2]
          unfold eqGuard
          cases b <;> simp [Sem.run_bind, program, Sem.run, hg]
        refine ⟨guard, ?_⟩
        rw [e1, e2]
        split at hr
        · simp only [Option.map_eq_some_iff] at hr
          obtain ⟨q, hq, rfl⟩ := hr
          exact (run_eqlOf ((heq l l' q (eqK_lits hq hl hl') w).1) (by simp) (by simp) (by simp) (by simp)).1
        · simp only [Option.map_eq_some_iff] at hr
          obtain ⟨q, hq, rfl⟩ := hr
          exact (run_eqlOf ((heq l l' q (eqK_lits hq hl hl') w).1) (by simp) (by simp) (by simp) (by simp)).2
        · cases hr
      · cases hr
    · cases hr
  · exact op_pure hN hS (fun _ _ => by rw [ho]; exact fun h => by cases h) h6
end ops
end E
end Go.Proofs.Ytibdplfdmncgiaa

/-
  An abstract machine of this place's own: slices, structs and rows that are built: in the model as here. No condition.
-/
namespace Go.Proofs.Ytibdplfdmncgiaa
open Go.RowKit
namespace E
section ops
variable {P : Program} {X : Ctx} {fi : Fi} {N N' nm : Nat} {β : Pls} {μ : Fms} {nt : Nat} {σ σ' : St} {a : Act} {w : World} {o : Oper} {v : V}

theorem optIdx_ok (hS : SRel N β μ nt σ a w) {x : Option Operand} {l : Option Int} (h : optIdx σ x = some l) :
    (x = none ∧ l = none) ∨ ∃ y k i, x = some y ∧ l = some i ∧ a.eval y = .int k i := by
  unfold optIdx at h
  split at h
  · simp only [Option.some.injEq] at h; exact .inl ⟨rfl, h.symm⟩
  · rename_i y
    split at h
    · rename_i u hu
      simp only [Option.map_eq_some_iff] at h
      obtain ⟨i, hi, rfl⟩ := h
      obtain ⟨k, hk⟩ := idx_ok hi (ev_ok hS hu)
      exact .inr ⟨y, k, i, rfl, rfl, hk⟩
    · cases h

theorem run_sliceBound {u : Value} {k : IntKind} {i : Int} {y : Nat} {c : BoundsCode} (hu : u = .int k i) (h0 : 0 ≤ i) (h1 : i ≤ y) : (Instr.sliceBound u y c).run P w = .ok i.toNat w := by
  subst hu
  simp [Instr.sliceBound, asIntOf, h0, h1]

theorem run_bounds (hS : SRel N β μ nt σ a w) {lo hi mx : Option Operand} {l h m : Option Int} (h1 : optIdx σ lo = some l) (h2 : optIdx σ hi = some h) (h3 : optIdx σ mx = some m)
    {len cap rc : Nat} {l' h' m' : Nat} (hb : bounds len cap l h m = some (l', h', m')) (hc : cap ≤ rc) (b : Bool) :
    (Instr.sliceBounds b len rc (lo.map a.eval) (hi.map a.eval) (mx.map a.eval)).run P w = .ok (l', h', if mx.isSome then m' else rc) w ∧ l' ≤ h' ∧ h' ≤ m' ∧ m' ≤ cap ∧ (mx = none → m' = cap) := by
  simp only [bounds] at hb
  split at hb
  case isFalse => cases hb
  rename_i hcond
  simp only [Bool.and_eq_true, decide_eq_true_eq, Bool.or_eq_true] at hcond
  obtain ⟨⟨⟨⟨g0, g1⟩, g2⟩, g3⟩, g4⟩ := hcond
  simp only [Option.some.injEq, Prod.mk.injEq] at hb
  obtain ⟨rfl, rfl, rfl⟩ := hb
  rcases optIdx_ok hS h1 with ⟨rfl, rfl⟩ | ⟨y1, k1, i1, rfl, rfl, e1⟩ <;> rcases optIdx_ok hS h2 with ⟨rfl, rfl⟩ | ⟨y2, k2, i2, rfl, rfl, e2⟩ <;> rcases optIdx_ok hS h3 with ⟨rfl, rfl⟩ | ⟨y3, k3, i3, rfl, rfl, e3⟩ <;>
    simp only [Option.getD_none, Option.getD_some, Option.isNone_none, Option.isSome_none, Option.isNone_some, Option.isSome_some, Bool.false_eq_true, or_false, false_or, or_true, true_or] at g0 g1 g2 g3 g4 <;>
    (refine ⟨?_, ?_, ?_, ?_, ?_⟩) <;> (try simp only [Option.getD_none, Option.getD_some]) <;> (try omega) <;> (try simp) <;>
    (try unfold Instr.sliceBounds) <;> (try simp only [Option.map_none, Option.map_some]) <;> (try simp only [Sem.run_bind, Sem.run_pure, Result.andThen_ok])
  · rw [run_sliceBound e2 (by omega) (by omega)]; rfl
  · rw [run_sliceBound e3 (by omega) (by omega)]; simp only [Result.andThen_ok]; rw [run_sliceBound e2 (by omega) (by omega)]; rfl
  · rw [run_sliceBound e1 (by omega) (by omega)]; rfl
  · rw [run_sliceBound e2 (by omega) (by omega)]; simp only [Result.andThen_ok]; rw [run_sliceBound e1 (by omega) (by omega)]; rfl
  · rw [run_sliceBound e3 (by omega) (by omega)]; simp only [Result.andThen_ok]; rw [run_sliceBound e2 (by omega) (by omega)]; simp only [Result.andThen_ok]; rw [run_sliceBound e1 (by omega) (by omega)]; rfl

theorem op_slice (hT : TtOk P X) (hN : N ≤ N') (hS : SRel N β μ nt σ a w) {t : TypeId} {x : Operand} {lo hi mx : Option Operand} (ho : o.op = .slice t x lo hi mx) (h : op P X fi nm o σ = some (v, σ')) : OpOk P fi N' nm β μ nt σ a w o v σ' := by
  simp only [op, ho] at h
  split at h
  case h_2 => cases h
  rename_i l h' m h1 h2 h3
  split at h
  · exact op_pure hN hS (fun _ _ => by rw [ho]; exact fun h => by cases h) h
  · rename_i c _ hev
    have hx := ev_ok hS hev
    simp only [Option.map_eq_some_iff, Prod.mk.injEq] at h
    obtain ⟨c', h7, rfl, rfl⟩ := h
    unfold sliceE at h7
    split at h7
    case h_2 => cases h7
    rename_i ti hti
    split at h7
    · rename_i e hd
      split at h7
      · rename_i et b q len cap het _
        obtain ⟨i, hi', hs, hb, hz, hue, hu⟩ := elem_info hT hti (.inl hd) het
        rw [hd] at hu
        split at h7
        case h_2 => cases h7
        rename_i l' h'' m' hbd
        split at h7
        case isFalse => cases h7
        rename_i hszok
        simp only [Option.some.injEq] at h7
        subst h7
        obtain ⟨p, k, rc, hβ, hx', hlc, hcr, hk, hgrow⟩ := hx
        obtain ⟨hrun, b1, b2, b3, b4⟩ := run_bounds (P := P) hS h1 h2 h3 hbd hcr true
        refine OpOk.val hN hS (x := .slice (if (if mx.isSome then m' else rc) = l' then some ⟨p.rb, k, none⟩ else some (Addr.add ⟨p.rb, k, none⟩ (l' * i.size))) (h'' - l') ((if mx.isSome then m' else rc) - l')) ?_ ?_
        · unfold execOp
          simp [ho, hx', Instr.sliceAt, run_underlying hu, Instr.slice, hrun, Go.sizeOf, typeInfo, hi']
        · have hsz : l' = 0 ∨ p.sz = et.size ∨ p.sz = 0 := by
            simp only [szOk, Bool.or_eq_true] at hszok
            rcases hszok with h0 | h0
            · exact .inl (Nat.eq_of_beq_eq_true h0)
            · split at h0
              · rename_i rw' sz' cs' hblk
                obtain ⟨p', g1, g2⟩ := hS.heap.blk b _ hblk
                rw [hβ, Option.some.injEq] at g1
                subst g1
                have hps : p.sz = sz' := g2.1
                simp only [Bool.or_eq_true] at h0
                rcases h0 with h0 | h0
                · exact .inr (.inl (by rw [hps]; exact Nat.eq_of_beq_eq_true h0))
                · exact .inr (.inr (by rw [hps]; exact Nat.eq_of_beq_eq_true h0))
              · cases h0
          refine ⟨p, if (if mx.isSome then m' else rc) = l' then k else k + l' * i.size, (if mx.isSome then m' else rc) - l', hβ, ?_, by omega, ?_, ?_, ?_⟩
          · by_cases hq : (if mx.isSome = true then m' else rc) = l'
            · rw [if_pos hq, if_pos hq]
            · rw [if_neg hq, if_neg hq, Addr.add_mid]
          · split <;> omega
          · intro hne
            rw [if_neg (by omega), hs]
            have := hk (by split at hne <;> omega)
            omega
          · cases hmx : mx with
            | some _ => left; simp
            | none =>
              rw [hmx] at b4
              have hm := b4 rfl
              simp only [Option.isSome_none, Bool.false_eq_true, if_false]
              rcases hgrow with hg | ⟨g0, g1, g2⟩
              · left; omega
              · right
                refine ⟨g0, ?_, ?_⟩
                · rcases hsz with h0 | h0 | h0
                  · subst h0; simp; rw [hm]; exact g1
                  · rw [hm, h0, Nat.add_assoc, ← Nat.add_mul, show l' + (cap - l') = cap by omega, ← h0]; exact g1
                  · omega
                · rcases hsz with h0 | h0 | h0
                  · subst h0; simpa using g2
                  · have : p.ro + (q + l' * et.size) + (rc - l') * p.sz = p.ro + q + rc * p.sz := by
                      rw [h0, ← Nat.add_assoc, Nat.add_assoc (p.ro + q), ← Nat.add_mul, show l' + (rc - l') = rc by omega]
                    omega
                  · omega
      · rename_i et het _
        obtain ⟨i, hi', hs, hb, hz, hue, hu⟩ := elem_info hT hti (.inl hd) het
        rw [hd] at hu
        split at h7
        case h_2 => cases h7
        rename_i q hbd
        obtain ⟨l', h'', m'⟩ := q
        simp only [Option.some.injEq] at h7
        subst h7
        have hx' : a.eval x = .slice none 0 0 := hx
        obtain ⟨hrun, b1, b2, b3, b4⟩ := run_bounds (P := P) hS h1 h2 h3 hbd (Nat.le_refl _) true
        have hl0 : l' = 0 := by omega
        have hh0 : h'' = 0 := by omega
        have hm0 : m' = 0 := by omega
        subst hl0; subst hh0; subst hm0
        refine OpOk.val hN hS (x := .slice none 0 0) ?_ rfl
        unfold execOp
        simp [ho, hx', Instr.sliceAt, run_underlying hu, Instr.slice, hrun, Go.sizeOf, typeInfo, hi']
      · cases h7
    · rename_i n e hd
      split at h7
      · rename_i et b q het _
        obtain ⟨i, hi', hs, hb, hz, hue, hu⟩ := elem_info hT hti (.inr ⟨n, hd⟩) het
        rw [hd] at hu
        split at h7
        case h_2 => cases h7
        rename_i l' h'' m' hbd
        split at h7
        · cases h7
        · rename_i hmx
          simp only [Option.some.injEq] at h7
          subst h7
          have hmn : mx = none := by
            rcases optIdx_ok hS h3 with ⟨e1, _⟩ | ⟨_, _, _, _, e2, _⟩
            · exact e1
            · rw [e2] at hmx; simp at hmx
          obtain ⟨p, hβ, hx'⟩ := hx
          obtain ⟨hrun, b1, b2, b3, b4⟩ := run_bounds (P := P) hS h1 h2 h3 hbd (Nat.le_refl _) false
          have hm := b4 hmn
          subst hmn
          simp only [Option.isSome_none, Bool.false_eq_true, if_false] at hrun
          refine OpOk.val hN hS (x := .slice (if n = l' then some ⟨p.rb, p.ro + q, none⟩ else some (Addr.add ⟨p.rb, p.ro + q, none⟩ (l' * i.size))) (h'' - l') (n - l')) ?_ ?_
          · unfold execOp
            simp only [Option.map_none] at hrun
            simp [ho, hx', Instr.sliceAt, run_underlying hu, Instr.sureAddr, hrun, Go.sizeOf, typeInfo, hi']
            split <;> rfl
          · refine ⟨p, if n = l' then p.ro + q else p.ro + q + l' * i.size, n - l', hβ, ?_, by omega, by omega, ?_, .inl (by omega)⟩
            · split <;> simp [Addr.add_mid]
            · intro hne
              rw [if_neg (by omega), hs]
              omega
      · cases h7
    · cases h7
  · cases h

/-! ### What is built -/
theorem over_fold_get : ∀ (l : List Value) (k off : Nat) (cells : Array Value), off + k + l.length ≤ cells.size → ∀ j,
    (((l.zipIdx k).foldl (fun (cs : Array Value) (p : Value × Nat) => cs.setIfInBounds (off + p.2) p.1) cells)).toList[j]? = if j < off + k then cells.toList[j]? else if j < off + k + l.length then l[j - (off + k)]? else cells.toList[j]?
  | [], k, off, cells, _, j => by simp; intro h1 h2; omega
  | x :: l, k, off, cells, h, j => by
    simp only [List.length_cons] at h
    have hlt : off + k < cells.toList.length := by simp; omega
    rw [List.zipIdx_cons, List.foldl_cons, over_fold_get l (k + 1) off _ (by simp; omega) j]
    simp only [Array.toList_setIfInBounds, List.length_cons]
    rcases Nat.lt_trichotomy j (off + k) with h1 | h1 | h1
    · rw [if_pos (by omega), if_pos h1, List.getElem?_set_ne (by omega)]
    · subst h1
      rw [if_pos (by omega), if_neg (by omega), if_pos (by omega), List.getElem?_set_self hlt]
      simp
    · by_cases h2 : j < off + k + (l.length + 1)
      · rw [if_neg (by omega), if_pos (by omega), if_neg (by omega), if_pos h2, show j - (off + k) = (j - (off + (k + 1))) + 1 by omega, List.getElem?_cons_succ]
      · rw [if_neg (by omega), if_neg (by omega), if_neg (by omega), if_neg h2, List.getElem?_set_ne (by omega)]

theorem over_fold (l : List Value) (k off : Nat) (cells : Array Value) (h : off + k + l.length ≤ cells.size) :
    (((l.zipIdx k).foldl (fun (cs : Array Value) (p : Value × Nat) => cs.setIfInBounds (off + p.2) p.1) cells)).toList = cells.toList.take (off + k) ++ (l ++ cells.toList.drop (off + k + l.length)) := by
  apply List.ext_getElem?
  intro j
  rw [over_fold_get l k off cells h j]
  have e0 : (cells.toList.take (off + k)).length = off + k := by simp; omega
  by_cases h1 : j < off + k
  · rw [if_pos h1, List.getElem?_append_left (by omega), List.getElem?_take, if_pos h1]
  · rw [if_neg h1, List.getElem?_append_right (by omega), e0]
    by_cases h2 : j < off + k + l.length
    · rw [if_pos h2, List.getElem?_append_left (by omega)]
    · rw [if_neg h2, List.getElem?_append_right (by omega), List.getElem?_drop, show off + k + l.length + (j - (off + k) - l.length) = j by omega]

theorem fill_ok {place : Nat → Option (Nat × Nat)} : ∀ {vs : List (Nat × V)} {cs ds : List C} {arr : Array Value} {ps : List (Nat × Value)}, fillC place cs vs = some ds → All2 (CRel β μ) cs arr.toList →
    All2 (fun (p : Nat × V) (q : Nat × Value) => p.1 = q.1 ∧ VRel β μ p.2 q.2) vs ps → ∃ arr', Instr.fill place arr ps = some arr' ∧ All2 (CRel β μ) ds arr'.toList
  | [], cs, ds, arr, [], h, hc, _ => by
    simp only [fillC, Option.some.injEq] at h
    subst h
    exact ⟨arr, rfl, hc⟩
  | (i, v) :: vs, cs, ds, arr, (j, x) :: ps, h, hc, hp => by
    obtain ⟨⟨hij, hv⟩, hps⟩ := hp
    simp only at hij hv
    subst hij
    simp only [fillC] at h
    split at h
    · rename_i off size xs hpl hcs
      split at h
      · rename_i hck
        simp only [Bool.and_eq_true, decide_eq_true_eq] at hck
        obtain ⟨hsz, hok⟩ := hck
        simp only [Option.bind_eq_some_iff] at h
        obtain ⟨ds', hw, h'⟩ := h
        obtain ⟨hle, rfl⟩ := wr_some hw
        have hxs := vcells_ok hv hcs hok
        have hl1 := hxs.length
        have hl2 := hc.length
        simp only [Array.length_toList] at hl1 hl2
        have hover := over_fold x.cells.toList 0 off arr (by simp; omega)
        simp only [Nat.add_zero] at hover
        have hfold : (Array.foldl (fun (cs : Array Value) (p : Value × Nat) => cs.setIfInBounds (off + p.2) p.1) arr x.cells.zipIdx) = ((x.cells.toList.zipIdx 0).foldl (fun (cs : Array Value) (p : Value × Nat) => cs.setIfInBounds (off + p.2) p.1) arr) := by
          rw [← Array.foldl_toList]; simp
        obtain ⟨arr', hf, hr⟩ := fill_ok (arr := (x.cells.toList.zipIdx 0).foldl (fun (cs : Array Value) (p : Value × Nat) => cs.setIfInBounds (off + p.2) p.1) arr) (ps := ps) h' (by rw [hover]; exact all2_over hc hxs) hps
        refine ⟨arr', ?_, hr⟩
        simp only [Instr.fill, hpl]
        rw [if_neg (by simp; omega)]
        rw [← hf]
        congr 1
      · cases h
    · cases h
  | [], _, _, _, _ :: _, _, _, hp => hp.elim
  | _ :: _, _, _, _, [], _, _, hp => hp.elim

theorem places_ok (hT : TtOk P X) : ∀ {fs : List Field} {l : List (Nat × Nat)}, placesL X fs = some l → fs.mapM (fun f => (P.info? f.type).map fun i => (f.offset, i.size)) = some l
  | [], l, h => by simp only [placesL, Option.some.injEq] at h; subst h; rfl
  | f :: fs, l, h => by
    simp only [placesL] at h
    split at h
    · rename_i ti l' h1 h2
      simp only [Option.some.injEq] at h
      subst h
      obtain ⟨i, hi, hs, _⟩ := tt_info hT h1
      simp [List.mapM_cons, hi, places_ok hT h2, hs]
    · cases h

theorem op_build (hT : TtOk P X) (hN : N ≤ N') (hS : SRel N β μ nt σ a w) {t : TypeId} {ps : Array (Nat × Operand)} (ho : o.op = .build t ps) (h : op P X fi nm o σ = some (v, σ')) : OpOk P fi N' nm β μ nt σ a w o v σ' := by
  simp only [op, ho] at h
  obtain ⟨ti, h1, h2⟩ := onTI_some h
  obtain ⟨i, hi, hs, hb, hz, hu⟩ := tt_info hT h1
  split at h2
  case h_2 => cases h2
  rename_i z vs hzc hvs
  simp only [zeroC, Option.map_eq_some_iff] at hzc
  obtain ⟨zv, hzv, rfl⟩ := hzc
  have hparts := evParts_ok hS hvs
  have hmap : (ps.map fun p => (p.1, a.eval p.2)).toList = ps.toList.map fun p => (p.1, a.eval p.2) := by simp
  suffices hh : ∃ ds arr', v = .agg ds ∧ σ' = σ ∧ P.built t (ps.map fun p => (p.1, a.eval p.2)).toList = some arr' ∧ All2 (CRel β μ) ds arr'.toList by
    obtain ⟨ds, arr', rfl, rfl, hbt, hall⟩ := hh
    refine OpOk.val hN hS (x := .agg arr') ?_ ⟨arr', rfl, hall⟩
    have hrb := run_build (P := P) w t (ps.map fun p => (p.1, a.eval p.2)) arr' hbt
    unfold execOp
    simp only [ho, Sem.run_bind]
    rw [show (ps.map fun (x : Nat × Operand) => match x with | (i, x) => (i, a.eval x)) = ps.map fun p => (p.1, a.eval p.2) from rfl, hrb]
    rfl
  split at h2
  · rename_i fs hd
    rw [hd] at hu
    split at h2
    case h_2 => cases h2
    rename_i pl hpl
    simp only [Option.map_eq_some_iff, Prod.mk.injEq] at h2
    obtain ⟨ds, hf, rfl, rfl⟩ := h2
    obtain ⟨arr', hf', hr⟩ := fill_ok (arr := zv.cells) hf (all2_lits _) hparts
    refine ⟨ds, arr', rfl, rfl, ?_, hr⟩
    unfold Program.built
    simp only [hi, hu, hz, hzv, places_ok hT hpl]
    rw [hmap, ← hf']
    congr 1
    funext k
    simp
  · rename_i n e hd
    split at h2
    case h_2 => cases h2
    rename_i et het
    have he : X.tt e = some et := by
      unfold elemTI at het
      rw [h1] at het
      simp only [hd] at het
      exact het
    obtain ⟨ie, hie, hse, _⟩ := tt_info hT he
    rw [hd] at hu
    simp only [Option.map_eq_some_iff, Prod.mk.injEq] at h2
    obtain ⟨ds, hf, rfl, rfl⟩ := h2
    obtain ⟨arr', hf', hr⟩ := fill_ok (arr := zv.cells) hf (all2_lits _) hparts
    refine ⟨ds, arr', rfl, rfl, ?_, hr⟩
    unfold Program.built
    simp only [hi, hu, hz, hzv, hie, hse]
    rw [hmap, ← hf']
  · cases h2
end ops
end E
end Go.Proofs.Ytibdplfdmncgiaa

/-
  An abstract machine of this place's own: rows that are made, append, len, clear: in the model as here. No condition.
-/
namespace Go.Proofs.Ytibdplfdmncgiaa
open Go.RowKit
namespace E
section ops
variable {P : Program} {X : Ctx} {fi : Fi} {N N' nm : Nat} {β : Pls} {μ : Fms} {nt : Nat} {σ σ' : St} {a : Act} {w : World} {o : Oper} {v : V}

/-- A list, n times. -/
def repL {α : Type} (l : List α) : Nat → List α
  | 0 => []
  | n + 1 => l ++ repL l n

theorem repL_get {α : Type} {l : List α} (hl : 0 < l.length) : ∀ (n i : Nat), (repL l n)[i]? = if i < n * l.length then l[i % l.length]? else none
  | 0, i => by simp [repL]
  | n + 1, i => by
    rw [repL]
    by_cases h : i < l.length
    · rw [List.getElem?_append_left h, if_pos (by rw [Nat.succ_mul]; omega), Nat.mod_eq_of_lt h]
    · rw [List.getElem?_append_right (by omega), repL_get hl n, Nat.succ_mul]
      by_cases h2 : i - l.length < n * l.length
      · rw [if_pos h2, if_pos (by omega)]
        congr 1
        conv => rhs; rw [show i = i - l.length + l.length by omega, Nat.add_mod_right]
      · rw [if_neg h2, if_neg (by omega)]

theorem zerosC_rep (l : List Value) : ∀ n, zerosC (l.map .lit) n = (repL l n).map .lit
  | 0 => rfl
  | n + 1 => by simp [zerosC, repL, zerosC_rep l n]

theorem range_rep (z : Array Value) (hz : 0 < z.size) (n : Nat) : ((Array.range (n * z.size)).map (z[· % z.size]!)).toList = repL z.toList n := by
  apply List.ext_getElem?
  intro i
  rw [repL_get (by simpa using hz)]
  simp only [Array.length_toList, Array.getElem?_toList, Array.getElem?_map, Array.getElem?_range]
  split
  · have hlt : i % z.size < z.size := Nat.mod_lt _ hz
    simp [hlt]
  · rfl

theorem zeros_ok (z : Value) (hz : 0 < z.cells.size) (n : Nat) : All2 (CRel β μ) (zerosC (z.cells.toList.map .lit) n) ((Array.range (n * z.cells.size)).map (z.cells[· % z.cells.size]!)).toList := by
  rw [range_rep z.cells hz, zerosC_rep]
  exact all2_lits _

/-- A row made. -/
theorem newRow_ok (hmk : makes fi o = true) (hN : N ≤ N') (hnm : nm < N') (hβ : β nm = none) (hS : SRel N β μ nt σ a w) {cs : List C} {arr : Array Value} {e : TypeId} {sz n c : Nat}
    (hr : (execOp a.eval o).run P w = .ok (.value (.slice (some ⟨w.heap.size, 0, none⟩) n c)) (w.alloc (.cells arr e))) (hc : All2 (CRel β μ) cs arr.toList) (hnc : n ≤ c)
    (h : newRowH σ nm sz cs = some σ') : OpOk P fi N' nm β μ nt σ a w o (.one (.sl nm 0 n c)) σ' := by
  simp only [newRowH] at h
  split at h
  case isFalse => cases h
  rename_i hok
  simp only [Option.some.injEq] at h
  subst h
  have hall := all2_noF (μ' := noF) hok hc
  have hlen : arr.size = cs.length := by have := hall.length; simp at this; omega
  let p : Pl := ⟨w.heap.size, 0, arr.size, cs.length, sz⟩
  have hB : BRel (upd β nm p) p (.row true sz cs) (w.alloc (.cells arr e)) :=
    ⟨rfl, rfl, arr, e, (0, 0), arr.toList, alloc_new w _, fun j x hj => by simpa [p] using hj, hall.mono fun _ _ _ => CRel.up (upd_ext p hβ) fun _ _ _ h => h, rfl, by show 0 + cs.length ≤ arr.size; omega, fun _ => rfl⟩
  have hS' := hS.make (N' := N') (w' := w.alloc (.cells arr e)) hN hnm hβ (p := p) (x1 := .row true sz cs) (fun r hr _ => alloc_old w _ r hr)
    (fun b x q hb hq => by obtain ⟨q', g1, g2⟩ := hS.heap.blk b x hb; rw [hq, Option.some.injEq] at g1; subst g1; exact Nat.ne_of_lt g2.lt)
    (fun u ds hu he => by obtain ⟨r, g1, g2⟩ := hS.box u ds hu; rw [he, Option.some.injEq] at g1; subst g1; exact absurd g2.lt (Nat.lt_irrefl _)) hB
  exact ⟨_, _, _, upd β nm p, μ, hr, .inl rfl, ⟨p, 0, c, upd_same β nm p, rfl, hnc, Nat.le_refl _, fun _ => rfl, .inl rfl⟩, hS', Step.make (same_alloc w _) hβ (Nat.le_refl _) (fun k hk => alloc_old w _ k hk), fun b hb => upd_other β p (hb.resolve_right (by rw [hmk]; simp)), fun _ _ => rfl, rfl⟩

theorem elemTI_slice {t e : TypeId} {st et : TI} (h1 : X.tt t = some st) (hd : st.desc = .slice e) (h2 : elemTI X t = some et) : X.tt e = some et := by
  unfold elemTI at h2
  rw [h1] at h2
  simp only [hd] at h2
  exact h2

theorem op_buildSlice (hT : TtOk P X) (hN : N ≤ N') (hnm : nm < N') (hβ : β nm = none) (hS : SRel N β μ nt σ a w) {t : TypeId} {n : Nat} {ps : Array (Nat × Operand)} (ho : o.op = .buildSlice t n ps) (h : op P X fi nm o σ = some (v, σ')) : OpOk P fi N' nm β μ nt σ a w o v σ' := by
  simp only [op, ho] at h
  split at h
  case h_2 => cases h
  rename_i et vs st het hvs hst
  split at h
  case h_2 => cases h
  rename_i e z hd hzc
  split at h
  case isFalse => cases h
  rename_i hck
  simp only [Bool.and_eq_true, decide_eq_true_eq] at hck
  obtain ⟨⟨hle, hpos⟩, hzl⟩ := hck
  split at h
  case h_2 => cases h
  rename_i cs hf
  simp only [Option.map_eq_some_iff, Prod.mk.injEq] at h
  obtain ⟨σ1, h7, rfl, rfl⟩ := h
  have he := elemTI_slice hst hd het
  obtain ⟨i, hi, hs, hb, hz, hue, hu⟩ := elem_info hT hst (.inl hd) he
  rw [hd] at hu
  simp only [zeroC, Option.map_eq_some_iff] at hzc
  obtain ⟨zv, hzv, rfl⟩ := hzc
  have hzs : zv.cells.size = i.size := by simp at hzl; omega
  obtain ⟨arr', hf', hr⟩ := fill_ok (arr := (Array.range (n * zv.cells.size)).map (zv.cells[· % zv.cells.size]!)) hf (zeros_ok zv (by omega) n) (evParts_ok hS hvs)
  refine newRow_ok (by simp [makes, ho]) hN hnm hβ hS (arr := arr') (e := e) ?_ hr (Nat.le_refl _) h7
  have hle' : ¬ (16777216 < n * i.size) := by rw [hs]; omega
  rw [hzs] at hf'
  have hparts : (ps.map fun (x : Nat × Operand) => match x with | (i, x) => (i, a.eval x)).toList = ps.toList.map fun p => (p.1, a.eval p.2) := by simp
  by_cases hn : n = 0
  · subst hn
    unfold execOp
    simp only [Nat.zero_mul, Array.range_zero', Array.map_empty] at hf'
    rw [← hs] at hf'
    rw [← hparts] at hf'
    simp [ho, Instr.buildSlice, run_underlying hu, Go.sizeOf, typeInfo, hi, newRow]
    simp at hf'
    simp only [Array.range_zero', Array.map_empty, hf']
    rfl
  · have hne : ¬ (n * i.size = 0) := by
      intro h0
      rcases Nat.mul_eq_zero.1 h0 with h0 | h0 <;> omega
    unfold execOp
    rw [← hs, ← hparts] at hf'
    simp [ho, Instr.buildSlice, run_underlying hu, Go.sizeOf, typeInfo, zeroValue, hi, hz, hzv, newRow, hle', hne, hzs]
    simp at hf'
    rw [hf']
    rfl

theorem op_makeSlice (hT : TtOk P X) (hN : N ≤ N') (hnm : nm < N') (hβ : β nm = none) (hS : SRel N β μ nt σ a w) {t : TypeId} {x y : Operand} (ho : o.op = .makeSlice t x y) (h : op P X fi nm o σ = some (v, σ')) : OpOk P fi N' nm β μ nt σ a w o v σ' := by
  simp only [op, ho] at h
  obtain ⟨u, h3, h4⟩ := onV_some h
  obtain ⟨u', h5, h6⟩ := onV_some h4
  split at h6
  case h_2 => cases h6
  rename_i et st n m het hst
  split at h6
  case h_2 => cases h6
  rename_i e hd
  have hx : a.eval x = .int .i64 n := ev_ok hS h3
  have hy : a.eval y = .int .i64 m := ev_ok hS h5
  unfold makeSliceE at h6
  split at h6
  case h_2 => cases h6
  rename_i z hzc
  split at h6
  case isFalse => cases h6
  rename_i hck
  simp only [Bool.and_eq_true, decide_eq_true_eq] at hck
  obtain ⟨⟨⟨⟨⟨hpos, hzl⟩, h0⟩, hnm'⟩, h63⟩, hby⟩ := hck
  simp only [Option.map_eq_some_iff, Prod.mk.injEq] at h6
  obtain ⟨σ1, h7, rfl, rfl⟩ := h6
  have he := elemTI_slice hst hd het
  obtain ⟨i, hi, hs, hb, hz, hue, hu⟩ := elem_info hT hst (.inl hd) he
  rw [hd] at hu
  simp only [zeroC, Option.map_eq_some_iff] at hzc
  obtain ⟨zv, hzv, rfl⟩ := hzc
  have hzs : zv.cells.size = i.size := by simp at hzl; omega
  have hbytes : (i.bytes : Int) * m ≤ 281474976710656 := by
    have : ((m.toNat * et.bytes : Nat) : Int) ≤ 140737488355328 := by omega
    rw [Int.natCast_mul, Int.toNat_of_nonneg (by omega), ← hb, Int.mul_comm] at this
    omega
  have hrun := run_make (P := P) w t e i zv hu hi (by rw [hz, hzv]) .i64 .i64 n m h0 hnm' hbytes h63
  refine newRow_ok (by simp [makes, ho]) hN hnm hβ hS (arr := madeCells zv.cells (m.toNat * i.size)) (e := e) ?_ (by rw [madeCells, ← hzs]; exact zeros_ok zv (by omega) _) (by omega) h7
  unfold execOp
  simp [ho, hx, hy, hrun]

theorem op_makeMap (hN : N ≤ N') (hnm : nm < N') (hβ : β nm = none) (hS : SRel N β μ nt σ a w) {t : TypeId} (ho : o.op = .makeMap t none) (h : op P X fi nm o σ = some (v, σ')) : OpOk P fi N' nm β μ nt σ a w o v σ' := by
  simp only [op, ho, Option.some.injEq, Prod.mk.injEq] at h
  obtain ⟨rfl, rfl⟩ := h
  let p : Pl := ⟨w.heap.size, 0, 0, 0, 0⟩
  have hB : BRel (upd β nm p) p (.map [] 0) (w.alloc (.map #[] 0)) := ⟨rfl, #[], alloc_new w _, trivial⟩
  have hS' := hS.make (N' := N') (w' := w.alloc (.map #[] 0)) hN hnm hβ (p := p) (x1 := .map [] 0) (fun r hr _ => alloc_old w _ r hr)
    (fun b x q hb hq => by obtain ⟨q', g1, g2⟩ := hS.heap.blk b x hb; rw [hq, Option.some.injEq] at g1; subst g1; exact Nat.ne_of_lt g2.lt)
    (fun u ds hu he => by obtain ⟨r, g1, g2⟩ := hS.box u ds hu; rw [he, Option.some.injEq] at g1; subst g1; exact absurd g2.lt (Nat.lt_irrefl _)) hB
  refine ⟨_, .map (some w.heap.size), _, upd β nm p, μ, ?_, .inl rfl, ⟨p, upd_same β nm p, rfl⟩, hS', Step.make (same_alloc w _) hβ (Nat.le_refl _) (fun k hk => alloc_old w _ k hk), fun b hb => upd_other β p (hb.resolve_right (by simp [makes, ho])), fun _ _ => rfl, rfl⟩
  unfold execOp
  simp [ho, Instr.makeMap]
end ops
end E
end Go.Proofs.Ytibdplfdmncgiaa

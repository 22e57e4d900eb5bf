/-
  An abstract machine of this place's own: what it is told of the types. No condition.
-/
import Derived.Test.YtnfehccnofhmnaaE26
import Derived.Laws.StructEq
set_option linter.all false
namespace Go.Proofs.Ytnfehccnofhmnaa
open Go.RowKit
namespace E

/-- A type, if its zero has its cells. -/
def ttOf (P : Program) (t : TypeId) : Option TI :=
  match tiOf P t with
  | some ti => match ti.zero with
    | some z => cond (Nat.beq z.cells.size ti.size) (some ti) none
    | none => none
  | none => none

def flatFs (g : TypeId → Option (List CK)) : Nat → List Field → Option (List CK)
  | _, [] => some []
  | o, f :: fs => if f.name ≠ "_" ∧ f.offset = o then match g f.type with
      | some ks => match flatFs g (o + ks.length) fs with
        | some ls => some (ks ++ ls)
        | none => none
      | none => none
    else none

/-- A type whose values compare cell by cell. -/
def flatT (P : Program) : Nat → TypeId → Option (List CK)
  | 0, _ => none
  | d + 1, t => match tiOf P t with
    | some ti => match ti.desc with
      | .bool => some [.b]
      | .int _ => some [.i]
      | .string => some [.s]
      | .struct fs => if P.stoodInHeld t = false then match flatFs (flatT P d) 0 fs.toList with
          | some ks => if ks.length = ti.size then some ks else none
          | none => none
        else none
      | _ => none
    | none => none

def flatOf (P : Program) (t : TypeId) : Option (List CK) :=
  match P.underlying t with
  | some (.struct _) => if P.eqGuardType P.depth t = false then flatT P 20 t else none
  | _ => none

def ctxOf (P : Program) : Ctx := { tt := ttOf P, flat := flatOf P }

section
variable {P : Program}

theorem ttOk : TtOk P (ctxOf P) := fun t ti h => by
  have h : ttOf P t = some ti := h
  unfold ttOf at h
  split at h
  · rename_i ti' h1
    split at h
    · rename_i z hz
      cases hb : Nat.beq z.cells.size ti'.size with
      | false => rw [hb] at h; cases h
      | true =>
        rw [hb, cond_true, Option.some.injEq] at h
        subst h
        exact ⟨h1, z, hz, Nat.eq_of_beq_eq_true hb⟩
    · cases h
  · cases h

theorem tiOf_some {t : TypeId} {ti : TI} (h : tiOf P t = some ti) : ∃ i, P.info? t = some i ∧ i.size = ti.size ∧ P.underlying t = some ti.desc := by
  unfold tiOf at h
  split at h
  · rename_i i d h1 h2
    simp only [Option.some.injEq] at h
    subst h
    exact ⟨i, h1, rfl, h2⟩
  · cases h

theorem eqK_split : ∀ (ks ls : List CK) (xs ys : List C) {r : Bool}, eqK (ks ++ ls) xs ys = some r → ∃ a b, eqK ks (xs.take ks.length) (ys.take ks.length) = some a ∧ eqK ls (xs.drop ks.length) (ys.drop ks.length) = some b ∧ r = (a && b)
  | [], ls, xs, ys, r, h => ⟨true, r, by simp [eqK], by simpa using h, by simp⟩
  | k :: ks, ls, [], ys, r, h => by cases ys <;> simp [eqK] at h
  | k :: ks, ls, x :: xs, [], r, h => by simp [eqK] at h
  | k :: ks, ls, x :: xs, y :: ys, r, h => by
    rw [List.cons_append, eqK] at h
    split at h
    · rename_i a b h1 h2
      simp only [Option.some.injEq] at h
      obtain ⟨a', b', g1, g2, rfl⟩ := eqK_split ks ls xs ys h2
      refine ⟨a && a', b', ?_, by simpa using g2, by rw [← h, Bool.and_assoc]⟩
      simp only [List.length_cons, List.take_succ_cons, eqK, h1, g1]
    · cases h

theorem eqK_length : ∀ {ks : List CK} {xs ys : List C} {r : Bool}, eqK ks xs ys = some r → xs.length = ks.length ∧ ys.length = ks.length
  | [], [], [], _, _ => ⟨rfl, rfl⟩
  | k :: ks, x :: xs, y :: ys, r, h => by
    rw [eqK] at h
    split at h
    · rename_i a b h1 h2
      obtain ⟨g1, g2⟩ := eqK_length h2
      simp [g1, g2]
    · cases h
  | [], _ :: _, _, _, h => by simp [eqK] at h
  | [], [], _ :: _, _, h => by simp [eqK] at h
  | _ :: _, [], ys, _, h => by cases ys <;> simp [eqK] at h
  | _ :: _, _ :: _, [], _, h => by simp [eqK] at h

/-- A value's cells. -/
def cellsT : Bool → Value → List Value
  | true, .agg cs => cs.toList
  | true, _ => []
  | false, x => [x]

def Fit (agg : Bool) (x : Value) : Prop := agg = true → ∃ arr, x = .agg arr

def EqAt (P : Program) (e : Nat) (t : TypeId) (ks : List CK) (agg : Bool) : Prop :=
  ∀ x y r w, Fit agg x → Fit agg y → eqK ks ((cellsT agg x).map .lit) ((cellsT agg y).map .lit) = some r → (Op.equalIn e t x y).run P w = .ok r w

/-- A part of a value of cells. -/
theorem part_at {t : TypeId} {ti : TI} (ht : tiOf P t = some ti) {arr : Array Value} {o : Nat} (hle : o + sizeV ti ≤ arr.size) (w : World) :
    ∃ x, (part t arr o).run P w = .ok x w ∧ Fit (isAggD ti.desc) x ∧ cellsT (isAggD ti.desc) x = (arr.toList.drop o).take (sizeV ti) := by
  obtain ⟨i, hi, hs, hu⟩ := tiOf_some ht
  have hagg : (isAgg t).run P w = .ok (isAggD ti.desc) w := by
    unfold isAgg
    rw [Sem.run_bind, run_underlying hu w]
    cases ti.desc <;> rfl
  cases hd : isAggD ti.desc with
  | true =>
    rw [hd] at hagg
    have hsz : sizeV ti = ti.size := by simp [sizeV, hd]
    refine ⟨.agg (arr.extract o (o + i.size)), ?_, fun _ => ⟨_, rfl⟩, ?_⟩
    · simp [part, hagg, Go.sizeOf, typeInfo, hi]
    · rw [hs, ← hsz]
      simp [cellsT, List.extract_eq_take_drop, Array.toList_extract]
  | false =>
    rw [hd] at hagg
    have hsz : sizeV ti = 1 := by simp [sizeV, hd]
    have hlt : o < arr.size := by omega
    refine ⟨arr[o], ?_, (fun h => by cases h), ?_⟩
    · have hy' : arr[o]? = some arr[o] := by simp [hlt]
      simp [part, hagg, hy']
    · rw [hsz, List.take_one, List.head?_drop]
      simp [cellsT, hlt]

theorem eqFields_ok {g : TypeId → Option (List CK)} {e : Nat} (hg : ∀ t ks, g t = some ks → ∃ ti, tiOf P t = some ti ∧ ks.length = sizeV ti ∧ EqAt P e t ks (isAggD ti.desc)) : ∀ (fs : List Field) (o : Nat) (ks : List CK) (xs ys : Array Value) (r : Bool) (w : World), flatFs g o fs = some ks →
    o ≤ xs.size → o ≤ ys.size → eqK ks ((xs.toList.drop o).map .lit) ((ys.toList.drop o).map .lit) = some r → (Op.eqFields e xs ys fs).run P w = .ok r w
  | [], o, ks, xs, ys, r, w, h, _, _, he => by
    simp only [flatFs, Option.some.injEq] at h
    subst h
    have hr : r = true := by
      obtain ⟨h1, h2⟩ := eqK_length he
      rw [List.length_eq_zero_iff.1 h1, List.length_eq_zero_iff.1 h2] at he
      simpa [eqK] using he.symm
    subst hr
    simp [Op.eqFields]
  | f :: fs, o, ks, xs, ys, r, w, h, ho1, ho2, he => by
    rw [flatFs] at h
    split at h
    case isFalse => cases h
    rename_i hf
    split at h
    case h_2 => cases h
    rename_i k1 hk1
    split at h
    case h_2 => cases h
    rename_i ls hls
    simp only [Option.some.injEq] at h
    subst h
    obtain ⟨ti, hti, hlen, heq⟩ := hg _ _ hk1
    obtain ⟨l1, l2⟩ := eqK_length he
    simp only [List.length_map, List.length_drop, List.length_append, Array.length_toList] at l1 l2
    obtain ⟨a, b, g1, g2, rfl⟩ := eqK_split _ _ _ _ he
    obtain ⟨x, x1, x2, x3⟩ := part_at (P := P) hti (arr := xs) (o := o) (by omega) w
    obtain ⟨y, y1, y2, y3⟩ := part_at (P := P) hti (arr := ys) (o := o) (by omega) w
    have hrun := heq x y a w x2 y2 (by rw [x3, y3, ← hlen, List.map_take, List.map_take]; exact g1)
    have hrest := eqFields_ok hg fs (o + k1.length) ls xs ys b w hls (by omega) (by omega) (by rw [← List.map_drop, ← List.map_drop, List.drop_drop, List.drop_drop] at g2; exact g2)
    rw [Op.eqFields, if_pos hf.1, hf.2]
    simp only [Sem.run_bind, x1, y1, hrun, Result.andThen_ok, Sem.run_ite]
    cases a with
    | false => simp
    | true => simpa using hrest

theorem eqK1_bb {x y : Value} {a : Bool} (h : eqK1 .b (.lit x) (.lit y) = some a) : ∃ p q, x = .bool p ∧ y = .bool q ∧ (p == q) = a := by
  cases x <;> first | (simp [eqK1] at h; done) | skip
  cases y <;> first | (simp [eqK1] at h; done) | skip
  simp only [eqK1, Option.some.injEq] at h
  exact ⟨_, _, rfl, rfl, h⟩
theorem eqK1_ss {x y : Value} {a : Bool} (h : eqK1 .s (.lit x) (.lit y) = some a) : ∃ p q, x = .string p ∧ y = .string q ∧ strEq p q = a := by
  cases x <;> first | (simp [eqK1] at h; done) | skip
  cases y <;> first | (simp [eqK1] at h; done) | skip
  simp only [eqK1, Option.some.injEq] at h
  exact ⟨_, _, rfl, rfl, h⟩
theorem eqK1_ii {x y : Value} {a : Bool} (h : eqK1 .i (.lit x) (.lit y) = some a) : ∃ j p q, x = .int j p ∧ y = .int j q ∧ (p == q) = a := by
  cases x <;> first | (simp [eqK1] at h; done) | skip
  cases y <;> first | (simp [eqK1] at h; done) | skip
  simp only [eqK1] at h
  split at h
  · rename_i e
    subst e
    simp only [Option.some.injEq] at h
    exact ⟨_, _, _, rfl, rfl, h⟩
  · cases h

theorem eqK_one {k : CK} {x y : Value} {r : Bool} (h : eqK [k] [.lit x] [.lit y] = some r) : eqK1 k (.lit x) (.lit y) = some r := by
  rw [eqK] at h
  split at h
  · rename_i a b h1 h2
    simp only [eqK, Option.some.injEq] at h h2
    subst h2
    rw [h1, ← h, Bool.and_true]
  · cases h

theorem flat_ok : ∀ (d : Nat) (t : TypeId) (ks : List CK), flatT P d t = some ks → ∃ ti, tiOf P t = some ti ∧ ks.length = sizeV ti ∧ ∀ e, d ≤ e → EqAt P e t ks (isAggD ti.desc)
  | 0, t, ks, h => by cases h
  | d + 1, t, ks, h => by
    rw [flatT] at h
    cases hti : tiOf P t with
    | none => rw [hti] at h; cases h
    | some ti =>
      rw [hti] at h
      simp only at h
      obtain ⟨i, hi, hs, hu⟩ := tiOf_some hti
      refine ⟨ti, rfl, ?_⟩
      split at h
      · rename_i hd
        simp only [Option.some.injEq] at h
        subst h
        refine ⟨by simp [sizeV, hd, isAggD], fun e he x y r w _ _ hr => ?_⟩
        obtain ⟨e, rfl⟩ : ∃ e', e = e' + 1 := ⟨e - 1, by omega⟩
        rw [hd] at hr
        obtain ⟨p, q, rfl, rfl, h1⟩ := eqK1_bb (eqK_one hr)
        rw [run_equalIn_bool' w e t _ _ (by rw [hu, hd]), h1]
      · rename_i k hd
        simp only [Option.some.injEq] at h
        subst h
        refine ⟨by simp [sizeV, hd, isAggD], fun e he x y r w _ _ hr => ?_⟩
        obtain ⟨e, rfl⟩ : ∃ e', e = e' + 1 := ⟨e - 1, by omega⟩
        rw [hd] at hr
        obtain ⟨j, p, q, rfl, rfl, h1⟩ := eqK1_ii (eqK_one hr)
        rw [run_equalIn_int w e t _ k _ _ (by rw [hu, hd]), h1]
      · rename_i hd
        simp only [Option.some.injEq] at h
        subst h
        refine ⟨by simp [sizeV, hd, isAggD], fun e he x y r w _ _ hr => ?_⟩
        obtain ⟨e, rfl⟩ : ∃ e', e = e' + 1 := ⟨e - 1, by omega⟩
        rw [hd] at hr
        obtain ⟨p, q, rfl, rfl, h1⟩ := eqK1_ss (eqK_one hr)
        rw [run_equalIn_string w e t _ _ (by rw [hu, hd]), strEq_eq, h1]
      · rename_i fs hd
        split at h
        case isFalse => cases h
        rename_i hst
        split at h
        case h_2 => cases h
        rename_i ks' hks
        split at h
        case isFalse => cases h
        rename_i hlen
        simp only [Option.some.injEq] at h
        subst h
        have hagg : isAggD ti.desc = true := by rw [hd]; rfl
        refine ⟨by simp [sizeV, hagg, hlen], fun e he x y r w hx hy hr => ?_⟩
        obtain ⟨e, rfl⟩ : ∃ e', e = e' + 1 := ⟨e - 1, by omega⟩
        obtain ⟨xs, rfl⟩ := hx hagg
        obtain ⟨ys, rfl⟩ := hy hagg
        rw [hagg] at hr
        have hfo : P.fieldsOf t = fs := by simp [Program.fieldsOf, hu, hd]
        rw [run_equalIn_struct w e t xs ys (by rw [hu, hd, hfo]) hst, hfo]
        exact eqFields_ok (g := flatT P d) (fun t' ks' h' => by
          obtain ⟨ti', k1, k2, k3⟩ := flat_ok d t' ks' h'
          exact ⟨ti', k1, k2, k3 e (by omega)⟩) fs.toList 0 _ xs ys r w hks (Nat.zero_le _) (Nat.zero_le _) (by simpa [cellsT] using hr)
      · cases h

def keyFs (b : Bool) (n : Nat) (xs : Array Value) : List Field → Sem Unit
  | [] => pure ()
  | f :: fs =>
    if f.name ≠ "_" then do
      let a ← part f.type xs f.offset
      Instr.checkKey b n f.type a
      keyFs b n xs fs
    else keyFs b n xs fs

theorem run_key_struct (b : Bool) (n : Nat) (t : TypeId) (xs : Array Value) (w : World) (ht : P.underlying t = some (.struct (P.fieldsOf t))) :
    (Instr.checkKey b (n + 1) t (.agg xs)).run P w = (keyFs b n xs (P.fieldsOf t).toList).run P w := by
  simp only [Instr.checkKey, Sem.run_bind, run_underlying ht, Result.andThen_ok]
  rw [← Array.forIn_toList]
  generalize (P.fieldsOf t).toList = fs
  clear ht
  induction fs generalizing w with
  | nil => simp [keyFs]
  | cons f fs ih =>
    simp only [List.forIn_cons, keyFs, Sem.run_bind, Sem.run_ite]
    split
    · generalize (part f.type xs f.offset).run P w = r1
      cases r1 with
      | ok a w1 =>
        simp only [Result.andThen_ok]
        generalize (Instr.checkKey b n f.type a).run P w1 = r3
        cases r3 with
        | ok r w3 =>
          simp only [Result.andThen_ok, Sem.run_pure]
          exact ih w3
        | halt x w3 => simp [Result.andThen]
      | halt x w1 => simp [Result.andThen]
    · simp only [Sem.run_pure, Result.andThen_ok]
      exact ih w

theorem keyFs_ok {b : Bool} {n : Nat} {g : TypeId → Option (List CK)} (hg : ∀ t ks, g t = some ks → ∃ ti, tiOf P t = some ti ∧ ks.length = sizeV ti ∧ ∀ x w, Fit (isAggD ti.desc) x → (cellsT (isAggD ti.desc) x).length = ks.length → (Instr.checkKey b n t x).run P w = .ok () w) : ∀ (fs : List Field) (o : Nat) (ks : List CK) (xs : Array Value) (w : World), flatFs g o fs = some ks →
    o ≤ xs.size → xs.size - o = ks.length → (keyFs b n xs fs).run P w = .ok () w
  | [], o, ks, xs, w, _, _, _ => by simp [keyFs]
  | f :: fs, o, ks, xs, w, h, ho, hl => by
    rw [flatFs] at h
    split at h
    case isFalse => cases h
    rename_i hf
    split at h
    case h_2 => cases h
    rename_i k1 hk1
    split at h
    case h_2 => cases h
    rename_i ls hls
    simp only [Option.some.injEq] at h
    subst h
    rw [List.length_append] at hl
    obtain ⟨ti, hti, hlen, hck⟩ := hg _ _ hk1
    obtain ⟨x, x1, x2, x3⟩ := part_at (P := P) hti (arr := xs) (o := o) (by omega) w
    have hrun := hck x w x2 (by rw [x3]; simp; omega)
    have hrest := keyFs_ok hg fs (o + k1.length) ls xs w hls (by omega) (by omega)
    rw [keyFs, if_pos hf.1, hf.2]
    simp only [Sem.run_bind, x1, hrun, Result.andThen_ok, hrest]

theorem key_ok (b : Bool) : ∀ (d : Nat) (t : TypeId) (ks : List CK), flatT P d t = some ks → ∃ ti, tiOf P t = some ti ∧ ks.length = sizeV ti ∧ ∀ e, d ≤ e → ∀ x w, Fit (isAggD ti.desc) x → (cellsT (isAggD ti.desc) x).length = ks.length → (Instr.checkKey b e t x).run P w = .ok () w
  | 0, t, ks, h => by cases h
  | d + 1, t, ks, h => by
    obtain ⟨ti, hti, hlen, _⟩ := flat_ok (d + 1) t ks h
    refine ⟨ti, hti, hlen, fun e he x w hx hl => ?_⟩
    obtain ⟨e, rfl⟩ : ∃ e', e = e' + 1 := ⟨e - 1, by omega⟩
    obtain ⟨i, hi, hs, hu⟩ := tiOf_some hti
    rw [flatT, hti] at h
    simp only at h
    split at h
    · rename_i hd
      simp [Instr.checkKey, run_underlying hu, hd]
    · rename_i hd
      simp [Instr.checkKey, run_underlying hu, hd]
    · rename_i hd
      simp [Instr.checkKey, run_underlying hu, hd]
    · rename_i fs hd
      split at h
      case isFalse => cases h
      split at h
      case h_2 => cases h
      rename_i ks' hks
      split at h
      case isFalse => cases h
      simp only [Option.some.injEq] at h
      subst h
      have hagg : isAggD ti.desc = true := by rw [hd]; rfl
      obtain ⟨xs, rfl⟩ := hx hagg
      have hfo : P.fieldsOf t = fs := by simp [Program.fieldsOf, hu, hd]
      rw [run_key_struct b e t xs w (by rw [hu, hd, hfo]), hfo]
      rw [hagg] at hl
      exact keyFs_ok (g := flatT P d) (fun t' ks' h' => by
        obtain ⟨ti', k1, k2, k3⟩ := key_ok b d t' ks' h'
        exact ⟨ti', k1, k2, k3 e (by omega)⟩) fs.toList 0 _ xs w hks (Nat.zero_le _) (by simpa [cellsT] using hl)
    · cases h

/-! ### Tables -/
theorem leaf {n k : Nat} {F fn : Fn} (h : cond (Nat.beq n k) (some F) none = some fn) (hk : FnOk P k F) : FnOk P n fn := by
  cases hb : Nat.beq n k with
  | false => rw [hb] at h; cases h
  | true =>
    rw [hb, cond_true, Option.some.injEq] at h
    subst h
    rw [Nat.eq_of_beq_eq_true hb]
    exact hk

theorem node {b : Bool} {x y : Option Fn} {fn : Fn} {R : Prop} (h : cond b x y = some fn) (hx : x = some fn → R) (hy : y = some fn → R) : R := by
  cases b
  · exact hy h
  · exact hx h

theorem flatOk : FlatOk P (ctxOf P) := fun t ks h => by
  have h : flatOf P t = some ks := h
  unfold flatOf at h
  split at h
  case h_2 => cases h
  rename_i fs hu
  split at h
  case isFalse => cases h
  rename_i hg
  refine ⟨hg, fun xs ys r he w => ?_⟩
  obtain ⟨ti, h1, h2, h3⟩ := flat_ok 20 t ks h
  obtain ⟨i, hi, hs, hu'⟩ := tiOf_some h1
  rw [hu, Option.some.injEq] at hu'
  have hagg : isAggD ti.desc = true := by rw [← hu']; rfl
  rw [hagg] at h3
  refine ⟨h3 10000 (by omega) _ _ r w (fun _ => ⟨_, rfl⟩) (fun _ => ⟨_, rfl⟩) he, fun b => ?_⟩
  obtain ⟨ti', k1, k2, k3⟩ := key_ok b 20 t ks h
  rw [h1, Option.some.injEq] at k1
  subst k1
  refine k3 10000 (by omega) _ w (fun _ => ⟨_, rfl⟩) ?_
  rw [hagg]
  have := (eqK_length he).1
  simpa [cellsT] using this
end
end E
end Go.Proofs.Ytnfehccnofhmnaa

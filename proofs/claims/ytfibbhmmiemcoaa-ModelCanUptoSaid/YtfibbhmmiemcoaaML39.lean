/-
  The arguments of the statement, opened: a letter, an exchange. No condition.
-/
import Derived.Test.YtfibbhmmiemcoaaML38
import Derived.ProofKit
import Derived.Deep.Slices
import Derived.Lib.SmallJoins
set_option linter.all false
namespace Go.Proofs.Ytfibbhmmiemcoaa
open Go.ChangeShapes Go.WideShapes Go.ChangeAt Go.RowKit Go.Deep

theorem cells_int : Try.prog.cellsOf 3 = 1 := by kernel_rfl
theorem cells_u64 : Try.prog.cellsOf 22 = 1 := by kernel_rfl
theorem cells_str : Try.prog.cellsOf 9 = 1 := by kernel_rfl
theorem cells_bool : Try.prog.cellsOf 4 = 1 := by kernel_rfl
theorem cells_letter : Try.prog.cellsOf 24 = 5 := by kernel_rfl
theorem cells_state : Try.prog.cellsOf 26 = 9 := by kernel_rfl
theorem cells_states : Try.prog.cellsOf 27 = 18 := by kernel_rfl
theorem cells_verdict : Try.prog.cellsOf 29 = 3 := by kernel_rfl
theorem cells_bools : Try.prog.cellsOf 30 = 2 := by kernel_rfl
theorem cells_letters : Try.prog.cellsOf 31 = 1 := by kernel_rfl
theorem cells_ex : Try.prog.cellsOf 33 = 26 := by kernel_rfl

section
variable {H : Type} {enc : TypeId × Value → H} {w : World} {base : Nat} {spare : Nat → Bool} {held : Bool}

set_option maxRecDepth 100000 in
theorem open_letter {fuel : Nat} {cs : List Value} {x : DataW H × List MemPlace} (h : DataW.trod enc Try.prog w base spare held fuel 24 cs = some x) : ∃ l : Lt, cs = l.cs := by
  obtain ⟨xs, n, _, hx, hl, hlen, hf⟩ := DataW.trod_struct Try.underlying24 h
  have hl5 : cs.length = 5 := hl.trans cells_letter
  match cs, hl5, xs, hlen with
  | [c0, c1, c2, c3, c4], _, [y0, y1, y2, y3, y4], _ =>
    have g0 := hf 0 _ rfl
    have g1 := hf 1 _ rfl
    have g2 := hf 2 _ rfl
    have g3 := hf 3 _ rfl
    have g4 := hf 4 _ rfl
    simp [cells_int, cells_u64, cells_str, cells_bool] at g0 g1 g2 g3 g4
    obtain ⟨k, e0, rfl, _⟩ := DataW.trod_int Try.underlying3 g0
    obtain ⟨f, e1, rfl, _⟩ := DataW.trod_int Try.underlying3 g1
    obtain ⟨c, e2, rfl, _⟩ := DataW.trod_int Try.underlying22 g2
    obtain ⟨t, e3, rfl, _⟩ := DataW.trod_string Try.underlying9 g3
    obtain ⟨b, e4, rfl⟩ := DataW.trod_bool Try.underlying4 g4
    simp only [List.cons.injEq, and_true] at e0 e1 e2 e3 e4
    subst e0 e1 e2 e3 e4
    exact ⟨⟨k, f, c, t, b⟩, rfl⟩

set_option maxRecDepth 100000 in
theorem open_state {fuel : Nat} {cs : List Value} {x : DataW H × List MemPlace} (h : DataW.trod enc Try.prog w base spare held fuel 26 cs = some x) : ∃ s : St, cs = s.cs := by
  obtain ⟨xs, n, _, hx, hl, hlen, hf⟩ := DataW.trod_struct Try.underlying26 h
  have hl9 : cs.length = 9 := hl.trans cells_state
  match cs, hl9, xs, hlen with
  | [c0, c1, c2, c3, c4, c5, c6, c7, c8], _, [y0, y1, y2, y3, y4], _ =>
    have g0 := hf 0 _ rfl
    have g1 := hf 1 _ rfl
    have g2 := hf 2 _ rfl
    have g3 := hf 3 _ rfl
    have g4 := hf 4 _ rfl
    simp [cells_int, cells_u64, cells_str, cells_bool, cells_letter] at g0 g1 g2 g3 g4
    obtain ⟨k, e0, rfl, _⟩ := DataW.trod_int Try.underlying3 g0
    obtain ⟨c, e1, rfl, _⟩ := DataW.trod_int Try.underlying22 g1
    obtain ⟨t, e2, rfl, _⟩ := DataW.trod_string Try.underlying9 g2
    obtain ⟨f, e3, rfl, _⟩ := DataW.trod_int Try.underlying3 g3
    obtain ⟨l, e4⟩ := open_letter g4
    simp only [List.cons.injEq, and_true, Lt.cs] at e0 e1 e2 e3 e4
    obtain ⟨e5, e6, e7, e8, e9⟩ := e4
    subst e0 e1 e2 e3 e5 e6 e7 e8 e9
    exact ⟨⟨k, c, t, f, l⟩, rfl⟩

set_option maxRecDepth 100000 in
theorem open_verdict {fuel : Nat} {cs : List Value} {x : DataW H × List MemPlace} (h : DataW.trod enc Try.prog w base spare held fuel 29 cs = some x) : ∃ v : Vd, cs = [.int .u64 v.c, .int .i64 v.k, .string v.t] := by
  obtain ⟨xs, n, _, hx, hl, hlen, hf⟩ := DataW.trod_struct Try.underlying29 h
  have hl3 : cs.length = 3 := hl.trans cells_verdict
  match cs, hl3, xs, hlen with
  | [c0, c1, c2], _, [y0, y1, y2], _ =>
    have g0 := hf 0 _ rfl
    have g1 := hf 1 _ rfl
    have g2 := hf 2 _ rfl
    simp [cells_int, cells_u64, cells_str] at g0 g1 g2
    obtain ⟨c, e0, rfl, _⟩ := DataW.trod_int Try.underlying22 g0
    obtain ⟨k, e1, rfl, _⟩ := DataW.trod_int Try.underlying3 g1
    obtain ⟨t, e2, rfl, _⟩ := DataW.trod_string Try.underlying9 g2
    simp only [List.cons.injEq, and_true] at e0 e1 e2
    subst e0 e1 e2
    exact ⟨⟨c, k, t⟩, rfl⟩

/-- An array of two. -/
theorem trod_arr2 {P : Program} {t e : TypeId} {fuel k : Nat} {cs : List Value} {x : DataW H × List MemPlace} (ht : P.underlying t = some (.array 2 e)) (hk : P.cellsOf e = k)
    (h : DataW.trod enc P w base spare held fuel t cs = some x) : ∃ y0 y1 n, DataW.trod enc P w base spare held n e (cs.take k) = some y0 ∧ DataW.trod enc P w base spare held n e ((cs.drop k).take k) = some y1 := by
  cases fuel with
  | zero => simp [DataW.trod] at h
  | succ n =>
    unfold DataW.trod at h
    rw [ht] at h
    have r2 : List.range 2 = [0, 1] := rfl
    simp only [r2, hk] at h
    split at h
    · cases h0 : DataW.trod enc P w base spare held n e (cs.take k) with
      | none => simp [h0] at h
      | some y0 =>
        cases h1 : DataW.trod enc P w base spare held n e ((cs.drop k).take k) with
        | none => simp [h0, h1] at h
        | some y1 => exact ⟨y0, y1, n, h0, h1⟩
    · cases h

theorem flat_at5 {L : List Lt} {j : Nat} {u : Value} (h : (L.flatMap Lt.cs)[j]? = some u) : ∃ x, L[j / 5]? = some x ∧ x.cs[j % 5]? = some u := by
  have hlen := lt_len5 L
  have hj : j < L.length * 5 := by rw [← hlen]; exact (List.getElem?_eq_some_iff.1 h).1
  have hk : j / 5 < L.length := by omega
  refine ⟨_, List.getElem?_eq_getElem hk, ?_⟩
  have := flat_get Lt.cs 5 (fun _ => rfl) L (j / 5) _ (List.getElem?_eq_getElem hk) (j % 5) (by omega)
  rw [show j / 5 * 5 + j % 5 = j by omega, h] at this
  exact this.symm

theorem open_letters {fuel : Nat} {cs : List Value} {x : DataW H × List MemPlace} (h : DataW.trod enc Try.prog w base spare held fuel 31 cs = some x) :
    ∃ (v : Value) (L : List Lt), cs = [v] ∧ Row w 5 v L.length (L.flatMap Lt.cs) ∧ (v = .slice none 0 0 ∨ ∃ a n c, v = .slice (some a) n c) := by
  rcases open_slice Try.underlying31 h with ⟨h1, h2⟩ | ⟨a, len, cap, m, n, D, Pl, h1, _, h3, h4, hm, h5, h6⟩
  · exact ⟨_, [], h1, ⟨rfl, .inl ⟨rfl, none, 0, rfl⟩⟩, .inl rfl⟩
  · have hlm : len ≤ m := by rw [hm]; split <;> omega
    have key : ∀ i, i < len → ∃ e : Lt, ∀ j u, e.cs[j]? = some u → w.cell? ((a.add (i * 5)).add j) = some u := fun i hi => by
      obtain ⟨cs', hc, ht⟩ := h6 i (by omega)
      rw [cells_letter] at hc
      obtain ⟨e, rfl⟩ := open_letter ht
      obtain ⟨_, hlen, hcell⟩ := World.cells?_some hc
      refine ⟨e, fun j u hj => ?_⟩
      have : j < 5 := by have := (List.getElem?_eq_some_iff.1 hj).1; simpa [Lt.cs] using this
      rw [hcell j this]; exact hj
    have hE : ∃ E : Nat → Lt, ∀ i, i < len → ∀ j u, (E i).cs[j]? = some u → w.cell? ((a.add (i * 5)).add j) = some u :=
      ⟨fun i => if hi : i < len then (key i hi).choose else l0, fun i hi => by simp only [hi, dif_pos]; exact (key i hi).choose_spec⟩
    obtain ⟨E, hE⟩ := hE
    refine ⟨_, (List.range len).map E, h1, ?_, .inr ⟨_, _, _, rfl⟩⟩
    have hln : ((List.range len).map E).length = len := by simp
    rw [hln]
    refine ⟨by rw [lt_len5, hln], ?_⟩
    by_cases h0 : len = 0
    · exact .inl ⟨h0, _, _, by rw [h0]⟩
    · obtain ⟨b, off, spot⟩ := a
      have hs : spot = none := by
        have := hE 0 (by omega) 0 _ rfl
        simpa [Addr.add] using World.cell?_spot this
      subst hs
      refine .inr ⟨b, off, cap, rfl, by omega, fun j u hj => ?_⟩
      obtain ⟨e, he, hu⟩ := flat_at5 hj
      have hk : j / 5 < len := by have := (List.getElem?_eq_some_iff.1 he).1; simpa using this
      rw [List.getElem?_map, List.getElem?_range hk] at he
      simp only [Option.map_some, Option.some.injEq] at he
      subst he
      have := hE (j / 5) hk _ u hu
      rw [Go.WideShapes.add_plain, Go.WideShapes.add_plain, Nat.add_assoc, show j / 5 * 5 + j % 5 = j by omega] at this
      exact this

set_option maxRecDepth 100000 in
theorem open_ex {fuel : Nat} {cs : List Value} {x : DataW H × List MemPlace} (h : DataW.trod enc Try.prog w base spare held fuel 33 cs = some x) :
    ∃ (e : Ex) (v : Value), cs = (e.arr v).toList ∧ Hrd w e v ∧ (v = .slice none 0 0 ∨ ∃ a n c, v = .slice (some a) n c) := by
  obtain ⟨xs, n, _, hx, hl, hlen, hf⟩ := DataW.trod_struct Try.underlying33 h
  have hl26 : cs.length = 26 := hl.trans cells_ex
  match cs, hl26, xs, hlen with
  | [c0, c1, c2, c3, c4, c5, c6, c7, c8, c9, c10, c11, c12, c13, c14, c15, c16, c17, c18, c19, c20, c21, c22, c23, c24, c25], _, [y0, y1, y2, y3, y4, y5], _ =>
    have g0 := hf 0 _ rfl
    have g1 := hf 1 _ rfl
    have g2 := hf 2 _ rfl
    have g3 := hf 3 _ rfl
    have g4 := hf 4 _ rfl
    have g5 := hf 5 _ rfl
    simp [cells_u64, cells_bool, cells_states, cells_verdict, cells_bools, cells_letters] at g0 g1 g2 g3 g4 g5
    obtain ⟨c, e0, rfl, _⟩ := DataW.trod_int Try.underlying22 g0
    obtain ⟨z0, z1, n1, s0, s1⟩ := trod_arr2 Try.underlying27 cells_state g1
    simp at s0 s1
    obtain ⟨a0, q0⟩ := open_state s0
    obtain ⟨a1, q1⟩ := open_state s1
    obtain ⟨vd, q2⟩ := open_verdict g2
    obtain ⟨z2, z3, n2, t0, t1⟩ := trod_arr2 Try.underlying30 cells_bool g3
    simp at t0 t1
    obtain ⟨b0, q3, _⟩ := DataW.trod_bool Try.underlying4 t0
    obtain ⟨b1, q4, _⟩ := DataW.trod_bool Try.underlying4 t1
    obtain ⟨fu, q5, _⟩ := DataW.trod_bool Try.underlying4 g4
    obtain ⟨v, L, q6, hR, hv⟩ := open_letters g5
    simp only [List.cons.injEq, and_true, St.cs] at e0 q0 q1 q2 q3 q4 q5 q6
    obtain ⟨u1, u2, u3, u4, u5, u6, u7, u8, u9⟩ := q0
    obtain ⟨r1, r2, r3, r4, r5, r6, r7, r8, r9⟩ := q1
    obtain ⟨p1, p2, p3⟩ := q2
    subst e0 u1 u2 u3 u4 u5 u6 u7 u8 u9 r1 r2 r3 r4 r5 r6 r7 r8 r9 p1 p2 p3 q3 q4 q5 q6
    exact ⟨⟨c, a0, a1, vd, b0, b1, fu, L⟩, c25, rfl, hR, hv⟩
end
end Go.Proofs.Ytfibbhmmiemcoaa

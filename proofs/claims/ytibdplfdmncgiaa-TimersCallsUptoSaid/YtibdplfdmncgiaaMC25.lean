/-
  The arguments of the statement, opened: an act; a slice of acts. No condition.
-/
import Derived.Test.YtibdplfdmncgiaaMC24
import Derived.ProofKit
import Derived.Deep.Slices
import Derived.Lib.SmallJoins
set_option linter.all false
namespace Go.Proofs.Ytibdplfdmncgiaa
open Go.ChangeShapes Go.WideShapes Go.ChangeAt Go.RowKit Go.Deep

theorem cells_int : Try.prog.cellsOf 3 = 1 := by kernel_rfl
theorem cells_i64 : Try.prog.cellsOf 2 = 1 := by kernel_rfl
theorem cells_str : Try.prog.cellsOf 9 = 1 := by kernel_rfl
theorem cells_act : Try.prog.cellsOf 59 = 4 := by kernel_rfl

section
variable {H : Type} {enc : TypeId × Value → H} {w : World} {base : Nat} {spare : Nat → Bool} {held : Bool}

def Ac.data (m : Ac) : DataW H := .agg [.lit (.int .i64 m.k), .lit (.int .i64 m.a), .lit (.int .i64 m.id), .lit (.string m.v.data.toList)]

set_option maxRecDepth 100000 in
theorem open_act {fuel : Nat} {cs : List Value} {x : DataW H × List MemPlace} (h : DataW.trod enc Try.prog w base spare held fuel 59 cs = some x) : ∃ l : Ac, cs = l.cs ∧ x = (l.data, []) := by
  obtain ⟨xs, n, _, hx, hl, hlen, hf⟩ := DataW.trod_struct Try.underlying59 h
  have hl4 : cs.length = 4 := hl.trans cells_act
  match cs, hl4, xs, hlen with
  | [c0, c1, c2, c3], _, [y0, y1, y2, y3], _ =>
    have g0 := hf 0 _ rfl
    have g1 := hf 1 _ rfl
    have g2 := hf 2 _ rfl
    have g3 := hf 3 _ rfl
    simp [cells_int, cells_i64, cells_str] at g0 g1 g2 g3
    obtain ⟨k, e0, rfl, _⟩ := DataW.trod_int Try.underlying3 g0
    obtain ⟨f, e1, rfl, _⟩ := DataW.trod_int Try.underlying2 g1
    obtain ⟨c, e2, rfl, _⟩ := DataW.trod_int Try.underlying3 g2
    obtain ⟨t, e3, rfl, _⟩ := DataW.trod_string Try.underlying9 g3
    simp only [List.cons.injEq, and_true] at e0 e1 e2 e3
    subst e0 e1 e2 e3
    exact ⟨⟨k, f, c, t⟩, rfl, by rw [hx]; rfl⟩

/-- What a slice of acts reads as. -/
def acsData (L : List Ac) (sp : List (DataW H)) : Bool → DataW H
  | true => .nil
  | false => .slice (L.map Ac.data) sp

theorem Ac.cs_len (e : Ac) : e.cs.length = 4 := rfl

theorem flat_len : ∀ L : List Ac, (L.flatMap Ac.cs).length = L.length * 4
  | [] => rfl
  | y :: L => by rw [List.flatMap_cons, List.length_append, flat_len L, Ac.cs_len, List.length_cons]; omega

theorem flat_at {L : List Ac} {j : Nat} {u : Value} (h : (L.flatMap Ac.cs)[j]? = some u) : ∃ x, L[j / 4]? = some x ∧ x.cs[j % 4]? = some u := by
  have hlen := flat_len L
  have hj : j < L.length * 4 := by rw [← hlen]; exact (List.getElem?_eq_some_iff.1 h).1
  have hk : j / 4 < L.length := by omega
  refine ⟨_, List.getElem?_eq_getElem hk, ?_⟩
  have := flat_get Ac.cs 4 (fun _ => rfl) L (j / 4) _ (List.getElem?_eq_getElem hk) (j % 4) (by omega)
  rw [show j / 4 * 4 + j % 4 = j by omega, h] at this
  exact this.symm

theorem open_acts {fuel : Nat} {cs : List Value} {x : DataW H × List MemPlace} (h : DataW.trod enc Try.prog w base spare held fuel 49 cs = some x) :
    ∃ (v : Value) (L : List Ac) (sp : List (DataW H)) (b : Bool), cs = [v] ∧ x.1 = acsData L sp b ∧ (b = true → L = []) ∧ Row w 4 v L.length (L.flatMap Ac.cs) := by
  rcases open_slice Try.underlying49 h with ⟨h1, h2⟩ | ⟨a, len, cap, m, n, D, Pl, h1, _, h3, h4, hm, h5, h6⟩
  · exact ⟨_, [], [], true, h1, by rw [h2]; rfl, fun _ => rfl, rfl, .inl ⟨rfl, none, 0, rfl⟩⟩
  · have hlm : len ≤ m := by rw [hm]; split <;> omega
    have key : ∀ i, i < len → ∃ e : Ac, D i = e.data ∧ ∀ j u, e.cs[j]? = some u → w.cell? ((a.add (i * 4)).add j) = some u := fun i hi => by
      obtain ⟨cs', hc, ht⟩ := h6 i (by omega)
      rw [cells_act] at hc
      obtain ⟨e, rfl, he⟩ := open_act ht
      obtain ⟨_, hlen, hcell⟩ := World.cells?_some hc
      simp only [Prod.mk.injEq] at he
      refine ⟨e, he.1, fun j u hj => ?_⟩
      have : j < 4 := by have := (List.getElem?_eq_some_iff.1 hj).1; simpa [Ac.cs] using this
      rw [hcell j this]; exact hj
    have hE : ∃ E : Nat → Ac, ∀ i, i < len → D i = (E i).data ∧ ∀ j u, (E i).cs[j]? = some u → w.cell? ((a.add (i * 4)).add j) = some u :=
      ⟨fun i => if hi : i < len then (key i hi).choose else ⟨0, 0, 0, { data := #[] }⟩, fun i hi => by simp only [hi, dif_pos]; exact (key i hi).choose_spec⟩
    obtain ⟨E, hE⟩ := hE
    refine ⟨_, (List.range len).map E, (List.range (m - len)).map fun j => D (len + j), false, h1, ?_, by simp, ?_⟩
    · rw [h5]
      simp only [acsData, List.map_map]
      congr 1
      exact List.map_congr_left fun i hi => (hE i (by simpa using hi)).1
    · have hln : ((List.range len).map E).length = len := by simp
      rw [hln]
      refine ⟨by rw [flat_len, hln], ?_⟩
      by_cases h0 : len = 0
      · exact .inl ⟨h0, _, _, by rw [h0]⟩
      · obtain ⟨b, off, spot⟩ := a
        have hs : spot = none := by
          have := (hE 0 (by omega)).2 0 _ rfl
          simpa [Addr.add] using World.cell?_spot this
        subst hs
        refine .inr ⟨b, off, cap, rfl, by omega, fun j u hj => ?_⟩
        obtain ⟨e, he, hu⟩ := flat_at hj
        have hk : j / 4 < len := by have := (List.getElem?_eq_some_iff.1 he).1; simpa using this
        rw [List.getElem?_map, List.getElem?_range hk] at he
        simp only [Option.map_some, Option.some.injEq] at he
        subst he
        have := (hE (j / 4) hk).2 _ u hu
        rw [Go.WideShapes.add_plain, Go.WideShapes.add_plain, Nat.add_assoc, show j / 4 * 4 + j % 4 = j by omega] at this
        exact this
end
end Go.Proofs.Ytibdplfdmncgiaa

/-
  The arguments of the laws: rows of numbers, opened; they read as they did behind a call that extends the world. No condition.
-/
import Derived.Test.YtibdplfdmncgiaaTL
import Derived.ChangeSlices
set_option linter.all false
namespace Go.Proofs.Ytibdplfdmncgiaa
open Go.ChangeShapes Go.WideShapes Go.ChangeAt Go.RowKit Go.Deep

section
variable {H : Type} {enc : TypeId × Value → H} {P : Program} {w : World} {base : Nat} {spare : Nat → Bool} {held : Bool}
theorem shut_bool {W : World} {b0 : Nat} {sp : Nat → Bool} {t : TypeId} (ht : P.underlying t = some .bool) (b : Bool) : DataW.Trod enc P W b0 sp held t (.bool b) (.lit (.bool b)) [] := ⟨1, by simp [DataW.trod, Value.cells, ht]⟩

theorem trod_ext {t : TypeId} (hl : laidOutB P = true) (hr : P.readableRec t = true) (hrow : t < P.types.size) {W W' : World} {sp : Nat → Bool} {v : Value} {d : DataW H} {ps : List MemPlace}
    (h : DataW.Trod enc P W 0 (fun _ => true) true t v d ps) (hb : Ext W W') (hlt : ∀ x ∈ ps, x.block < W.heap.size) (hs : ∀ p ∈ ps, sp p.block = true) : DataW.Trod enc P W' 0 sp true t v d ps :=
  WideElems.Trod_stays hl hr hrow h (fun x hx => Below.same hb (hlt x hx)) hs

theorem open_row {t e : TypeId} (ht : P.underlying t = some (.slice e)) (he : P.underlying e = some (.int .i64)) (hc : P.cellsOf e = 1) {fuel : Nat} {cs : List Value} {x : DataW H × List MemPlace}
    (h : DataW.trod enc P w base spare held fuel t cs = some x) : ∃ (v : Value) (L : List Int), cs = [v] ∧ Row w 1 v L.length (intCs L) ∧ ∀ z ∈ L, (Lit.int .i64 z).wf = true := by
  rcases open_ints ht he hc h with ⟨h1, h2⟩ | ⟨a, len, cap, zs, h1, _, h3, h4, hm, h5, h6, h7⟩
  · exact ⟨_, [], h1, ⟨rfl, .inl ⟨rfl, none, 0, rfl⟩⟩, fun z hz => (by cases hz)⟩
  · have hlm : len ≤ zs.length := by rw [hm]; split <;> omega
    have hln : (zs.take len).length = len := by rw [List.length_take]; omega
    refine ⟨_, zs.take len, h1, ⟨by simp [intCs], ?_⟩, fun z hz => h7 z (List.mem_of_mem_take hz)⟩
    rw [hln]
    by_cases h0 : len = 0
    · exact .inl ⟨h0, _, _, by rw [h0]⟩
    · obtain ⟨b, off, spot⟩ := a
      have hs : spot = none := by
        have := h6 0 (by omega)
        simpa [Addr.add] using World.cell?_spot this
      subst hs
      refine .inr ⟨b, off, cap, rfl, by omega, fun j u hj => ?_⟩
      have hj1 : j < len := by
        have := (List.getElem?_eq_some_iff.1 hj).1
        rw [intCs, List.length_map, hln] at this
        exact this
      have := h6 j (by omega)
      rw [Go.WideShapes.add_plain] at this
      rw [this]
      unfold intCs at hj
      rw [List.getElem?_map, List.getElem?_take_of_lt hj1, List.getElem?_eq_getElem (by omega)] at hj
      simp only [Option.map_some, Option.some.injEq] at hj
      rw [← hj, List.getD_eq_getElem?_getD, List.getElem?_eq_getElem (by omega)]
      rfl
end
end Go.Proofs.Ytibdplfdmncgiaa

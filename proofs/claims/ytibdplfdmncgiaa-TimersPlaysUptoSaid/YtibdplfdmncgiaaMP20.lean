/-
  Walk: the law TimersPlays. No condition.
-/
import Derived.Test.YtibdplfdmncgiaaMP19
import Derived.ProofKit
import Derived.Deep.Slices
import Derived.Lib.SmallJoins
set_option linter.all false
namespace Go.Proofs.Ytibdplfdmncgiaa
open Go.RowKit
attribute [local go_sem] ExtOf.cell ExtOf.frozen ExtOf.lt ExtOf.le
attribute [local go_sem high] ExtOf.cell2 ExtOf.frozen2 ExtOf.lt2 ExtOf.cell3 ExtOf.frozen3 ExtOf.lt3

/-- Both wheels in a world of the law's, all of them new since its first. -/
structure PlayAt (p : At) (b B : Nat) (k : Nat) (w0 w : World) : Prop where
  ex : ∃ v W u R, Both p v W b B u R w ∧ Agree W R ∧ Small W k ∧ OrdOk W ∧ (∀ g ∈ p.all v ++ b :: rowB u, w0.heap.size ≤ g)
  ext : Ext w0 w

theorem all_rows {p : At} {v v' : Value} {n m : Nat} (h : ∀ g ∈ p.all v, n ≤ g) (hm : n ≤ m) (hr : ∀ g ∈ rowB v', g ∈ rowB v ∨ m ≤ g) : ∀ g ∈ p.all v', n ≤ g := fun g hg => by
  simp only [At.all, List.mem_cons] at hg h
  rcases hg with e | e | e | e
  · exact h g (.inl e)
  · exact h g (.inr (.inl e))
  · exact h g (.inr (.inr (.inl e)))
  · rcases hr g e with e | e
    · exact h g (.inr (.inr (.inr e)))
    · omega

set_option maxRecDepth 100000 in
set_option maxHeartbeats 8000000 in
theorem plays_any (v : Value) (L : List Ac) (w : World) (hR : Row w 4 v L.length (L.flatMap Ac.cs)) : Calls Try.prog 6 #[v] w fun e w' => e = .returned (.bool true) ∧ Ext w w' := by
  obtain ⟨a, cap, rfl, hm, hvw⟩ := row_view hR
  have HV := Lib.hid hvw
  have HR := Lib.hid hR
  clear hvw hR
  unfold maxLen at hm
  go_enter Try.func6, Try.ntmps6
  go_wp2_with fail
  refine (ac_long _ L _ HR.out).mono ?_
  rintro e w1 ⟨lb, rfl, hb, hx1⟩
  rcases lb
  case true =>
    have HX1 := Lib.hid hx1
    clear hx1 hb
    go_wp2_with fail
    refine (live_any _).mono ?_
    rintro e w9 ⟨rfl, hx9⟩
    go_wp2_with fail
    go_ret
    exact ⟨rfl, HX1.out.trans hx9⟩
  have hL80 := hb rfl
  clear hb
  have HX1 := Lib.hid hx1
  clear hx1
  go_wp2_with fail
  refine (new_string _).mono ?_
  rintro e w2 ⟨p, hc, rfl, hW2, hx2, hM2, hB2⟩
  have HC := Lib.hid hc
  have HW2 := Lib.hid hW2
  have HX2 := Lib.hid (HX1.out.trans hx2)
  have HM := Lib.hid (Nat.le_trans HX1.out.size hM2)
  clear hW2 hx2 hM2 hc
  go_wp2_with fail
  have hP0 : PlayAt p w2.heap.size (w2.heap.size + 1) 0 w (w2.alloc (.cells #[.int .i64 0, .int .i64 0, .slice none 0 0] 56)) := by
    have e : Ext w2 (w2.alloc (.cells #[.int .i64 0, .int .i64 0, .slice none 0 0] 56)) := (Ext.refl w2).alloc _
    have hall := all_new HW2.out HM.out
    have hl : ∀ g ∈ p.all (.slice none 0 0), g < w2.heap.size := HW2.out.lt_all
    refine ⟨⟨.slice none 0 0, wh00, .slice none 0 0, rw0, ⟨HW2.out.ext e, ⟨heap_new rfl, World.ownsRow_nil _ _ _ _⟩, Nat.le_trans hB2 e.size, by simp, by omega, ?_⟩, agree0, small0.1, small0.2, ?_⟩, HX2.out.trans e⟩
    · intro k hk hm
      have : k = w2.heap.size := by simpa [rowB, Value.ownBlock] using hk
      have := hl k hm
      omega
    · intro g hg
      rcases List.mem_append.1 hg with h | h
      · exact hall g h
      · have : g = w2.heap.size := by simpa [rowB, Value.ownBlock] using h
        have := HX2.out.size
        omega
  have HP0 := Lib.hid hP0
  generalize w2.alloc _ = w3 at hP0 HP0 ⊢
  generalize hbb : w2.heap.size = b at hP0 HP0 ⊢
  clear hP0 hB2
  go_loopg [5] L.length (fun g i wr => ∃ k : Nat, i = .int .i64 (k : Int) ∧ k + g = L.length ∧ Hid (PlayAt p b (b + 1) k w wr))
  case atStart => exact ⟨0, rfl, by omega, HP0⟩
  case round =>
    obtain ⟨k, rfl, hg, HP⟩ := hrel
    rename World => wr
    clear HP0 HX2 HX1 HW2 HM hbb
    by_cases hlt : k < L.length
    · have hlt' : (k : Int) < (L.length : Int) := by omega
      obtain ⟨x, hx⟩ : ∃ x, L[k]? = some x := ⟨_, List.getElem?_eq_getElem hlt⟩
      obtain ⟨g, off, rfl, hgl, hcell⟩ := HV.out (by omega)
      have hgl := hgl (by omega)
      obtain ⟨q0, q1, q2, q3⟩ := ac_cells (fun j u hj => cell_keep (hcell j u hj) HP.out.ext) hx
      have hglr : g < wr.heap.size := Nat.lt_of_lt_of_le hgl HP.out.ext.size
      have HCL := Lib.hid hcell
      clear hcell hgl
      obtain ⟨v, W, u, R, hB, hA, hS, hO, hN⟩ := HP.out.ex
      have HB := Lib.hid hB
      have HA := Lib.hid hA
      have HS := Lib.hid hS
      have HO := Lib.hid hO
      have HN := Lib.hid hN
      have HXX := Lib.hid hx
      clear hB hA hS hO hN hx
      go_wp2_with fail
      refine (act_any p v W b (b + 1) u R x k (by omega) wr HB.out HA.out HS.out HO.out HC.out).mono ?_
      rintro e w4 ⟨rfl, v4, W4, u4, R4, hB4, hA4, hS4, hO4, hK4, hr4, hs4⟩
      have hX4 : Ext w w4 := keeps_ext2 HP.out.ext HN.out hK4
      have hsz := HP.out.ext.size
      have hN4 : ∀ g ∈ p.all v4 ++ b :: rowB u4, w.heap.size ≤ g := fun g hg => by
        rcases List.mem_append.1 hg with h | h
        · exact all_rows (fun g hg => HN.out g (List.mem_append_left _ hg)) hsz hr4 g h
        · rcases List.mem_cons.1 h with h | h
          · exact HN.out g (List.mem_append_right _ (by rw [h]; exact .head _))
          · rcases hs4 g h with h | h
            · exact HN.out g (List.mem_append_right _ (List.mem_cons_of_mem _ h))
            · omega
      have HX4 := Lib.hid hX4
      have HB4 := Lib.hid hB4
      have HA4 := Lib.hid hA4
      have HS4 := Lib.hid hS4
      have HO4 := Lib.hid hO4
      have HN4 := Lib.hid hN4
      clear hX4 hB4 hA4 hS4 hO4 hK4 hr4 hs4 hN4 q0 q1 q2 q3 hglr hsz
      obtain ⟨q0, q1, q2, q3⟩ := ac_cells (fun j u hj => cell_keep (HCL.out j u hj) HX4.out) HXX.out
      have hgl4 : g < w4.heap.size := World.block_lt_of_cell? w4 _ q0
      go_wp2_with fail
      refine (tells_any p v4 W4 b (b + 1) u4 R4 x.id w4 HB4.out HA4.out (HS4.out.mono (by omega)) HO4.out).mono ?_
      rintro e w5 ⟨rfl, v5, hB5, hK5, hr5⟩
      have HP5 : Hid (PlayAt p b (b + 1) (k + 1) w w5) := Lib.hid ⟨⟨v5, _, u4, R4, hB5, (next_agree HA4.out).1, (small_first HS4.out HO4.out).1, (small_first HS4.out HO4.out).2, fun g hg => by
        rcases List.mem_append.1 hg with h | h
        · exact all_rows (fun g hg => HN4.out g (List.mem_append_left _ hg)) HX4.out.size (fun g hg => .inl (by rw [← hr5]; exact hg)) g h
        · exact HN4.out g (List.mem_append_right _ h)⟩, keeps_ext2 HX4.out (fun g hg => HN4.out g (List.mem_append_left _ hg)) hK5⟩
      clear hB5 hK5 hr5 q0 q1 q2 q3 hgl4
      go_wp2_with fail
      go_roundg (gk - 1)
      case rel => exact ⟨k + 1, rfl, by omega, HP5⟩
      case measure => omega
    · have hlt' : ¬ (k : Int) < (L.length : Int) := by omega
      go_wp2_with fail
      refine (live_any _).mono ?_
      rintro e w9 ⟨rfl, hx9⟩
      go_wp2_with fail
      go_ret
      exact ⟨rfl, HP.out.ext.trans hx9⟩
end Go.Proofs.Ytibdplfdmncgiaa

/-
  The arguments of the statement, opened: an act; a slice of acts. No condition.
-/
namespace Go.Proofs.Ytibdplfdmncgiaa
open Go.ChangeShapes Go.WideShapes Go.ChangeAt Go.RowKit Go.Deep

theorem cells_int : Try.prog.cellsOf 3 = 1 := by kernel_rfl
theorem cells_i64 : Try.prog.cellsOf 2 = 1 := by kernel_rfl
theorem cells_str : Try.prog.cellsOf 9 = 1 := by kernel_rfl
theorem cells_act : Try.prog.cellsOf 59 = 4 := by kernel_rfl

section
variable {H : Type} {enc : TypeId × Value → H} {w : World} {base : Nat} {spare : Nat → Bool} {held : Bool}

def Ac.data (m : Ac) : DataW H := .agg [.lit (.int .i64 m.k), .lit (.int .i64 m.a), .lit (.int .i64 m.id), .lit (.string m.v.data.toList)]

set_option maxRecDepth 100000 in
theorem open_act {fuel : Nat} {cs : List Value} {x : DataW H × List MemPlace} (h : DataW.trod enc Try.prog w base spare held fuel 59 cs = some x) : ∃ l : Ac, cs = l.cs ∧ x = (l.data, []) := by
  obtain ⟨xs, n, _, hx, hl, hlen, hf⟩ := DataW.trod_struct Try.underlying59 h
  have hl4 : cs.length = 4 := hl.trans cells_act
  match cs, hl4, xs, hlen with
  | [c0, c1, c2, c3], _, [y0, y1, y2, y3], _ =>
    have g0 := hf 0 _ rfl
    have g1 := hf 1 _ rfl
    have g2 := hf 2 _ rfl
    have g3 := hf 3 _ rfl
    simp [cells_int, cells_i64, cells_str] at g0 g1 g2 g3
    obtain ⟨k, e0, rfl, _⟩ := DataW.trod_int Try.underlying3 g0
    obtain ⟨f, e1, rfl, _⟩ := DataW.trod_int Try.underlying2 g1
    obtain ⟨c, e2, rfl, _⟩ := DataW.trod_int Try.underlying3 g2
    obtain ⟨t, e3, rfl, _⟩ := DataW.trod_string Try.underlying9 g3
    simp only [List.cons.injEq, and_true] at e0 e1 e2 e3
    subst e0 e1 e2 e3
    exact ⟨⟨k, f, c, t⟩, rfl, by rw [hx]; rfl⟩

/-- What a slice of acts reads as. -/
def acsData (L : List Ac) (sp : List (DataW H)) : Bool → DataW H
  | true => .nil
  | false => .slice (L.map Ac.data) sp

theorem Ac.cs_len (e : Ac) : e.cs.length = 4 := rfl

theorem flat_len : ∀ L : List Ac, (L.flatMap Ac.cs).length = L.length * 4
  | [] => rfl
  | y :: L => by rw [List.flatMap_cons, List.length_append, flat_len L, Ac.cs_len, List.length_cons]; omega

theorem flat_at {L : List Ac} {j : Nat} {u : Value} (h : (L.flatMap Ac.cs)[j]? = some u) : ∃ x, L[j / 4]? = some x ∧ x.cs[j % 4]? = some u := by
  have hlen := flat_len L
  have hj : j < L.length * 4 := by rw [← hlen]; exact (List.getElem?_eq_some_iff.1 h).1
  have hk : j / 4 < L.length := by omega
  refine ⟨_, List.getElem?_eq_getElem hk, ?_⟩
  have := flat_get Ac.cs 4 (fun _ => rfl) L (j / 4) _ (List.getElem?_eq_getElem hk) (j % 4) (by omega)
  rw [show j / 4 * 4 + j % 4 = j by omega, h] at this
  exact this.symm

theorem open_acts {fuel : Nat} {cs : List Value} {x : DataW H × List MemPlace} (h : DataW.trod enc Try.prog w base spare held fuel 49 cs = some x) :
    ∃ (v : Value) (L : List Ac) (sp : List (DataW H)) (b : Bool), cs = [v] ∧ x.1 = acsData L sp b ∧ (b = true → L = []) ∧ Row w 4 v L.length (L.flatMap Ac.cs) := by
  rcases open_slice Try.underlying49 h with ⟨h1, h2⟩ | ⟨a, len, cap, m, n, D, Pl, h1, _, h3, h4, hm, h5, h6⟩
  · exact ⟨_, [], [], true, h1, by rw [h2]; rfl, fun _ => rfl, rfl, .inl ⟨rfl, none, 0, rfl⟩⟩
  · have hlm : len ≤ m := by rw [hm]; split <;> omega
    have key : ∀ i, i < len → ∃ e : Ac, D i = e.data ∧ ∀ j u, e.cs[j]? = some u → w.cell? ((a.add (i * 4)).add j) = some u := fun i hi => by
      obtain ⟨cs', hc, ht⟩ := h6 i (by omega)
      rw [cells_act] at hc
      obtain ⟨e, rfl, he⟩ := open_act ht
      obtain ⟨_, hlen, hcell⟩ := World.cells?_some hc
      simp only [Prod.mk.injEq] at he
      refine ⟨e, he.1, fun j u hj => ?_⟩
      have : j < 4 := by have := (List.getElem?_eq_some_iff.1 hj).1; simpa [Ac.cs] using this
      rw [hcell j this]; exact hj
    have hE : ∃ E : Nat → Ac, ∀ i, i < len → D i = (E i).data ∧ ∀ j u, (E i).cs[j]? = some u → w.cell? ((a.add (i * 4)).add j) = some u :=
      ⟨fun i => if hi : i < len then (key i hi).choose else ⟨0, 0, 0, { data := #[] }⟩, fun i hi => by simp only [hi, dif_pos]; exact (key i hi).choose_spec⟩
    obtain ⟨E, hE⟩ := hE
    refine ⟨_, (List.range len).map E, (List.range (m - len)).map fun j => D (len + j), false, h1, ?_, by simp, ?_⟩
    · rw [h5]
      simp only [acsData, List.map_map]
      congr 1
      exact List.map_congr_left fun i hi => (hE i (by simpa using hi)).1
    · have hln : ((List.range len).map E).length = len := by simp
      rw [hln]
      refine ⟨by rw [flat_len, hln], ?_⟩
      by_cases h0 : len = 0
      · exact .inl ⟨h0, _, _, by rw [h0]⟩
      · obtain ⟨b, off, spot⟩ := a
        have hs : spot = none := by
          have := (hE 0 (by omega)).2 0 _ rfl
          simpa [Addr.add] using World.cell?_spot this
        subst hs
        refine .inr ⟨b, off, cap, rfl, by omega, fun j u hj => ?_⟩
        obtain ⟨e, he, hu⟩ := flat_at hj
        have hk : j / 4 < len := by have := (List.getElem?_eq_some_iff.1 he).1; simpa using this
        rw [List.getElem?_map, List.getElem?_range hk] at he
        simp only [Option.map_some, Option.some.injEq] at he
        subst he
        have := (hE (j / 4) hk).2 _ u hu
        rw [Go.WideShapes.add_plain, Go.WideShapes.add_plain, Nat.add_assoc, show j / 4 * 4 + j % 4 = j by omega] at this
        exact this
end
end Go.Proofs.Ytibdplfdmncgiaa

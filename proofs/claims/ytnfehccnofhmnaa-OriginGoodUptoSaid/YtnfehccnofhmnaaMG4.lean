/-
  The arguments of the statements, opened: a letter, a state, an event; a slice of events. No condition.
-/
import Derived.Test.YtnfehccnofhmnaaMG3
import Derived.Test.YtnfehccnofhmnaaRows
import Derived.ProofKit
import Derived.Deep.Slices
import Derived.Lib.SmallJoins
import Derived.JoinedCond
import Derived.OpenShut
namespace Go.Proofs.Ytnfehccnofhmnaa
open Go.ChangeShapes Go.WideShapes Go.ChangeAt Go.RowKit Go.Deep

theorem cells_int : Try.prog.cellsOf 3 = 1 := by kernel_rfl
theorem cells_u64 : Try.prog.cellsOf 22 = 1 := by kernel_rfl
theorem cells_str : Try.prog.cellsOf 9 = 1 := by kernel_rfl
theorem cells_bool : Try.prog.cellsOf 4 = 1 := by kernel_rfl
theorem cells_letter : Try.prog.cellsOf 24 = 5 := by kernel_rfl
theorem cells_state : Try.prog.cellsOf 26 = 9 := by kernel_rfl
theorem cells_event : Try.prog.cellsOf 28 = 8 := by kernel_rfl

section
variable {H : Type} {enc : TypeId × Value → H} {w : World} {base : Nat} {spare : Nat → Bool} {held : Bool}

def Lt.data (l : Lt) : DataW H := .agg [.lit (.int .i64 l.k), .lit (.int .i64 l.f), .lit (.int .u64 l.c), .lit (.string l.t.data.toList), .lit (.bool l.b)]
def St.data (s : St) : DataW H := .agg [.lit (.int .i64 s.r), .lit (.int .u64 s.c), .lit (.string s.t.data.toList), .lit (.int .i64 s.ph), s.p.data]
def Ev.data (e : Ev) : DataW H := .agg [.lit (.int .i64 e.k), .lit (.int .u64 e.c), .lit (.string e.t.data.toList), e.l.data]

theorem open_letter {fuel : Nat} {cs : List Value} {x : DataW H × List MemPlace} (h : DataW.trod enc Try.prog w base spare held fuel 24 cs = some x) : ∃ l : Lt, cs = l.cs ∧ x = (l.data, []) := by
  obtain ⟨xs, n, _, hx, hl, hlen, hf⟩ := DataW.trod_struct Try.underlying24 h
  have hl5 : cs.length = 5 := hl.trans cells_letter
  match cs, hl5, xs, hlen with
  | [c0, c1, c2, c3, c4], _, [y0, y1, y2, y3, y4], _ =>
    have g0 := hf 0 _ rfl
    have g1 := hf 1 _ rfl
    have g2 := hf 2 _ rfl
    have g3 := hf 3 _ rfl
    have g4 := hf 4 _ rfl
    simp [cells_int, cells_u64, cells_str, cells_bool] at g0 g1 g2 g3 g4
    obtain ⟨k, e0, rfl, _⟩ := DataW.trod_int Try.underlying3 g0
    obtain ⟨f, e1, rfl, _⟩ := DataW.trod_int Try.underlying3 g1
    obtain ⟨c, e2, rfl, _⟩ := DataW.trod_int Try.underlying22 g2
    obtain ⟨t, e3, rfl, _⟩ := DataW.trod_string Try.underlying9 g3
    obtain ⟨b, e4, rfl⟩ := DataW.trod_bool Try.underlying4 g4
    simp only [List.cons.injEq, and_true] at e0 e1 e2 e3 e4
    subst e0 e1 e2 e3 e4
    exact ⟨⟨k, f, c, t, b⟩, rfl, by rw [hx]; rfl⟩

theorem open_state {fuel : Nat} {cs : List Value} {x : DataW H × List MemPlace} (h : DataW.trod enc Try.prog w base spare held fuel 26 cs = some x) : ∃ s : St, cs = s.cs ∧ x = (s.data, []) := by
  obtain ⟨xs, n, _, hx, hl, hlen, hf⟩ := DataW.trod_struct Try.underlying26 h
  have hl9 : cs.length = 9 := hl.trans cells_state
  match cs, hl9, xs, hlen with
  | [c0, c1, c2, c3, c4, c5, c6, c7, c8], _, [y0, y1, y2, y3, y4], _ =>
    have g0 := hf 0 _ rfl
    have g1 := hf 1 _ rfl
    have g2 := hf 2 _ rfl
    have g3 := hf 3 _ rfl
    have g4 := hf 4 _ rfl
    simp [cells_int, cells_u64, cells_str, cells_bool, cells_letter] at g0 g1 g2 g3 g4
    obtain ⟨k, e0, rfl, _⟩ := DataW.trod_int Try.underlying3 g0
    obtain ⟨c, e1, rfl, _⟩ := DataW.trod_int Try.underlying22 g1
    obtain ⟨t, e2, rfl, _⟩ := DataW.trod_string Try.underlying9 g2
    obtain ⟨f, e3, rfl, _⟩ := DataW.trod_int Try.underlying3 g3
    obtain ⟨l, e4, rfl⟩ := open_letter g4
    simp only [List.cons.injEq, and_true, Lt.cs] at e0 e1 e2 e3 e4
    obtain ⟨e5, e6, e7, e8, e9⟩ := e4
    subst e0 e1 e2 e3 e5 e6 e7 e8 e9
    exact ⟨⟨k, c, t, f, l⟩, rfl, by rw [hx]; rfl⟩

theorem open_event {fuel : Nat} {cs : List Value} {x : DataW H × List MemPlace} (h : DataW.trod enc Try.prog w base spare held fuel 28 cs = some x) : ∃ s : Ev, cs = s.cs ∧ x = (s.data, []) := by
  obtain ⟨xs, n, _, hx, hl, hlen, hf⟩ := DataW.trod_struct Try.underlying28 h
  have hl8 : cs.length = 8 := hl.trans cells_event
  match cs, hl8, xs, hlen with
  | [c0, c1, c2, c3, c4, c5, c6, c7], _, [y0, y1, y2, y3], _ =>
    have g0 := hf 0 _ rfl
    have g1 := hf 1 _ rfl
    have g2 := hf 2 _ rfl
    have g3 := hf 3 _ rfl
    simp [cells_int, cells_u64, cells_str, cells_bool, cells_letter] at g0 g1 g2 g3
    obtain ⟨k, e0, rfl, _⟩ := DataW.trod_int Try.underlying3 g0
    obtain ⟨c, e1, rfl, _⟩ := DataW.trod_int Try.underlying22 g1
    obtain ⟨t, e2, rfl, _⟩ := DataW.trod_string Try.underlying9 g2
    obtain ⟨l, e4, rfl⟩ := open_letter g3
    simp only [List.cons.injEq, and_true, Lt.cs] at e0 e1 e2 e4
    obtain ⟨e5, e6, e7, e8, e9⟩ := e4
    subst e0 e1 e2 e5 e6 e7 e8 e9
    exact ⟨⟨k, c, t, l⟩, rfl, by rw [hx]; rfl⟩

/-- What a slice of events reads as. -/
def evsData (L : List Ev) (sp : List (DataW H)) : Bool → DataW H
  | true => .nil
  | false => .slice (L.map Ev.data) sp

theorem Ev.cs_len (e : Ev) : e.cs.length = 8 := rfl

theorem flat_len : ∀ L : List Ev, (L.flatMap Ev.cs).length = L.length * 8
  | [] => rfl
  | y :: L => by rw [List.flatMap_cons, List.length_append, flat_len L, Ev.cs_len, List.length_cons]; omega

theorem flat_at {L : List Ev} {j : Nat} {u : Value} (h : (L.flatMap Ev.cs)[j]? = some u) : ∃ x, L[j / 8]? = some x ∧ x.cs[j % 8]? = some u := by
  have hlen := flat_len L
  have hj : j < L.length * 8 := by rw [← hlen]; exact (List.getElem?_eq_some_iff.1 h).1
  have hk : j / 8 < L.length := by omega
  refine ⟨_, List.getElem?_eq_getElem hk, ?_⟩
  have := flat_get Ev.cs 8 (fun _ => rfl) L (j / 8) _ (List.getElem?_eq_getElem hk) (j % 8) (by omega)
  rw [show j / 8 * 8 + j % 8 = j by omega, h] at this
  exact this.symm

theorem open_events {fuel : Nat} {cs : List Value} {x : DataW H × List MemPlace} (h : DataW.trod enc Try.prog w base spare held fuel 30 cs = some x) :
    ∃ (v : Value) (L : List Ev) (sp : List (DataW H)) (b : Bool), cs = [v] ∧ x.1 = evsData L sp b ∧ (b = true → L = []) ∧ Row w 8 v L.length (L.flatMap Ev.cs) := by
  rcases open_slice Try.underlying30 h with ⟨h1, h2⟩ | ⟨a, len, cap, m, n, D, Pl, h1, _, h3, h4, hm, h5, h6⟩
  · exact ⟨_, [], [], true, h1, by rw [h2]; rfl, fun _ => rfl, rfl, .inl ⟨rfl, none, 0, rfl⟩⟩
  · have hlm : len ≤ m := by rw [hm]; split <;> omega
    have key : ∀ i, i < len → ∃ e : Ev, D i = e.data ∧ ∀ j u, e.cs[j]? = some u → w.cell? ((a.add (i * 8)).add j) = some u := fun i hi => by
      obtain ⟨cs', hc, ht⟩ := h6 i (by omega)
      rw [cells_event] at hc
      obtain ⟨e, rfl, he⟩ := open_event ht
      obtain ⟨_, hlen, hcell⟩ := World.cells?_some hc
      simp only [Prod.mk.injEq] at he
      refine ⟨e, he.1, fun j u hj => ?_⟩
      have : j < 8 := by have := (List.getElem?_eq_some_iff.1 hj).1; simpa [Ev.cs] using this
      rw [hcell j this]; exact hj
    have hE : ∃ E : Nat → Ev, ∀ i, i < len → D i = (E i).data ∧ ∀ j u, (E i).cs[j]? = some u → w.cell? ((a.add (i * 8)).add j) = some u :=
      ⟨fun i => if hi : i < len then (key i hi).choose else ⟨0, 0, { data := #[] }, l0⟩, fun i hi => by simp only [hi, dif_pos]; exact (key i hi).choose_spec⟩
    obtain ⟨E, hE⟩ := hE
    refine ⟨_, (List.range len).map E, (List.range (m - len)).map fun j => D (len + j), false, h1, ?_, by simp, ?_⟩
    · rw [h5]
      simp only [evsData, List.map_map]
      congr 1
      exact List.map_congr_left fun i hi => (hE i (by simpa using hi)).1
    · have hln : ((List.range len).map E).length = len := by simp
      rw [hln]
      refine ⟨by rw [flat_len, hln], ?_⟩
      by_cases h0 : len = 0
      · exact .inl ⟨h0, _, _, by rw [h0]⟩
      · obtain ⟨b, off, spot⟩ := a
        have hs : spot = none := by
          have := (hE 0 (by omega)).2 0 _ rfl
          simpa [Addr.add] using World.cell?_spot this
        subst hs
        refine .inr ⟨b, off, cap, rfl, by omega, fun j u hj => ?_⟩
        obtain ⟨e, he, hu⟩ := flat_at hj
        have hk : j / 8 < len := by have := (List.getElem?_eq_some_iff.1 he).1; simpa using this
        rw [List.getElem?_map, List.getElem?_range hk] at he
        simp only [Option.map_some, Option.some.injEq] at he
        subst he
        have := (hE (j / 8) hk).2 _ u hu
        rw [Go.WideShapes.add_plain, Go.WideShapes.add_plain, Nat.add_assoc, show j / 8 * 8 + j % 8 = j by omega] at this
        exact this
end
end Go.Proofs.Ytnfehccnofhmnaa

/-
  The row's last step, for a call that only extends the world. What a small bulk says of the strings of a list of events. No condition.
-/
namespace Go.Proofs.Ytnfehccnofhmnaa
open Go.ChangeShapes Go.WideShapes Go.ChangeAt Go.RowKit

theorem prog_own : ownKnob Try.prog.godebug = none := by kernel_rfl
theorem prog_laid : laidOutB Try.prog = true := by kernel_rfl

section
variable {H : Type} {enc : TypeId × Value → H} {P : Program}
/-- Behind a call that extends the world and hands back what the specification says, each argument reads as it did. -/
theorem post_ext {f : Func} {s : ChangeSpec} {apart fresh handsOn again : Bool} {W W' : World} {args : Array Value} {v : Value} {ds gs : List (DataW H)} {before pa pv : List MemPlace}
    (hW : DataW.Whole enc P f.params.toList s.vars apart W args.toList ds gs before)
    (hres : ∀ (b : Nat) (sp : Nat → Bool) (hd : Bool), DataW.TrodAll enc P W' b sp hd f.resultTypes.toList (v.resultList f.resultTypes.size) (s.fn H (ds ++ gs)).results [])
    (hargs : ∀ sp : Nat → Bool, (∀ p ∈ before, sp p.block = true) → DataW.TrodAll enc P W' 0 sp true f.params.toList args.toList (s.fn H (ds ++ gs)).args pa)
    (hvars : ∀ sp : Nat → Bool, (∀ p ∈ before, sp p.block = true) → DataW.TrodVars enc P W' sp s.vars (s.fn H (ds ++ gs)).vars pv)
    (hps : before = pa ++ pv) (hb : Ext W W')
    (hok : ∀ (j : Nat) (t : TypeId) (r : Value), f.resultTypes[j]? = some t → (v.resultList f.resultTypes.size)[j]? = some r → Value.okWide P W' .any 0 t r) :
    s.post enc P f apart fresh handsOn again W args v W' := by
  have hlt : ∀ p ∈ before, p.block < W.heap.size := fun p hp => hW.lt p hp
  have hold : ∀ p ∈ before, (fun b => decide (b < W.heap.size)) p.block = true := fun p hp => by simpa using hlt p hp
  refine ⟨ds, gs, before, [], pa, pv, hW, hres _ _ _, hargs _ hold, hvars _ hold, World.keptBut_mono (fun p hp => ⟨hp, ?_⟩) (Below.frame hb (· ∈ before)), fun _ => ?_⟩
  · rw [hps, List.mem_append] at hp
    exact Or.inr hp
  · obtain ⟨_, _, _, _, _, hz, hn⟩ := hW
    refine ⟨hok, _, _, ([] ++ pa) ++ pv, ⟨[] ++ pa, pv, trodAll_append (hargs _ (fun _ _ => rfl)) (hres _ _ _), hvars _ (fun _ _ => rfl), rfl, ?_, ?_⟩, ?_⟩
    · intro b off hp
      have hin : MemPlace.cell b off ∈ before := by rw [hps]; simpa using hp
      rw [Below.frozen hb (hlt _ hin)]
      exact hz b off hin
    · intro ha
      have := hn ha
      rw [hps] at this
      simpa using this
    · intro p hp _
      rw [hps]
      simpa using hp

theorem trod_ext {t : TypeId} (hl : laidOutB P = true) (hr : P.readableRec t = true) (hrow : t < P.types.size) {W W' : World} {sp : Nat → Bool} {v : Value} {d : DataW H} {ps : List MemPlace}
    (h : DataW.Trod enc P W 0 (fun _ => true) true t v d ps) (hb : Ext W W') (hlt : ∀ x ∈ ps, x.block < W.heap.size) (hs : ∀ p ∈ ps, sp p.block = true) : DataW.Trod enc P W' 0 sp true t v d ps :=
  WideElems.Trod_stays hl hr hrow h (fun x hx => Below.same hb (hlt x hx)) hs

theorem bulk_one {d : DataW H} {l : List (DataW H)} (h : d ∈ l) : Rows.uptoBulk d ≤ Rows.uptoBulkAll l := by
  induction l with
  | nil => cases h
  | cons x r ih =>
    simp only [Rows.uptoBulkAll]
    rcases List.mem_cons.1 h with rfl | h
    · omega
    · have := ih h; omega

theorem Ev.bulk (e : Ev) : e.t.size + e.l.t.size ≤ Rows.uptoBulk (H := H) e.data := by
  simp only [Ev.data, Lt.data, Rows.uptoBulk, Rows.uptoBulkAll, Array.length_toList]
  have h1 : e.t.data.size = e.t.size := rfl
  have h2 : e.l.t.data.size = e.l.t.size := rfl
  omega

theorem evs_bulk {L : List Ev} {sp : List (DataW H)} {b : Bool} (hb : b = true → L = []) {e : Ev} (he : e ∈ L) : e.t.size + e.l.t.size ≤ Rows.uptoBulk (evsData L sp b) := by
  cases b
  · have h1 : Rows.uptoBulk (H := H) e.data ≤ Rows.uptoBulkAll (L.map Ev.data) := bulk_one (List.mem_map_of_mem he)
    have h2 := Ev.bulk (H := H) e
    simp only [evsData, Rows.uptoBulk]
    omega
  · rw [hb rfl] at he; cases he
end
end Go.Proofs.Ytnfehccnofhmnaa

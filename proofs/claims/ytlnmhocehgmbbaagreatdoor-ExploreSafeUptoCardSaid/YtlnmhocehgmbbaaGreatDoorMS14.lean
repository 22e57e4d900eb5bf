/-
  Walk: the notary is asked. No condition.
-/
import Derived.Test.YtlnmhocehgmbbaaGreatDoorMS13
namespace Go.Proofs.YtlnmhocehgmbbaaGreatDoor
open Go.RowKit
attribute [local go_sem ↓] eql_lEq eql_sEq eql_eEq eql_oEq neq_lEq neq_sEq neq_eEq neq_oEq eql_vEq neq_vEq eql_nil
attribute [local go_sem] ExtOf.cell ExtOf.frozen ExtOf.lt ExtOf.le
attribute [local go_sem high] ExtOf.cell2 ExtOf.frozen2 ExtOf.lt2 ExtOf.cell3 ExtOf.frozen3 ExtOf.lt3

theorem Heard1.from {B gx : Nat} {x : Ex} {v : Value} {w a b : World} (k : Keeps (gx :: rowB v) w a) (h : Heard1 B gx x v a b) : Heard1 B gx x v w b := by
  obtain ⟨v', h1, h2, h3, h4⟩ := h
  exact ⟨v', h1, h2, k.trans h3, fun g hg => (h4 g hg).imp id (Nat.le_trans k.size)⟩

/-- The letter that is told. -/
theorem tell_some {c : Int} {v : Vd} {l : Lt} (h : saysS v = some l) : tellS c v = l := by unfold tellS; rw [h]; rfl
theorem tell_none {c : Int} {v : Vd} (h : saysS v = none) : tellS c v = ⟨7, 0, c, { data := #[] }, false⟩ := by unfold tellS; rw [h]; rfl

theorem askX_no {x : Ex} {m : Mv} (h : ¬ ((m.l.k = 4 ∧ m.l.b = false) ∨ m.l.k = 3)) : askX x m = x := by unfold askX; rw [if_neg h]
theorem askX_do {x : Ex} {m : Mv} (h : (m.l.k = 4 ∧ m.l.b = false) ∨ m.l.k = 3) : askX x m = { x with v := askV x m.l, h := hearS x.h m.lost (tellS x.c (askV x m.l)) } := by unfold askX; rw [if_pos h]

set_option maxRecDepth 100000 in
set_option maxHeartbeats 3200000 in
theorem mo_asked0 (gx : Nat) (x : Ex) (v : Value) (m : Mv) (w : World) (hX : ExAt w gx x v) (h : ¬ ((m.l.k = 4 ∧ m.l.b = false) ∨ m.l.k = 3)) :
    Calls Tryz.prog 69 #[.pointer (some ⟨gx, 0, none⟩), .agg m.arr] w fun e w' => e = .returned (.tuple #[]) ∧ Ext w w' := by
  have hX' := hX
  unfold ExAt Ex.arr at hX'
  have qx := fun j => cell_of_row w _ j _ _ _ hX'
  have lx : gx < w.heap.size := (Array.getElem?_eq_some_iff.1 hX).1
  clear hX hX'
  have n3 : (m.l.k != 3) = true := by
    rw [bne_iff_ne]; exact fun h3 => h (.inr h3)
  unfold Mv.arr
  by_cases h4 : m.l.k = 4
  · have hb : m.l.b = true := by
      cases hb : m.l.b
      · exact absurd (.inl ⟨h4, hb⟩) h
      · rfl
    clear h
    go_enter Tryz.func69, Tryz.ntmps69
    go_wp2_with fail
    exact ⟨rfl, .tuple #[], by simp [results, go_sem], rfl, (((Ext.refl _).alloc _).alloc _).alloc _⟩
  · have h4' : (m.l.k == 4) = false := by simpa using h4
    clear h h4
    go_enter Tryz.func69, Tryz.ntmps69
    go_wp2_with fail
    exact ⟨rfl, .tuple #[], by simp [results, go_sem], rfl, (((Ext.refl _).alloc _).alloc _).alloc _⟩

set_option maxRecDepth 100000 in
set_option maxHeartbeats 6400000 in
theorem mo_askedB4 (B gx : Nat) (x : Ex) (v : Value) (mk who : Int) (mt : ByteArray) (lf lc : Int) (lt : ByteArray) (lost : Bool) (w : World) (hX : ExAt w gx x v) (hO : Own w B x.h v)
    (hB : gx < B) (hBw : B ≤ w.heap.size) (hn : x.h.length ≤ 100000) :
    Calls Tryz.prog 69 #[.pointer (some ⟨gx, 0, none⟩), .agg (Mv.arr ⟨mk, who, mt, ⟨4, lf, lc, lt, false⟩, lost⟩)] w fun e w' => e = .returned (.tuple #[]) ∧ Heard1 B gx { x with v := askV x ⟨4, lf, lc, lt, false⟩, h := hearS x.h lost (tellS x.c (askV x ⟨4, lf, lc, lt, false⟩)) } v w w' := by
  have hX' := hX
  unfold ExAt Ex.arr at hX'
  have qx := fun j => cell_of_row w _ j _ _ _ hX'
  have lx : gx < w.heap.size := (Array.getElem?_eq_some_iff.1 hX).1
  have HX := Lib.hid hX
  have HO := Lib.hid hO
  clear hX hX' hO
  unfold Mv.arr
  go_enter Tryz.func69, Tryz.ntmps69
  go_wp2_with fail
  go_region
  go_upto_region 6 with fail
  refine wp_forget (fun w' => w'.heap[w.heap.size]? = some (.cells (Mv.arr ⟨mk, who, mt, ⟨4, lf, lc, lt, false⟩, lost⟩) 52 (0, 0)) ∧ w'.heap[w.heap.size + 1]? = some (.cells #[.int .i64 4, .int .i64 lf, .int .u64 lc, .string lt, .bool false] 24 (0, 0)) ∧ w'.heap[w.heap.size + 1 + 1]? = some (.cells #[.int .u64 x.c, .int .i64 2, .string lt] 29 (0, 0)) ∧ Ext w w') (by first | exact three_new (Ext.refl _) | exact three_new (Ext.refl _).drew) ?_
  rintro W1 ⟨h1, _, h2, e1⟩
  clear qx
  have hx1 := HX.out.ext e1
  have hx1' := hx1
  unfold ExAt Ex.arr at hx1'
  have qx := fun j => cell_of_row W1 _ j _ _ _ hx1'
  have fx := fun j => frozen_of_row W1 _ j _ _ hx1'
  have qv := fun j => cell_of_row W1 _ j _ _ _ h2
  have lx1 : gx < W1.heap.size := (Array.getElem?_eq_some_iff.1 hx1).1
  have lv1 : w.heap.size + 1 + 1 < W1.heap.size := (Array.getElem?_eq_some_iff.1 h2).1
  have HM1 := Lib.hid h1
  have HX1 := Lib.hid hx1
  have HE1 := Lib.hid e1
  clear h1 h2 hx1 hx1' e1
  have hv3 : (x.v.k = 0 ∧ x.full = false) ∨ ((x.v.k == 0) = false ∧ ¬ (x.v.k = 0 ∧ x.full = false)) ∨ (x.v.k = 0 ∧ x.full = true) := by
    by_cases h0 : x.v.k = 0
    · cases hf : x.full
      · exact .inl ⟨h0, rfl⟩
      · exact .inr (.inr ⟨h0, rfl⟩)
    · exact .inr (.inl ⟨by simpa using h0, fun h => h0 h.1⟩)
  generalize hV : askV x ⟨4, lf, lc, lt, false⟩ = V
  rcases hv3 with ⟨h0, hf⟩ | ⟨h0, hf⟩ | ⟨h0, hf⟩
  · have hV' : V = ⟨x.c, 2, lt⟩ := by rw [← hV]; unfold askV; rw [if_pos ⟨h0, hf⟩]; rw [if_pos ⟨rfl, rfl⟩]
    go_upto_region 8 with fail
    refine wp_forget (fun w' => Hid (ExAt w' gx { x with v := V } v ∧ Own w' B x.h v ∧ Keeps (gx :: rowB v) w w' ∧ w'.heap[w.heap.size]? = some (.cells (Mv.arr ⟨mk, who, mt, ⟨4, lf, lc, lt, false⟩, lost⟩) 52 (0, 0)))) (Lib.hid ⟨?g1, ?g2, ?g3, ?g4⟩) ?gr
    case g1 =>
      rw [hV']
      exact setCell_row (o := 21) (setCell_row (o := 20) (setCell_row (o := 19) HX1.out _) _) _
    case g2 =>
      have o1 := own_ext HO.out HE1.out
      exact own_same (own_same (own_same o1 fun k hk _ => cell_other (o := 19) (v := .int .u64 x.c) (show k ≠ gx by omega)) fun k hk _ => cell_other (o := 20) (v := .int .i64 2) (show k ≠ gx by omega)) fun k hk _ => cell_other (o := 21) (v := .string lt) (show k ≠ gx by omega)
    case g3 => exact ((((Keeps.refl _ w).ext HE1.out).setCell (.inl (.head _)) _ _).setCell (.inl (.head _)) _ _).setCell (.inl (.head _)) _ _
    case g4 => exact (cell_other (by omega)).trans ((cell_other (by omega)).trans ((cell_other (by omega)).trans HM1.out))
    rintro W2 HA
    clear h0 hV' qv lx1 lv1 fx HX1 HE1 HM1 hf
    clear qx
    have hA1 := HA.out.1
    unfold ExAt Ex.arr at hA1
    have qx := fun j => cell_of_row W2 _ j _ _ _ hA1
    clear hA1
    have hsy := ve_says V.c V.k V.t
    unfold saysL at hsy
    rcases hs : saysS V with _ | ⟨lk', lf', lc', lt', lb'⟩
    · have TL := Lib.hid (tell_none (c := x.c) hs)
      rw [show (⟨V.c, V.k, V.t⟩ : Vd) = V from rfl, hs] at hsy
      unfold l0 at hsy
      simp only [Option.getD_none, Option.isSome_none] at hsy
      have HS := Lib.hid hsy
      clear hsy hs
      go_wp2_with (first
        | (go_at_call 65; refine (HS.out _).mono ?_; rintro e W3 ⟨rfl, hx⟩; clear qx; have hx3 := HA.out.1.ext hx; have HX3 := Lib.hid hx3; have HO3 := Lib.hid (HA.out.2.1.ext hx); have HK3 := Lib.hid (HA.out.2.2.1.ext hx); unfold ExAt Ex.arr at hx3; have qx := fun j => cell_of_row W3 _ j _ _ _ hx3; have hm3 := heap_ext HA.out.2.2.2 hx; unfold Mv.arr at hm3; have qm := fun j => cell_of_row W3 _ j _ _ _ hm3; have lx3 : gx < W3.heap.size := (Array.getElem?_eq_some_iff.1 hx3).1; have lm3 : w.heap.size < W3.heap.size := (Array.getElem?_eq_some_iff.1 hm3).1; clear hx hx3 hm3)
        | (go_at_call 71; refine (mo_hears B gx _ { x with v := V } v ⟨mk, who, mt, ⟨4, lf, lc, lt, false⟩, lost⟩ ⟨7, 0, x.c, { data := #[] }, false⟩ _ (HX3.out.ext (((Ext.refl _).alloc _).alloc _)) (HO3.out.ext (((Ext.refl _).alloc _).alloc _)) (heap_new (by simp)) hB (Nat.le_trans hBw (Nat.le_trans HK3.out.size (((Ext.refl _).alloc _).alloc _).size)) hn).mono ?_; rintro e w4 ⟨rfl, hH⟩; have HH := Lib.hid hH; clear hH))
      refine ⟨rfl, .tuple #[], by simp [results, go_sem], rfl, ?_⟩
      rw [hV, TL.out]
      exact Heard1.from (HK3.out.ext (((Ext.refl _).alloc _).alloc _)) HH.out
    · have TL := Lib.hid (tell_some (c := x.c) hs)
      rw [show (⟨V.c, V.k, V.t⟩ : Vd) = V from rfl, hs] at hsy
      simp only [Option.getD_some, Option.isSome_some] at hsy
      have HS := Lib.hid hsy
      clear hsy hs
      go_wp2_with (first
        | (go_at_call 65; refine (HS.out _).mono ?_; rintro e W3 ⟨rfl, hx⟩; clear qx; have hx3 := HA.out.1.ext hx; have HX3 := Lib.hid hx3; have HO3 := Lib.hid (HA.out.2.1.ext hx); have HK3 := Lib.hid (HA.out.2.2.1.ext hx); unfold ExAt Ex.arr at hx3; have qx := fun j => cell_of_row W3 _ j _ _ _ hx3; have hm3 := heap_ext HA.out.2.2.2 hx; unfold Mv.arr at hm3; have qm := fun j => cell_of_row W3 _ j _ _ _ hm3; have lx3 : gx < W3.heap.size := (Array.getElem?_eq_some_iff.1 hx3).1; have lm3 : w.heap.size < W3.heap.size := (Array.getElem?_eq_some_iff.1 hm3).1; clear hx hx3 hm3)
        | (go_at_call 71; refine (mo_hears B gx _ { x with v := V } v ⟨mk, who, mt, ⟨4, lf, lc, lt, false⟩, lost⟩ ⟨lk', lf', lc', lt', lb'⟩ _ (HX3.out.ext (((Ext.refl _).alloc _).alloc _)) (HO3.out.ext (((Ext.refl _).alloc _).alloc _)) (heap_new (by simp)) hB (Nat.le_trans hBw (Nat.le_trans HK3.out.size (((Ext.refl _).alloc _).alloc _).size)) hn).mono ?_; rintro e w4 ⟨rfl, hH⟩; have HH := Lib.hid hH; clear hH))
      refine ⟨rfl, .tuple #[], by simp [results, go_sem], rfl, ?_⟩
      rw [hV, TL.out]
      exact Heard1.from (HK3.out.ext (((Ext.refl _).alloc _).alloc _)) HH.out
  · have hV' : V = x.v := by rw [← hV]; unfold askV; rw [if_neg hf]
    clear hf
    go_upto_region 8 with fail
    refine wp_forget (fun w' => Hid (ExAt w' gx { x with v := V } v ∧ Own w' B x.h v ∧ Keeps (gx :: rowB v) w w' ∧ w'.heap[w.heap.size]? = some (.cells (Mv.arr ⟨mk, who, mt, ⟨4, lf, lc, lt, false⟩, lost⟩) 52 (0, 0)))) (Lib.hid ⟨by rw [hV']; exact HX1.out, HO.out.ext HE1.out, (Keeps.refl _ w).ext HE1.out, HM1.out⟩) ?_
    rintro W2 HA
    clear h0 hV' qv lx1 lv1 fx HX1 HE1 HM1 
    clear qx
    have hA1 := HA.out.1
    unfold ExAt Ex.arr at hA1
    have qx := fun j => cell_of_row W2 _ j _ _ _ hA1
    clear hA1
    have hsy := ve_says V.c V.k V.t
    unfold saysL at hsy
    rcases hs : saysS V with _ | ⟨lk', lf', lc', lt', lb'⟩
    · have TL := Lib.hid (tell_none (c := x.c) hs)
      rw [show (⟨V.c, V.k, V.t⟩ : Vd) = V from rfl, hs] at hsy
      unfold l0 at hsy
      simp only [Option.getD_none, Option.isSome_none] at hsy
      have HS := Lib.hid hsy
      clear hsy hs
      go_wp2_with (first
        | (go_at_call 65; refine (HS.out _).mono ?_; rintro e W3 ⟨rfl, hx⟩; clear qx; have hx3 := HA.out.1.ext hx; have HX3 := Lib.hid hx3; have HO3 := Lib.hid (HA.out.2.1.ext hx); have HK3 := Lib.hid (HA.out.2.2.1.ext hx); unfold ExAt Ex.arr at hx3; have qx := fun j => cell_of_row W3 _ j _ _ _ hx3; have hm3 := heap_ext HA.out.2.2.2 hx; unfold Mv.arr at hm3; have qm := fun j => cell_of_row W3 _ j _ _ _ hm3; have lx3 : gx < W3.heap.size := (Array.getElem?_eq_some_iff.1 hx3).1; have lm3 : w.heap.size < W3.heap.size := (Array.getElem?_eq_some_iff.1 hm3).1; clear hx hx3 hm3)
        | (go_at_call 71; refine (mo_hears B gx _ { x with v := V } v ⟨mk, who, mt, ⟨4, lf, lc, lt, false⟩, lost⟩ ⟨7, 0, x.c, { data := #[] }, false⟩ _ (HX3.out.ext (((Ext.refl _).alloc _).alloc _)) (HO3.out.ext (((Ext.refl _).alloc _).alloc _)) (heap_new (by simp)) hB (Nat.le_trans hBw (Nat.le_trans HK3.out.size (((Ext.refl _).alloc _).alloc _).size)) hn).mono ?_; rintro e w4 ⟨rfl, hH⟩; have HH := Lib.hid hH; clear hH))
      refine ⟨rfl, .tuple #[], by simp [results, go_sem], rfl, ?_⟩
      rw [hV, TL.out]
      exact Heard1.from (HK3.out.ext (((Ext.refl _).alloc _).alloc _)) HH.out
    · have TL := Lib.hid (tell_some (c := x.c) hs)
      rw [show (⟨V.c, V.k, V.t⟩ : Vd) = V from rfl, hs] at hsy
      simp only [Option.getD_some, Option.isSome_some] at hsy
      have HS := Lib.hid hsy
      clear hsy hs
      go_wp2_with (first
        | (go_at_call 65; refine (HS.out _).mono ?_; rintro e W3 ⟨rfl, hx⟩; clear qx; have hx3 := HA.out.1.ext hx; have HX3 := Lib.hid hx3; have HO3 := Lib.hid (HA.out.2.1.ext hx); have HK3 := Lib.hid (HA.out.2.2.1.ext hx); unfold ExAt Ex.arr at hx3; have qx := fun j => cell_of_row W3 _ j _ _ _ hx3; have hm3 := heap_ext HA.out.2.2.2 hx; unfold Mv.arr at hm3; have qm := fun j => cell_of_row W3 _ j _ _ _ hm3; have lx3 : gx < W3.heap.size := (Array.getElem?_eq_some_iff.1 hx3).1; have lm3 : w.heap.size < W3.heap.size := (Array.getElem?_eq_some_iff.1 hm3).1; clear hx hx3 hm3)
        | (go_at_call 71; refine (mo_hears B gx _ { x with v := V } v ⟨mk, who, mt, ⟨4, lf, lc, lt, false⟩, lost⟩ ⟨lk', lf', lc', lt', lb'⟩ _ (HX3.out.ext (((Ext.refl _).alloc _).alloc _)) (HO3.out.ext (((Ext.refl _).alloc _).alloc _)) (heap_new (by simp)) hB (Nat.le_trans hBw (Nat.le_trans HK3.out.size (((Ext.refl _).alloc _).alloc _).size)) hn).mono ?_; rintro e w4 ⟨rfl, hH⟩; have HH := Lib.hid hH; clear hH))
      refine ⟨rfl, .tuple #[], by simp [results, go_sem], rfl, ?_⟩
      rw [hV, TL.out]
      exact Heard1.from (HK3.out.ext (((Ext.refl _).alloc _).alloc _)) HH.out
  · have hV' : V = x.v := by rw [← hV]; unfold askV; rw [if_neg (by rw [hf]; simp)]
    go_upto_region 8 with fail
    refine wp_forget (fun w' => Hid (ExAt w' gx { x with v := V } v ∧ Own w' B x.h v ∧ Keeps (gx :: rowB v) w w' ∧ w'.heap[w.heap.size]? = some (.cells (Mv.arr ⟨mk, who, mt, ⟨4, lf, lc, lt, false⟩, lost⟩) 52 (0, 0)))) (Lib.hid ⟨by rw [hV']; exact HX1.out, HO.out.ext HE1.out, (Keeps.refl _ w).ext HE1.out, HM1.out⟩) ?_
    rintro W2 HA
    clear h0 hV' qv lx1 lv1 fx HX1 HE1 HM1 hf
    clear qx
    have hA1 := HA.out.1
    unfold ExAt Ex.arr at hA1
    have qx := fun j => cell_of_row W2 _ j _ _ _ hA1
    clear hA1
    have hsy := ve_says V.c V.k V.t
    unfold saysL at hsy
    rcases hs : saysS V with _ | ⟨lk', lf', lc', lt', lb'⟩
    · have TL := Lib.hid (tell_none (c := x.c) hs)
      rw [show (⟨V.c, V.k, V.t⟩ : Vd) = V from rfl, hs] at hsy
      unfold l0 at hsy
      simp only [Option.getD_none, Option.isSome_none] at hsy
      have HS := Lib.hid hsy
      clear hsy hs
      go_wp2_with (first
        | (go_at_call 65; refine (HS.out _).mono ?_; rintro e W3 ⟨rfl, hx⟩; clear qx; have hx3 := HA.out.1.ext hx; have HX3 := Lib.hid hx3; have HO3 := Lib.hid (HA.out.2.1.ext hx); have HK3 := Lib.hid (HA.out.2.2.1.ext hx); unfold ExAt Ex.arr at hx3; have qx := fun j => cell_of_row W3 _ j _ _ _ hx3; have hm3 := heap_ext HA.out.2.2.2 hx; unfold Mv.arr at hm3; have qm := fun j => cell_of_row W3 _ j _ _ _ hm3; have lx3 : gx < W3.heap.size := (Array.getElem?_eq_some_iff.1 hx3).1; have lm3 : w.heap.size < W3.heap.size := (Array.getElem?_eq_some_iff.1 hm3).1; clear hx hx3 hm3)
        | (go_at_call 71; refine (mo_hears B gx _ { x with v := V } v ⟨mk, who, mt, ⟨4, lf, lc, lt, false⟩, lost⟩ ⟨7, 0, x.c, { data := #[] }, false⟩ _ (HX3.out.ext (((Ext.refl _).alloc _).alloc _)) (HO3.out.ext (((Ext.refl _).alloc _).alloc _)) (heap_new (by simp)) hB (Nat.le_trans hBw (Nat.le_trans HK3.out.size (((Ext.refl _).alloc _).alloc _).size)) hn).mono ?_; rintro e w4 ⟨rfl, hH⟩; have HH := Lib.hid hH; clear hH))
      refine ⟨rfl, .tuple #[], by simp [results, go_sem], rfl, ?_⟩
      rw [hV, TL.out]
      exact Heard1.from (HK3.out.ext (((Ext.refl _).alloc _).alloc _)) HH.out
    · have TL := Lib.hid (tell_some (c := x.c) hs)
      rw [show (⟨V.c, V.k, V.t⟩ : Vd) = V from rfl, hs] at hsy
      simp only [Option.getD_some, Option.isSome_some] at hsy
      have HS := Lib.hid hsy
      clear hsy hs
      go_wp2_with (first
        | (go_at_call 65; refine (HS.out _).mono ?_; rintro e W3 ⟨rfl, hx⟩; clear qx; have hx3 := HA.out.1.ext hx; have HX3 := Lib.hid hx3; have HO3 := Lib.hid (HA.out.2.1.ext hx); have HK3 := Lib.hid (HA.out.2.2.1.ext hx); unfold ExAt Ex.arr at hx3; have qx := fun j => cell_of_row W3 _ j _ _ _ hx3; have hm3 := heap_ext HA.out.2.2.2 hx; unfold Mv.arr at hm3; have qm := fun j => cell_of_row W3 _ j _ _ _ hm3; have lx3 : gx < W3.heap.size := (Array.getElem?_eq_some_iff.1 hx3).1; have lm3 : w.heap.size < W3.heap.size := (Array.getElem?_eq_some_iff.1 hm3).1; clear hx hx3 hm3)
        | (go_at_call 71; refine (mo_hears B gx _ { x with v := V } v ⟨mk, who, mt, ⟨4, lf, lc, lt, false⟩, lost⟩ ⟨lk', lf', lc', lt', lb'⟩ _ (HX3.out.ext (((Ext.refl _).alloc _).alloc _)) (HO3.out.ext (((Ext.refl _).alloc _).alloc _)) (heap_new (by simp)) hB (Nat.le_trans hBw (Nat.le_trans HK3.out.size (((Ext.refl _).alloc _).alloc _).size)) hn).mono ?_; rintro e w4 ⟨rfl, hH⟩; have HH := Lib.hid hH; clear hH))
      refine ⟨rfl, .tuple #[], by simp [results, go_sem], rfl, ?_⟩
      rw [hV, TL.out]
      exact Heard1.from (HK3.out.ext (((Ext.refl _).alloc _).alloc _)) HH.out

set_option maxRecDepth 100000 in
set_option maxHeartbeats 6400000 in
theorem mo_askedB3 (B gx : Nat) (x : Ex) (v : Value) (mk who : Int) (mt : ByteArray) (lf lc : Int) (lt : ByteArray) (lb : Bool) (lost : Bool) (w : World) (hX : ExAt w gx x v) (hO : Own w B x.h v)
    (hB : gx < B) (hBw : B ≤ w.heap.size) (hn : x.h.length ≤ 100000) :
    Calls Tryz.prog 69 #[.pointer (some ⟨gx, 0, none⟩), .agg (Mv.arr ⟨mk, who, mt, ⟨3, lf, lc, lt, lb⟩, lost⟩)] w fun e w' => e = .returned (.tuple #[]) ∧ Heard1 B gx { x with v := askV x ⟨3, lf, lc, lt, lb⟩, h := hearS x.h lost (tellS x.c (askV x ⟨3, lf, lc, lt, lb⟩)) } v w w' := by
  have hX' := hX
  unfold ExAt Ex.arr at hX'
  have qx := fun j => cell_of_row w _ j _ _ _ hX'
  have lx : gx < w.heap.size := (Array.getElem?_eq_some_iff.1 hX).1
  have HX := Lib.hid hX
  have HO := Lib.hid hO
  clear hX hX' hO
  unfold Mv.arr
  go_enter Tryz.func69, Tryz.ntmps69
  go_upto_region 6 with fail
  refine wp_forget (fun w' => w'.heap[w.heap.size]? = some (.cells (Mv.arr ⟨mk, who, mt, ⟨3, lf, lc, lt, lb⟩, lost⟩) 52 (0, 0)) ∧ w'.heap[w.heap.size + 1]? = some (.cells #[.int .i64 3, .int .i64 lf, .int .u64 lc, .string lt, .bool lb] 24 (0, 0)) ∧ w'.heap[w.heap.size + 1 + 1]? = some (.cells #[.int .u64 x.c, .int .i64 1, .string { data := #[] }] 29 (0, 0)) ∧ Ext w w') (by first | exact three_new (Ext.refl _) | exact three_new (Ext.refl _).drew) ?_
  rintro W1 ⟨h1, _, h2, e1⟩
  clear qx
  have hx1 := HX.out.ext e1
  have hx1' := hx1
  unfold ExAt Ex.arr at hx1'
  have qx := fun j => cell_of_row W1 _ j _ _ _ hx1'
  have fx := fun j => frozen_of_row W1 _ j _ _ hx1'
  have qv := fun j => cell_of_row W1 _ j _ _ _ h2
  have lx1 : gx < W1.heap.size := (Array.getElem?_eq_some_iff.1 hx1).1
  have lv1 : w.heap.size + 1 + 1 < W1.heap.size := (Array.getElem?_eq_some_iff.1 h2).1
  have HM1 := Lib.hid h1
  have HX1 := Lib.hid hx1
  have HE1 := Lib.hid e1
  clear h1 h2 hx1 hx1' e1
  have hv3 : (x.v.k = 0 ∧ x.full = false) ∨ ((x.v.k == 0) = false ∧ ¬ (x.v.k = 0 ∧ x.full = false)) ∨ (x.v.k = 0 ∧ x.full = true) := by
    by_cases h0 : x.v.k = 0
    · cases hf : x.full
      · exact .inl ⟨h0, rfl⟩
      · exact .inr (.inr ⟨h0, rfl⟩)
    · exact .inr (.inl ⟨by simpa using h0, fun h => h0 h.1⟩)
  generalize hV : askV x ⟨3, lf, lc, lt, lb⟩ = V
  rcases hv3 with ⟨h0, hf⟩ | ⟨h0, hf⟩ | ⟨h0, hf⟩
  · have hV' : V = ⟨x.c, 1, { data := #[] }⟩ := by rw [← hV]; unfold askV; rw [if_pos ⟨h0, hf⟩]; rw [if_neg (by simp)]
    go_upto_region 8 with fail
    refine wp_forget (fun w' => Hid (ExAt w' gx { x with v := V } v ∧ Own w' B x.h v ∧ Keeps (gx :: rowB v) w w' ∧ w'.heap[w.heap.size]? = some (.cells (Mv.arr ⟨mk, who, mt, ⟨3, lf, lc, lt, lb⟩, lost⟩) 52 (0, 0)))) (Lib.hid ⟨?g1, ?g2, ?g3, ?g4⟩) ?gr
    case g1 =>
      rw [hV']
      exact setCell_row (o := 21) (setCell_row (o := 20) (setCell_row (o := 19) HX1.out _) _) _
    case g2 =>
      have o1 := own_ext HO.out HE1.out
      exact own_same (own_same (own_same o1 fun k hk _ => cell_other (o := 19) (v := .int .u64 x.c) (show k ≠ gx by omega)) fun k hk _ => cell_other (o := 20) (v := .int .i64 1) (show k ≠ gx by omega)) fun k hk _ => cell_other (o := 21) (v := .string { data := #[] }) (show k ≠ gx by omega)
    case g3 => exact ((((Keeps.refl _ w).ext HE1.out).setCell (.inl (.head _)) _ _).setCell (.inl (.head _)) _ _).setCell (.inl (.head _)) _ _
    case g4 => exact (cell_other (by omega)).trans ((cell_other (by omega)).trans ((cell_other (by omega)).trans HM1.out))
    rintro W2 HA
    clear h0 hV' qv lx1 lv1 fx HX1 HE1 HM1 hf
    clear qx
    have hA1 := HA.out.1
    unfold ExAt Ex.arr at hA1
    have qx := fun j => cell_of_row W2 _ j _ _ _ hA1
    clear hA1
    have hsy := ve_says V.c V.k V.t
    unfold saysL at hsy
    rcases hs : saysS V with _ | ⟨lk', lf', lc', lt', lb'⟩
    · have TL := Lib.hid (tell_none (c := x.c) hs)
      rw [show (⟨V.c, V.k, V.t⟩ : Vd) = V from rfl, hs] at hsy
      unfold l0 at hsy
      simp only [Option.getD_none, Option.isSome_none] at hsy
      have HS := Lib.hid hsy
      clear hsy hs
      go_wp2_with (first
        | (go_at_call 65; refine (HS.out _).mono ?_; rintro e W3 ⟨rfl, hx⟩; clear qx; have hx3 := HA.out.1.ext hx; have HX3 := Lib.hid hx3; have HO3 := Lib.hid (HA.out.2.1.ext hx); have HK3 := Lib.hid (HA.out.2.2.1.ext hx); unfold ExAt Ex.arr at hx3; have qx := fun j => cell_of_row W3 _ j _ _ _ hx3; have hm3 := heap_ext HA.out.2.2.2 hx; unfold Mv.arr at hm3; have qm := fun j => cell_of_row W3 _ j _ _ _ hm3; have lx3 : gx < W3.heap.size := (Array.getElem?_eq_some_iff.1 hx3).1; have lm3 : w.heap.size < W3.heap.size := (Array.getElem?_eq_some_iff.1 hm3).1; clear hx hx3 hm3)
        | (go_at_call 71; refine (mo_hears B gx _ { x with v := V } v ⟨mk, who, mt, ⟨3, lf, lc, lt, lb⟩, lost⟩ ⟨7, 0, x.c, { data := #[] }, false⟩ _ (HX3.out.ext (((Ext.refl _).alloc _).alloc _)) (HO3.out.ext (((Ext.refl _).alloc _).alloc _)) (heap_new (by simp)) hB (Nat.le_trans hBw (Nat.le_trans HK3.out.size (((Ext.refl _).alloc _).alloc _).size)) hn).mono ?_; rintro e w4 ⟨rfl, hH⟩; have HH := Lib.hid hH; clear hH))
      refine ⟨rfl, .tuple #[], by simp [results, go_sem], rfl, ?_⟩
      rw [hV, TL.out]
      exact Heard1.from (HK3.out.ext (((Ext.refl _).alloc _).alloc _)) HH.out
    · have TL := Lib.hid (tell_some (c := x.c) hs)
      rw [show (⟨V.c, V.k, V.t⟩ : Vd) = V from rfl, hs] at hsy
      simp only [Option.getD_some, Option.isSome_some] at hsy
      have HS := Lib.hid hsy
      clear hsy hs
      go_wp2_with (first
        | (go_at_call 65; refine (HS.out _).mono ?_; rintro e W3 ⟨rfl, hx⟩; clear qx; have hx3 := HA.out.1.ext hx; have HX3 := Lib.hid hx3; have HO3 := Lib.hid (HA.out.2.1.ext hx); have HK3 := Lib.hid (HA.out.2.2.1.ext hx); unfold ExAt Ex.arr at hx3; have qx := fun j => cell_of_row W3 _ j _ _ _ hx3; have hm3 := heap_ext HA.out.2.2.2 hx; unfold Mv.arr at hm3; have qm := fun j => cell_of_row W3 _ j _ _ _ hm3; have lx3 : gx < W3.heap.size := (Array.getElem?_eq_some_iff.1 hx3).1; have lm3 : w.heap.size < W3.heap.size := (Array.getElem?_eq_some_iff.1 hm3).1; clear hx hx3 hm3)
        | (go_at_call 71; refine (mo_hears B gx _ { x with v := V } v ⟨mk, who, mt, ⟨3, lf, lc, lt, lb⟩, lost⟩ ⟨lk', lf', lc', lt', lb'⟩ _ (HX3.out.ext (((Ext.refl _).alloc _).alloc _)) (HO3.out.ext (((Ext.refl _).alloc _).alloc _)) (heap_new (by simp)) hB (Nat.le_trans hBw (Nat.le_trans HK3.out.size (((Ext.refl _).alloc _).alloc _).size)) hn).mono ?_; rintro e w4 ⟨rfl, hH⟩; have HH := Lib.hid hH; clear hH))
      refine ⟨rfl, .tuple #[], by simp [results, go_sem], rfl, ?_⟩
      rw [hV, TL.out]
      exact Heard1.from (HK3.out.ext (((Ext.refl _).alloc _).alloc _)) HH.out
  · have hV' : V = x.v := by rw [← hV]; unfold askV; rw [if_neg hf]
    clear hf
    go_upto_region 8 with fail
    refine wp_forget (fun w' => Hid (ExAt w' gx { x with v := V } v ∧ Own w' B x.h v ∧ Keeps (gx :: rowB v) w w' ∧ w'.heap[w.heap.size]? = some (.cells (Mv.arr ⟨mk, who, mt, ⟨3, lf, lc, lt, lb⟩, lost⟩) 52 (0, 0)))) (Lib.hid ⟨by rw [hV']; exact HX1.out, HO.out.ext HE1.out, (Keeps.refl _ w).ext HE1.out, HM1.out⟩) ?_
    rintro W2 HA
    clear h0 hV' qv lx1 lv1 fx HX1 HE1 HM1 
    clear qx
    have hA1 := HA.out.1
    unfold ExAt Ex.arr at hA1
    have qx := fun j => cell_of_row W2 _ j _ _ _ hA1
    clear hA1
    have hsy := ve_says V.c V.k V.t
    unfold saysL at hsy
    rcases hs : saysS V with _ | ⟨lk', lf', lc', lt', lb'⟩
    · have TL := Lib.hid (tell_none (c := x.c) hs)
      rw [show (⟨V.c, V.k, V.t⟩ : Vd) = V from rfl, hs] at hsy
      unfold l0 at hsy
      simp only [Option.getD_none, Option.isSome_none] at hsy
      have HS := Lib.hid hsy
      clear hsy hs
      go_wp2_with (first
        | (go_at_call 65; refine (HS.out _).mono ?_; rintro e W3 ⟨rfl, hx⟩; clear qx; have hx3 := HA.out.1.ext hx; have HX3 := Lib.hid hx3; have HO3 := Lib.hid (HA.out.2.1.ext hx); have HK3 := Lib.hid (HA.out.2.2.1.ext hx); unfold ExAt Ex.arr at hx3; have qx := fun j => cell_of_row W3 _ j _ _ _ hx3; have hm3 := heap_ext HA.out.2.2.2 hx; unfold Mv.arr at hm3; have qm := fun j => cell_of_row W3 _ j _ _ _ hm3; have lx3 : gx < W3.heap.size := (Array.getElem?_eq_some_iff.1 hx3).1; have lm3 : w.heap.size < W3.heap.size := (Array.getElem?_eq_some_iff.1 hm3).1; clear hx hx3 hm3)
        | (go_at_call 71; refine (mo_hears B gx _ { x with v := V } v ⟨mk, who, mt, ⟨3, lf, lc, lt, lb⟩, lost⟩ ⟨7, 0, x.c, { data := #[] }, false⟩ _ (HX3.out.ext (((Ext.refl _).alloc _).alloc _)) (HO3.out.ext (((Ext.refl _).alloc _).alloc _)) (heap_new (by simp)) hB (Nat.le_trans hBw (Nat.le_trans HK3.out.size (((Ext.refl _).alloc _).alloc _).size)) hn).mono ?_; rintro e w4 ⟨rfl, hH⟩; have HH := Lib.hid hH; clear hH))
      refine ⟨rfl, .tuple #[], by simp [results, go_sem], rfl, ?_⟩
      rw [hV, TL.out]
      exact Heard1.from (HK3.out.ext (((Ext.refl _).alloc _).alloc _)) HH.out
    · have TL := Lib.hid (tell_some (c := x.c) hs)
      rw [show (⟨V.c, V.k, V.t⟩ : Vd) = V from rfl, hs] at hsy
      simp only [Option.getD_some, Option.isSome_some] at hsy
      have HS := Lib.hid hsy
      clear hsy hs
      go_wp2_with (first
        | (go_at_call 65; refine (HS.out _).mono ?_; rintro e W3 ⟨rfl, hx⟩; clear qx; have hx3 := HA.out.1.ext hx; have HX3 := Lib.hid hx3; have HO3 := Lib.hid (HA.out.2.1.ext hx); have HK3 := Lib.hid (HA.out.2.2.1.ext hx); unfold ExAt Ex.arr at hx3; have qx := fun j => cell_of_row W3 _ j _ _ _ hx3; have hm3 := heap_ext HA.out.2.2.2 hx; unfold Mv.arr at hm3; have qm := fun j => cell_of_row W3 _ j _ _ _ hm3; have lx3 : gx < W3.heap.size := (Array.getElem?_eq_some_iff.1 hx3).1; have lm3 : w.heap.size < W3.heap.size := (Array.getElem?_eq_some_iff.1 hm3).1; clear hx hx3 hm3)
        | (go_at_call 71; refine (mo_hears B gx _ { x with v := V } v ⟨mk, who, mt, ⟨3, lf, lc, lt, lb⟩, lost⟩ ⟨lk', lf', lc', lt', lb'⟩ _ (HX3.out.ext (((Ext.refl _).alloc _).alloc _)) (HO3.out.ext (((Ext.refl _).alloc _).alloc _)) (heap_new (by simp)) hB (Nat.le_trans hBw (Nat.le_trans HK3.out.size (((Ext.refl _).alloc _).alloc _).size)) hn).mono ?_; rintro e w4 ⟨rfl, hH⟩; have HH := Lib.hid hH; clear hH))
      refine ⟨rfl, .tuple #[], by simp [results, go_sem], rfl, ?_⟩
      rw [hV, TL.out]
      exact Heard1.from (HK3.out.ext (((Ext.refl _).alloc _).alloc _)) HH.out
  · have hV' : V = x.v := by rw [← hV]; unfold askV; rw [if_neg (by rw [hf]; simp)]
    go_upto_region 8 with fail
    refine wp_forget (fun w' => Hid (ExAt w' gx { x with v := V } v ∧ Own w' B x.h v ∧ Keeps (gx :: rowB v) w w' ∧ w'.heap[w.heap.size]? = some (.cells (Mv.arr ⟨mk, who, mt, ⟨3, lf, lc, lt, lb⟩, lost⟩) 52 (0, 0)))) (Lib.hid ⟨by rw [hV']; exact HX1.out, HO.out.ext HE1.out, (Keeps.refl _ w).ext HE1.out, HM1.out⟩) ?_
    rintro W2 HA
    clear h0 hV' qv lx1 lv1 fx HX1 HE1 HM1 hf
    clear qx
    have hA1 := HA.out.1
    unfold ExAt Ex.arr at hA1
    have qx := fun j => cell_of_row W2 _ j _ _ _ hA1
    clear hA1
    have hsy := ve_says V.c V.k V.t
    unfold saysL at hsy
    rcases hs : saysS V with _ | ⟨lk', lf', lc', lt', lb'⟩
    · have TL := Lib.hid (tell_none (c := x.c) hs)
      rw [show (⟨V.c, V.k, V.t⟩ : Vd) = V from rfl, hs] at hsy
      unfold l0 at hsy
      simp only [Option.getD_none, Option.isSome_none] at hsy
      have HS := Lib.hid hsy
      clear hsy hs
      go_wp2_with (first
        | (go_at_call 65; refine (HS.out _).mono ?_; rintro e W3 ⟨rfl, hx⟩; clear qx; have hx3 := HA.out.1.ext hx; have HX3 := Lib.hid hx3; have HO3 := Lib.hid (HA.out.2.1.ext hx); have HK3 := Lib.hid (HA.out.2.2.1.ext hx); unfold ExAt Ex.arr at hx3; have qx := fun j => cell_of_row W3 _ j _ _ _ hx3; have hm3 := heap_ext HA.out.2.2.2 hx; unfold Mv.arr at hm3; have qm := fun j => cell_of_row W3 _ j _ _ _ hm3; have lx3 : gx < W3.heap.size := (Array.getElem?_eq_some_iff.1 hx3).1; have lm3 : w.heap.size < W3.heap.size := (Array.getElem?_eq_some_iff.1 hm3).1; clear hx hx3 hm3)
        | (go_at_call 71; refine (mo_hears B gx _ { x with v := V } v ⟨mk, who, mt, ⟨3, lf, lc, lt, lb⟩, lost⟩ ⟨7, 0, x.c, { data := #[] }, false⟩ _ (HX3.out.ext (((Ext.refl _).alloc _).alloc _)) (HO3.out.ext (((Ext.refl _).alloc _).alloc _)) (heap_new (by simp)) hB (Nat.le_trans hBw (Nat.le_trans HK3.out.size (((Ext.refl _).alloc _).alloc _).size)) hn).mono ?_; rintro e w4 ⟨rfl, hH⟩; have HH := Lib.hid hH; clear hH))
      refine ⟨rfl, .tuple #[], by simp [results, go_sem], rfl, ?_⟩
      rw [hV, TL.out]
      exact Heard1.from (HK3.out.ext (((Ext.refl _).alloc _).alloc _)) HH.out
    · have TL := Lib.hid (tell_some (c := x.c) hs)
      rw [show (⟨V.c, V.k, V.t⟩ : Vd) = V from rfl, hs] at hsy
      simp only [Option.getD_some, Option.isSome_some] at hsy
      have HS := Lib.hid hsy
      clear hsy hs
      go_wp2_with (first
        | (go_at_call 65; refine (HS.out _).mono ?_; rintro e W3 ⟨rfl, hx⟩; clear qx; have hx3 := HA.out.1.ext hx; have HX3 := Lib.hid hx3; have HO3 := Lib.hid (HA.out.2.1.ext hx); have HK3 := Lib.hid (HA.out.2.2.1.ext hx); unfold ExAt Ex.arr at hx3; have qx := fun j => cell_of_row W3 _ j _ _ _ hx3; have hm3 := heap_ext HA.out.2.2.2 hx; unfold Mv.arr at hm3; have qm := fun j => cell_of_row W3 _ j _ _ _ hm3; have lx3 : gx < W3.heap.size := (Array.getElem?_eq_some_iff.1 hx3).1; have lm3 : w.heap.size < W3.heap.size := (Array.getElem?_eq_some_iff.1 hm3).1; clear hx hx3 hm3)
        | (go_at_call 71; refine (mo_hears B gx _ { x with v := V } v ⟨mk, who, mt, ⟨3, lf, lc, lt, lb⟩, lost⟩ ⟨lk', lf', lc', lt', lb'⟩ _ (HX3.out.ext (((Ext.refl _).alloc _).alloc _)) (HO3.out.ext (((Ext.refl _).alloc _).alloc _)) (heap_new (by simp)) hB (Nat.le_trans hBw (Nat.le_trans HK3.out.size (((Ext.refl _).alloc _).alloc _).size)) hn).mono ?_; rintro e w4 ⟨rfl, hH⟩; have HH := Lib.hid hH; clear hH))
      refine ⟨rfl, .tuple #[], by simp [results, go_sem], rfl, ?_⟩
      rw [hV, TL.out]
      exact Heard1.from (HK3.out.ext (((Ext.refl _).alloc _).alloc _)) HH.out

/-- The notary is asked. -/
theorem mo_asked (B gx : Nat) (x : Ex) (v : Value) (m : Mv) (w : World) (hX : ExAt w gx x v) (hO : Own w B x.h v) (hB : gx < B) (hBw : B ≤ w.heap.size) (hn : x.h.length ≤ 100000) :
    Calls Tryz.prog 69 #[.pointer (some ⟨gx, 0, none⟩), .agg m.arr] w fun e w' => e = .returned (.tuple #[]) ∧ Heard1 B gx (askX x m) v w w' := by
  by_cases h : (m.l.k = 4 ∧ m.l.b = false) ∨ m.l.k = 3
  · rw [askX_do h]
    obtain ⟨mk, who, mt, ⟨lk, lf, lc, lt, lb⟩, lost⟩ := m
    simp only at h
    rcases h with ⟨rfl, rfl⟩ | rfl
    · exact mo_askedB4 B gx x v mk who mt lf lc lt lost w hX hO hB hBw hn
    · exact mo_askedB3 B gx x v mk who mt lf lc lt lb lost w hX hO hB hBw hn
  · rw [askX_no h]
    exact (mo_asked0 gx x v m w hX h).mono fun e w' h => ⟨h.1, heard_same hX hO h.2⟩
end Go.Proofs.YtlnmhocehgmbbaaGreatDoor

/-
  Walks: a new exchange; the beginning of a step. No condition.
-/
namespace Go.Proofs.YtlnmhocehgmbbaaGreatDoor
open Go.RowKit
attribute [local go_sem ↓] eql_lEq eql_sEq eql_eEq eql_oEq neq_lEq neq_sEq neq_eEq neq_oEq eql_vEq neq_vEq eql_nil
attribute [local go_sem] ExtOf.cell ExtOf.frozen ExtOf.lt ExtOf.le
attribute [local go_sem high] ExtOf.cell2 ExtOf.frozen2 ExtOf.lt2 ExtOf.cell3 ExtOf.frozen3 ExtOf.lt3

theorem arr_one (x : Ex) {v : Value} (h : v.oneCell' = true) : (x.arr v).all (·.oneCell') = true := by
  simp [Ex.arr, Value.oneCell'] at h ⊢
  exact h
theorem own_slice {w : World} {B : Nat} {h : List Lt} {v : Value} (o : Own w B h v) : ∃ a n c, v = .slice a n c := by
  rcases own_nil_or o with hv | ⟨a, n, c, hv⟩
  · exact ⟨_, _, _, hv⟩
  · exact ⟨_, _, _, hv⟩
theorem keeps_ext {X : List Nat} {w a b : World} (h : Ext w a) (k : Keeps X a b) (hX : ∀ g ∈ X, w.heap.size ≤ g) : Ext w b :=
  ⟨k.os.trans h.os, k.tape.trans h.tape, k.output.trans h.output, Nat.le_trans h.size k.size, fun i hi => (k.block i (Nat.lt_of_lt_of_le hi h.size) fun he => absurd (hX i he) (by omega)).trans (h.block i hi)⟩
theorem own_rowB {w : World} {B : Nat} {h : List Lt} {v : Value} (o : Own w B h v) : ∀ g ∈ rowB v, B ≤ g ∧ g < w.heap.size := by
  intro g hg
  rcases o.2 with ⟨hv, _⟩ | ⟨g', cap, cur, hv, hb, hg', _⟩
  · subst hv; simp [rowB, Value.ownBlock] at hg
  · subst hv
    simp only [rowB, Value.ownBlock, List.mem_singleton] at hg
    subst hg
    exact ⟨hb, (Array.getElem?_eq_some_iff.1 hg').1⟩

set_option maxRecDepth 100000 in
set_option maxHeartbeats 3200000 in
theorem mo_new (c : Int) (w : World) : Calls Tryz.prog 26 #[.int .u64 c] w fun e w' => e = .returned (.agg ((newX c).arr (.slice none 0 0))) ∧ Ext w w' := by
  go_enter Tryz.func26, Tryz.ntmps26
  go_wp2_with (first
    | (go_at_call 49; refine (or_new _ _).mono ?_; rintro e w1 ⟨rfl, hx⟩; obtain ⟨x1, rfl⟩ := ext_of hx; clear hx)
    | (go_at_call 50; refine (an_new _ _).mono ?_; rintro e w1 ⟨rfl, hx⟩; obtain ⟨x2, rfl⟩ := ext_of hx; clear hx)
    | (refine wpList_store_row rfl 33 _ _ rfl _ _ rfl rfl 33 _ (heap_ext (heap_new rfl) (x1.ext.trans x2.ext)) info_ex rfl (by simp [Value.oneCell']) ?_))
  exact bodyPost_ret (results_cell_row rfl _ _ _ _ _ (0, 0) _ rfl (setRow_heap _ _ _ _ _ _ (heap_ext (heap_new rfl) (x1.ext.trans x2.ext))) Tryz.underlying33 rfl info_ex) rfl ⟨rfl, Ext.setRow ((((Ext.refl _).alloc _).val x1).val x2) (by omega) _⟩

/-- What holds at region 4 of a step: x in block H, the move in H+1, the result's block H+2, the copy in gy, the event in ge. -/
structure At4 (w W : World) (B gy ge : Nat) (x : Ex) (m : Mv) (v v1 : Value) (zs : Array Value) : Prop where
  hx : ExAt W w.heap.size x v
  hm : W.heap[w.heap.size + 1]? = some (.cells m.arr 52 (0, 0))
  hr : W.heap[w.heap.size + 1 + 1]? = some (.cells zs 33 (0, 0))
  hy : ExAt W gy x v1
  ho : Own W B x.h v1
  he : W.heap[ge]? = some (.cells #[.int .i64 0, .int .u64 x.c, .string { data := #[] }, .int .i64 0, .int .i64 0, .int .u64 0, .string { data := #[] }, .bool false] 102 (0, 0))
  ext : Ext w W
  hgy : w.heap.size + 1 + 1 < gy
  hB : gy < B
  hge : B ≤ ge
  hgr : ∀ g ∈ rowB v1, g < ge
  hn : zs.size = 26

end Go.Proofs.YtlnmhocehgmbbaaGreatDoor

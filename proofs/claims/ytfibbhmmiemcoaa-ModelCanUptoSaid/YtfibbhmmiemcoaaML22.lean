/-
  Trees of terms in memory; the walks of those that make them. No condition.
-/
import Derived.Test.YtfibbhmmiemcoaaML21
set_option linter.all false
namespace Go.Proofs.Ytfibbhmmiemcoaa
open Go.RowKit
attribute [local go_sem] ExtOf.cell ExtOf.frozen ExtOf.lt ExtOf.le
attribute [local go_sem high] ExtOf.cell2 ExtOf.frozen2 ExtOf.lt2 ExtOf.cell3 ExtOf.frozen3 ExtOf.lt3

def trC (t : Tt) (x : Value) : List Value := [.int .i64 (ndT [] t).k, .int .i64 (ndT [] t).f, .int .i64 (ndT [] t).t, .int .u64 (ndT [] t).n, .string (ndT [] t).s, x]
def trV (t : Tt) (x : Value) : Value := .agg #[.int .i64 (ndT [] t).k, .int .i64 (ndT [] t).f, .int .i64 (ndT [] t).t, .int .u64 (ndT [] t).n, .string (ndT [] t).s, x]

/-- A row of one tree, of two. -/
def One (ok : Nat → Prop) (w : World) (a : Tt) (A : Value → Prop) (k : Value) : Prop :=
  ∃ g x, k = .slice (some ⟨g, 0, none⟩) 1 1 ∧ ok g ∧ g < w.heap.size ∧ (∀ j u, (trC a x)[j]? = some u → w.cell? ⟨g, j, none⟩ = some u) ∧ A x
def Two (ok : Nat → Prop) (w : World) (a b : Tt) (A B : Value → Prop) (k : Value) : Prop :=
  ∃ g x y, k = .slice (some ⟨g, 0, none⟩) 2 2 ∧ ok g ∧ g < w.heap.size ∧ (∀ j u, (trC a x ++ trC b y)[j]? = some u → w.cell? ⟨g, j, none⟩ = some u) ∧ A x ∧ B y
/-- The kids of a tree, in blocks of one's own. -/
def kidsAt (ok : Nat → Prop) (w : World) : Tt → Value → Prop
  | .pair a b => Two ok w a b (kidsAt ok w a) (kidsAt ok w b)
  | .hash a => One ok w a (kidsAt ok w a)
  | .sign _ a => One ok w a (kidsAt ok w a)
  | .prom _ _ a => One ok w a (kidsAt ok w a)
  | .fake _ _ a => One ok w a (kidsAt ok w a)
  | _ => fun k => k = .slice none 0 0

theorem cell_blk {w w' : World} {g j : Nat} {u : Value} (h : w.cell? ⟨g, j, none⟩ = some u) (e : w'.heap[g]? = w.heap[g]?) : w'.cell? ⟨g, j, none⟩ = some u := by
  simp only [World.cell?] at h ⊢
  rw [e]; exact h
theorem kids_mono {ok ok' : Nat → Prop} {w w' : World} (h : ∀ g, ok g → g < w.heap.size → ok' g ∧ g < w'.heap.size ∧ w'.heap[g]? = w.heap[g]?) : ∀ {t : Tt} {k : Value}, kidsAt ok w t k → kidsAt ok' w' t k := by
  have one : ∀ {a : Tt} {A A' : Value → Prop} {k : Value}, (∀ x, A x → A' x) → One ok w a A k → One ok' w' a A' k := by
    rintro a A A' k hA ⟨g, x, rfl, h1, h2, h3, h4⟩
    obtain ⟨g1, g2, g3⟩ := h g h1 h2
    exact ⟨g, x, rfl, g1, g2, fun j u hj => cell_blk (h3 j u hj) g3, hA _ h4⟩
  have two : ∀ {a b : Tt} {A A' B B' : Value → Prop} {k : Value}, (∀ x, A x → A' x) → (∀ x, B x → B' x) → Two ok w a b A B k → Two ok' w' a b A' B' k := by
    rintro a b A A' B B' k hA hB ⟨g, x, y, rfl, h1, h2, h3, h4, h5⟩
    obtain ⟨g1, g2, g3⟩ := h g h1 h2
    exact ⟨g, x, y, rfl, g1, g2, fun j u hj => cell_blk (h3 j u hj) g3, hA _ h4, hB _ h5⟩
  intro t
  induction t with
  | pair a b iha ihb => intro k hk; exact two (fun _ => iha) (fun _ => ihb) hk
  | hash a iha => intro k hk; exact one (fun _ => iha) hk
  | sign n a iha => intro k hk; exact one (fun _ => iha) hk
  | prom f t a iha => intro k hk; exact one (fun _ => iha) hk
  | fake f t a iha => intro k hk; exact one (fun _ => iha) hk
  | name n => intro k hk; exact hk
  | num n => intro k hk; exact hk
  | data n => intro k hk; exact hk
  | key n => intro k hk; exact hk
theorem kids_ext {ok : Nat → Prop} {w w' : World} {t : Tt} {k : Value} (h : kidsAt ok w t k) (e : Ext w w') : kidsAt ok w' t k :=
  kids_mono (fun g h1 h2 => ⟨h1, Nat.lt_of_lt_of_le h2 e.size, e.block g h2⟩) h

/-- Made: a tree, in blocks from C on. -/
def TM (C : Nat) (t : Tt) (w : World) (e : Ending) (w' : World) : Prop := Ext w w' ∧ ∃ k, e = .returned (trV t k) ∧ kidsAt (fun g => C ≤ g) w' t k
theorem info_tree (a b c d s x : Value) : (Try.prog.info? 82).map (·.size) = some (#[a, b, c, d, s, x] : Array Value).size := by
  rw [show (#[a, b, c, d, s, x] : Array Value).size = 6 from rfl]
  kernel_rfl

set_option maxRecDepth 100000 in
set_option maxHeartbeats 1600000 in
theorem le_data (s : ByteArray) (w : World) : Calls Try.prog 63 #[.string s] w fun e w' => e = .returned (trV (.data s) (.slice none 0 0)) ∧ Ext w w' := by
  go_enter Try.func63, Try.ntmps63
  go_wp2_with fail
  refine bodyPost_ret (results_cell_row rfl _ _ _ 82 _ (0, 0) _ rfl (heap_new (by simp)) Try.underlying82 rfl (info_tree _ _ _ _ _ _)) rfl ?_
  exact ⟨rfl, ((Ext.refl _).alloc _)⟩
set_option maxRecDepth 100000 in
set_option maxHeartbeats 1600000 in
theorem le_number (n : Int) (w : World) : Calls Try.prog 64 #[.int .u64 n] w fun e w' => e = .returned (trV (.num n) (.slice none 0 0)) ∧ Ext w w' := by
  go_enter Try.func64, Try.ntmps64
  go_wp2_with fail
  refine bodyPost_ret (results_cell_row rfl _ _ _ 82 _ (0, 0) _ rfl (heap_new (by simp)) Try.underlying82 rfl (info_tree _ _ _ _ _ _)) rfl ?_
  exact ⟨rfl, ((Ext.refl _).alloc _)⟩

theorem cell_new6 {w : World} {g : Nat} {cs : Array Value} {t : TypeId} {j : Nat} {u : Value} (h : w.heap[g]? = some (.cells cs t (0, 0))) (hu : cs.toList[j]? = some u) : w.cell? ⟨g, j, none⟩ = some u := by
  rw [cell_of_row w g j cs t (0, 0) h]
  simpa using hu

set_option maxRecDepth 100000 in
set_option maxHeartbeats 1600000 in
theorem le_pair (C : Nat) (a b : Tt) (x y : Value) (w : World) (hC : C ≤ w.heap.size) (ha : kidsAt (fun g => C ≤ g) w a x) (hb : kidsAt (fun g => C ≤ g) w b y) : Calls Try.prog 62 #[trV a x, trV b y] w (TM C (.pair a b) w) := by
  have HA := Lib.hid ha
  have HB := Lib.hid hb
  clear ha hb
  unfold trV
  go_enter Try.func62, Try.ntmps62
  go_wp2_with fail
  refine bodyPost_ret (results_cell_row rfl _ _ _ 82 _ (0, 0) _ rfl (heap_ext (heap_new (by simp)) ((Ext.refl _).alloc _)) Try.underlying82 rfl (info_tree _ _ _ _ _ _)) rfl ?_
  have hx := ((((Ext.refl w).alloc (.cells (trC a x).toArray 82)).alloc (.cells (trC b y).toArray 82)).alloc (.cells #[.int .i64 4, .int .i64 0, .int .i64 0, .int .u64 0, .string { data := #[] }, .slice (some ⟨w.heap.size + 1 + 1 + 1, 0, none⟩) 2 2] 82)).alloc (.cells (trC a x ++ trC b y).toArray 82)
  refine ⟨hx, _, rfl, w.heap.size + 1 + 1 + 1, x, y, rfl, by show C ≤ _; omega, by simp, fun j u hj => ?_, kids_ext HA.out hx, kids_ext HB.out hx⟩
  exact cell_new6 (heap_new (by simp)) hj
/-- A tree of one kid. -/
theorem kids_one {C : Nat} {w : World} {t a : Tt} {k : Value} (h : kidsT t = [a]) (hk : One (fun g => C ≤ g) w a (kidsAt (fun g => C ≤ g) w a) k) : kidsAt (fun g => C ≤ g) w t k := by
  cases t <;> simp [kidsT] at h <;> subst h <;> exact hk

set_option maxRecDepth 100000 in
set_option maxHeartbeats 1600000 in
theorem le_sign (C : Nat) (n : Int) (a : Tt) (x : Value) (w : World) (hC : C ≤ w.heap.size) (ha : kidsAt (fun g => C ≤ g) w a x) : Calls Try.prog 61 #[.int .i64 n, trV a x] w (TM C (.sign n a) w) := by
  have HA := Lib.hid ha
  clear ha
  unfold trV
  go_enter Try.func61, Try.ntmps61
  go_wp2_with fail
  refine bodyPost_ret (results_cell_row rfl _ _ _ 82 _ (0, 0) _ rfl (heap_ext (heap_new (by simp)) ((Ext.refl _).alloc _)) Try.underlying82 rfl (info_tree _ _ _ _ _ _)) rfl ?_
  have hx := (((Ext.refl w).alloc (.cells (trC a x).toArray 82)).alloc (.cells #[.int .i64 7, .int .i64 n, .int .i64 0, .int .u64 0, .string { data := #[] }, .slice (some ⟨w.heap.size + 1 + 1, 0, none⟩) 1 1] 82)).alloc (.cells (trC a x).toArray 82)
  refine ⟨hx, _, rfl, w.heap.size + 1 + 1, x, rfl, by show C ≤ _; omega, by simp, fun j u hj => ?_, kids_ext HA.out hx⟩
  exact cell_new6 (heap_new (by simp)) hj
set_option maxRecDepth 100000 in
set_option maxHeartbeats 1600000 in
theorem le_promise (C : Nat) (f : Int) (b : Bool) (a : Tt) (x : Value) (w : World) (hf : f = 0 ∨ f = 1) (hC : C ≤ w.heap.size) (ha : kidsAt (fun g => C ≤ g) w a x) : Calls Try.prog 60 #[.int .i64 f, .bool b, trV a x] w (TM C (prmT f b a) w) := by
  have HA := Lib.hid ha
  clear ha
  unfold trV
  rcases hf with rfl | rfl <;> cases b <;>
  · go_enter Try.func60, Try.ntmps60
    go_wp2_with fail
    refine bodyPost_ret (results_cell_row rfl _ _ _ 82 _ (0, 0) _ rfl (heap_ext (heap_new (by simp)) ((Ext.refl _).alloc _)) Try.underlying82 rfl (info_tree _ _ _ _ _ _)) rfl ?_
    refine ⟨(((Ext.refl w).alloc (.cells (trC a x).toArray 82)).alloc _).alloc (.cells (trC a x).toArray 82), _, rfl, w.heap.size + 1 + 1, x, rfl, by show C ≤ _; omega, by simp, fun j u hj => ?_, kids_ext HA.out ((((Ext.refl w).alloc (.cells (trC a x).toArray 82)).alloc _).alloc (.cells (trC a x).toArray 82))⟩
    exact cell_new6 (heap_new (by simp)) hj
theorem kids_data {ok : Nat → Prop} {w : World} (s : ByteArray) : kidsAt ok w (.data s) (.slice none 0 0) := rfl
theorem kids_num {ok : Nat → Prop} {w : World} (n : Int) : kidsAt ok w (.num n) (.slice none 0 0) := rfl
theorem kids_slice {ok : Nat → Prop} {w : World} {t : Tt} {k : Value} (h : kidsAt ok w t k) : ∃ a n c, k = .slice a n c := by
  have one : ∀ {a : Tt} {A : Value → Prop}, One ok w a A k → ∃ a n c, k = .slice a n c := by
    rintro a A ⟨g, x, rfl, _⟩; exact ⟨_, _, _, rfl⟩
  cases t with
  | pair a b => obtain ⟨g, x, y, rfl, _⟩ := h; exact ⟨_, _, _, rfl⟩
  | hash a => exact one h
  | sign n a => exact one h
  | prom f t a => exact one h
  | fake f t a => exact one h
  | name n => exact ⟨_, _, _, h⟩
  | num n => exact ⟨_, _, _, h⟩
  | data n => exact ⟨_, _, _, h⟩
  | key n => exact ⟨_, _, _, h⟩
theorem tree_cells (t : Tt) (a : Option Addr) (n c : Nat) : (#[Value.int .i64 (ndT [] t).k, .int .i64 (ndT [] t).f, .int .i64 (ndT [] t).t, .int .u64 (ndT [] t).n, .string (ndT [] t).s, .slice a n c] : Array Value).toList.all Value.oneCell' = true := by simp [Value.oneCell']
/-- The tree is laid into the result's cell, which is none of its own blocks. -/
theorem kids_row {C r : Nat} {w : World} {t : Tt} {k : Value} {cs : Array Value} (h : kidsAt (fun g => r + 1 ≤ g) w t k) (hC : C ≤ r) : kidsAt (fun g => C ≤ g) (w.setRow r cs) t k :=
  kids_mono (fun g h1 h2 => ⟨by show C ≤ g; omega, by simpa using h2, setRow_other w r g cs (by omega)⟩) h

set_option maxRecDepth 100000 in
set_option maxHeartbeats 1600000 in
theorem le_deal (C : Nat) (c : Int) (s : ByteArray) (w : World) (hC : C ≤ w.heap.size) : Calls Try.prog 59 #[.int .u64 c, .string s] w (TM C (dealT c s) w) := by
  go_enter Try.func59, Try.ntmps59
  go_wp2_with fail
  refine (le_data _ _).mono ?_
  rintro e w2 ⟨rfl, hx⟩; obtain ⟨y1, rfl⟩ := ext_of hx; clear hx
  go_wp2_with fail
  refine (le_number _ _).mono ?_
  rintro e w2 ⟨rfl, hx⟩; obtain ⟨y2, rfl⟩ := ext_of hx; clear hx
  go_wp2_with fail
  refine (le_data _ _).mono ?_
  rintro e w2 ⟨rfl, hx⟩; obtain ⟨y3, rfl⟩ := ext_of hx; clear hx
  have hx3 := (((((Ext.refl w).alloc (.cells #[.int .i64 0, .int .i64 0, .int .i64 0, .int .u64 0, .string { data := #[] }, .slice none 0 0] 82)).trans y1.ext).trans y2.ext).trans y3.ext)
  have hr3 := heap_ext (heap_ext (heap_ext (heap_new (w := w) (o := .cells #[.int .i64 0, .int .i64 0, .int .i64 0, .int .u64 0, .string { data := #[] }, .slice none 0 0] 82) rfl) y1.ext) y2.ext) y3.ext
  have hs3 := (Array.getElem?_eq_some_iff.1 hr3).1
  generalize y3.val = w3 at hx3 hr3 hs3 ⊢
  have HX3 := Lib.hid hx3
  have HR3 := Lib.hid hr3
  have HS3 := Lib.hid hs3
  clear hx3 hr3 hs3
  go_wp2_with fail
  refine (le_pair (w.heap.size + 1) (.num c) (.data s) _ _ _ HS3.out (kids_num c) (kids_data s)).mono ?_
  rintro e w4 ⟨hx4, k4, rfl, hk4⟩
  have HX4 := Lib.hid hx4
  have HK4 := Lib.hid hk4
  clear hx4 hk4
  go_wp2_with fail
  refine (le_pair (w.heap.size + 1) (.data wDeal) _ _ _ _ (Nat.le_trans HS3.out HX4.out.size) (kids_data wDeal) HK4.out).mono ?_
  rintro e w5 ⟨hx5, k5, rfl, hk5⟩
  obtain ⟨a5, n5, c5, rfl⟩ := kids_slice hk5
  unfold trV
  go_wp2_with (refine wpList_store_row rfl 82 _ _ rfl _ _ rfl rfl 82 _ (heap_ext (heap_ext HR3.out HX4.out) hx5) (info_tree _ _ _ _ _ _) rfl (by simp [Value.oneCell']) ?_)
  refine bodyPost_ret (results_cell_row rfl _ _ _ 82 _ (0, 0) _ rfl (setRow_heap _ _ _ _ _ _ (heap_ext (heap_ext HR3.out HX4.out) hx5)) Try.underlying82 rfl (info_tree _ _ _ _ _ _)) rfl ?_
  exact ⟨Ext.setRow ((HX3.out.trans HX4.out).trans hx5) (Nat.le_refl _) _, _, rfl, kids_row hk5 hC⟩
end Go.Proofs.Ytfibbhmmiemcoaa

/-
  Walks: a letter in a list of letters; a copy of a list. No condition.
-/
namespace Go.Proofs.Ytfibbhmmiemcoaa
open Go.RowKit
attribute [local go_sem ↓] eql_lEq eql_sEq eql_eEq eql_oEq neq_lEq neq_sEq neq_eEq neq_oEq eql_vEq neq_vEq eql_nil
attribute [local go_sem] ExtOf.cell ExtOf.frozen ExtOf.lt ExtOf.le
attribute [local go_sem high] ExtOf.cell2 ExtOf.frozen2 ExtOf.lt2 ExtOf.cell3 ExtOf.frozen3 ExtOf.lt3

set_option maxHeartbeats 1600000 in
theorem sl_index (v : Value) (L : List Lt) (l : Lt) (w : World) (hR : Row w 5 v L.length (L.flatMap Lt.cs)) :
    Calls Try.prog 42 #[v, .agg #[.int .i64 l.k, .int .i64 l.f, .int .u64 l.c, .string l.t, .bool l.b]] w fun e w' => ∃ n : Int, e = .returned (.int .i64 n) ∧ decide (0 ≤ n) = decide (l ∈ L) ∧ Ext w w' := by
  obtain ⟨a, cap, rfl, hm, hvw⟩ := row_view hR
  have HV := Lib.hid hvw
  clear hvw hR
  unfold maxLen at hm
  go_enter Try.func42, Try.ntmps42
  go_wp2_with fail
  refine wp_forget (fun w' => w'.heap[w.heap.size]? = some (.cells #[.int .i64 l.k, .int .i64 l.f, .int .u64 l.c, .string l.t, .bool l.b] 24 (0, 0)) ∧ Ext w w') ⟨heap_new rfl, (Ext.refl _).alloc _⟩ ?_
  rintro W1 ⟨h1, x1⟩
  have c1 := fun j => cell_of_row W1 _ j _ _ _ h1
  have l1 : w.heap.size < W1.heap.size := (Array.getElem?_eq_some_iff.1 h1).1
  have X1 := Lib.hid x1
  clear h1 x1
  go_loopg [8] L.length (fun g ii wr => ∃ (n : Nat) (y : ExtOf W1), ii = .int .i64 (n : Int) ∧ n + g = L.length ∧ wr = y.val ∧ Hid (∀ (j : Nat) z, j < n → L[j]? = some z → z ≠ l))
  case atStart => exact ⟨0, ⟨W1, Ext.refl _⟩, rfl, by omega, rfl, Lib.hid fun _ _ h => by omega⟩
  case round =>
    obtain ⟨n, y, rfl, hg, rfl, HN⟩ := hrel
    by_cases hlt : n < L.length
    · obtain ⟨g, off, rfl, hgl, hcell⟩ := HV.out (by omega)
      have hgl := hgl (by omega)
      obtain ⟨x, hx⟩ : ∃ x, L[n]? = some x := ⟨_, List.getElem?_eq_getElem hlt⟩
      obtain ⟨q0, q1, q2, q3, q4⟩ := lt_cellsO (fun j u hj => cell_keep (hcell j u hj) X1.out) hx
      have HX := Lib.hid hx
      have hgl1 : g < W1.heap.size := Nat.lt_of_lt_of_le hgl X1.out.size
      clear hx hcell hgl
      have hlt' : (n : Int) < (L.length : Int) := by omega
      by_cases he : l = x
      · have he' : lEq l.k l.f l.c l.t l.b x.k x.f x.c x.t x.b = true := by rw [lEq_lt]; simpa using he
        have HE := Lib.hid he
        clear he
        go_wp2_with fail
        refine wp_region_ext (by kernel_rfl) (by kernel_rfl) ?_
        repeat (go_big_quiet_step (fail))
        refine wpQuiet_nil ?_
        intro _ hx'
        obtain ⟨z, rfl⟩ := hx'
        go_wp2_with fail
        go_ret
        refine ⟨n, rfl, ?_, X1.out.trans (y.ext.val z)⟩
        rw [HE.out, decide_eq_decide]
        exact ⟨fun _ => mem_of_get HX.out, fun _ => by omega⟩
      · have he' : lEq l.k l.f l.c l.t l.b x.k x.f x.c x.t x.b = false := by rw [lEq_lt]; simpa using he
        have HE := Lib.hid he
        clear he
        go_wp2_with fail
        refine wp_region_ext (by kernel_rfl) (by kernel_rfl) ?_
        repeat (go_big_quiet_step (fail))
        refine wpQuiet_nil ?_
        intro _ hx'
        obtain ⟨z, rfl⟩ := hx'
        go_wp2_with fail
        go_roundg (gk - 1)
        case rel =>
          refine ⟨n + 1, ⟨z.val, y.ext.val z⟩, rfl, by omega, rfl, Lib.hid fun j u hj hu => ?_⟩
          by_cases hjn : j = n
          · subst hjn
            rw [HX.out, Option.some.injEq] at hu
            rw [← hu]
            exact fun h => HE.out h.symm
          · exact HN.out j u (by omega) hu
        case measure => omega
    · have hge : (L.length : Int) ≤ (n : Int) := by omega
      go_wp2_with fail
      go_ret
      refine ⟨-1, rfl, ?_, X1.out.val y⟩
      rw [decide_eq_decide]
      refine ⟨fun h => by omega, fun h => absurd h (not_mem_of_all fun j z hz => HN.out j z ?_ hz)⟩
      have := (List.getElem?_eq_some_iff.1 hz).1
      omega

set_option maxHeartbeats 800000 in
theorem sl_contains (v : Value) (L : List Lt) (l : Lt) (w : World) (hR : Row w 5 v L.length (L.flatMap Lt.cs)) :
    Calls Try.prog 20 #[v, .agg #[.int .i64 l.k, .int .i64 l.f, .int .u64 l.c, .string l.t, .bool l.b]] w fun e w' => e = .returned (.bool (decide (l ∈ L))) ∧ Ext w w' := by
  have HR := Lib.hid hR
  clear hR
  go_enter Try.func20, Try.ntmps20
  go_wp2_with fail
  refine (sl_index v L l _ (HR.out.ext ((Ext.refl _).alloc _))).mono ?_
  rintro e w1 ⟨n, rfl, hn, hx⟩
  have HN := Lib.hid hn
  have HX := Lib.hid hx
  clear hn hx
  go_wp2_with fail
  go_ret
  exact ⟨by rw [HN.out]; rfl, ((Ext.refl _).alloc _).trans HX.out⟩

theorem info_letter : (Try.prog.info? 24).map (fun i => (i.zero, i.size, i.bytes)) = some (some (.agg #[.int .i64 0, .int .i64 0, .int .u64 0, .string { data := #[] }, .bool false]), 5, 48) := by kernel_rfl

theorem lt_one (L : List Lt) : ∀ u ∈ L.flatMap Lt.cs, u.oneCell' = true := fun u hu => by
  obtain ⟨x, _, hx⟩ := List.mem_flatMap.1 hu
  simp only [Lt.cs, List.mem_cons, List.not_mem_nil, or_false] at hx
  rcases hx with rfl | rfl | rfl | rfl | rfl <;> rfl

theorem own_nil_or {w : World} {B n : Nat} {e : TypeId} {size : Nat} {v : Value} {xs : List Value} (h : w.ownsRow B e size v n xs) : v = .slice none 0 0 ∨ ∃ a n c, v = .slice (some a) n c := by
  rcases h.2 with ⟨hv, _⟩ | ⟨g, cap, cur, hv, _⟩
  · exact .inl hv
  · exact .inr ⟨_, _, _, hv⟩

set_option maxRecDepth 100000 in
/-- A copy of a row of letters, in a block of its own. -/
theorem sl_clone (v : Value) (B : Nat) (L : List Lt) (w : World) (hO : w.ownsRow B 24 5 v L.length (L.flatMap Lt.cs)) (hl : L.length ≤ 100000) :
    Calls Try.prog 45 #[v] w fun e w' => ∃ v', e = .returned v' ∧ w'.ownsRow w.heap.size 24 5 v' L.length (L.flatMap Lt.cs) ∧ Ext w w' := by
  obtain ⟨i0, hi, hz0, hz1, hz2⟩ := info_parts info_letter
  rcases own_nil_or hO with hv | ⟨a, n, c, hv⟩
  · subst hv
    have hL : L.length = 0 := by
      rcases hO.2 with ⟨_, h⟩ | ⟨g, cap, cur, h, _⟩
      · exact h
      · cases h
    have hL0 : L = [] := List.length_eq_zero_iff.1 hL
    subst hL0
    go_enter Try.func45, Try.ntmps45
    go_wp2_with fail
    go_ret
    exact ⟨_, rfl, World.ownsRow_nil _ _ _ _, Ext.refl _⟩
  · subst hv
    have HO := Lib.hid hO
    clear hO
    go_enter Try.func45, Try.ntmps45
    go_wp2_with (first | (at_builtin; refine unHd ?_))
    unfold Hd2
    refine wpList_app4 w.heap.size 31 24 i0 _ 5 48 Try.underlying31 hi hz0 hz1 hz2 rfl (by decide) rfl _ _ rfl _ 0 [] rfl (own_new (Ext.refl w) rfl (by decide) rfl rfl) (by simp) _ L.length (L.flatMap Lt.cs) rfl
      ((Row.of_own HO.out).ext ((Ext.refl _).alloc _)) (.inr ⟨_, _, _, rfl⟩) (lt_one L) (by unfold maxLen; omega) (by omega) ?_
    intro v' w' h1 h2 _
    have hx : Ext w w' := ((Ext.refl _).alloc _).trans' h2
    rw [Nat.zero_add, List.nil_append] at h1
    go_wp2_with fail
    go_ret
    exact ⟨_, rfl, h1, hx⟩
end Go.Proofs.Ytfibbhmmiemcoaa

/-
  Walks: the moves that there may be. No condition.
-/
import Derived.Test.YtlnmhocehgmbbaaGreatDoorMS15
namespace Go.Proofs.YtlnmhocehgmbbaaGreatDoor
open Go.RowKit
attribute [local go_sem ↓] eql_lEq eql_sEq eql_eEq eql_oEq neq_lEq neq_sEq neq_eEq neq_oEq eql_vEq neq_vEq eql_nil
attribute [local go_sem] ExtOf.cell ExtOf.frozen ExtOf.lt ExtOf.le
attribute [local go_sem high] ExtOf.cell2 ExtOf.frozen2 ExtOf.lt2 ExtOf.cell3 ExtOf.frozen3 ExtOf.lt3

theorem info_move : (Tryz.prog.info? 52).map (fun i => (i.zero, i.size, i.bytes)) = some (some (.agg #[.int .i64 0, .int .i64 0, .string { data := #[] }, .int .i64 0, .int .i64 0, .int .u64 0, .string { data := #[] }, .bool false, .bool false]), 9, 88) := by kernel_rfl

/-- A row of moves of the call's own. -/
def Own9 (w : World) (B : Nat) (L : List Mv) (v : Value) : Prop := w.ownsRow B 52 9 v L.length (L.flatMap Mv.cs)
theorem Own9.ext {w w' : World} {B : Nat} {L : List Mv} {v : Value} (h : Own9 w B L v) (e : Ext w w') : Own9 w' B L v := own_ext h e
theorem kept_grown {w w' : World} {v : Value} {b : Nat} {ob : Obj} (h : w.heap[b]? = some ob) (g : w.grownBy w' v.ownBlock) (hb : b ∉ rowB v) : w'.heap[b]? = some ob := by
  rw [g.block b (Array.getElem?_eq_some_iff.1 h).1 (fun he => hb (by unfold rowB; rw [← he]; exact .head _))]
  exact h
theorem own_rowB9 {w : World} {B : Nat} {e : TypeId} {size n : Nat} {xs : List Value} {v : Value} (o : w.ownsRow B e size v n xs) : ∀ g ∈ rowB v, B ≤ g ∧ g < w.heap.size := by
  intro g hg
  rcases o.2 with ⟨hv, _⟩ | ⟨g', cap, cur, hv, hb, hg', _⟩
  · subst hv; simp [rowB, Value.ownBlock] at hg
  · subst hv
    simp only [rowB, Value.ownBlock, List.mem_singleton] at hg
    subst hg
    exact ⟨hb, (Array.getElem?_eq_some_iff.1 hg').1⟩
section
variable {P : Program} {ops : Array Oper} {Q : Exit → Act → World → Prop}
/-- append to a row of the call's own, of what was just built; where the row lies then, and what stays. -/
theorem wpList_app6 {rest : List Oper} {o : Oper} {a : Act} {w : World} (B : Nat) (t e : TypeId) (i : TypeInfo) (z : Value) (size bytes : Nat)
    (ht : P.underlying t = some (.slice e)) (hi : P.info? e = some i) (hz : i.zero = some z) (hsize : i.size = size) (hby : i.bytes = bytes) (hzs : z.cells.size = size) (hsz : 0 < size)
    (hgd : o.guard = none) (s x : Operand) (ho : o.op = .call { callee := .builtin .append, args := #[s, x], argTypes := #[t, t] })
    (v : Value) (n : Nat) (xs : List Value) (hs : a.eval s = v) (hown : w.ownsRow B e size v n xs) (hB : B ≤ w.heap.size)
    (G m c : Nat) (news : Array Value) (hm : 0 < m) (hx : a.eval x = .slice (some ⟨G, 0, none⟩) m c) (hG : w.heap[G]? = some (.cells news e (0, 0))) (hl : news.size = m * size) (h1 : ∀ u ∈ news.toList, u.oneCell' = true)
    (h63 : n + m ≤ maxLen) (hbytes : (n + m) * bytes ≤ 140737488355328)
    (h : ∀ v' w', w'.ownsRow B e size v' (n + m) (xs ++ news.toList) → Below B w w' → w.grownBy w' v.ownBlock → (∀ g ∈ rowB v', g ∈ rowB v ∨ w.heap.size ≤ g) → wpList P ops Q rest (a.put o.dst v') w') : wpList P ops Q (o :: rest) a w :=
  wpList_app5 B t e i z size bytes ht hi hz hsize hby hzs hsz hgd s x ho v n xs hs hown hB G m c news hm hx hG hl h1 h63 hbytes
    fun v' w' k1 k2 k3 => h v' w' k1 (Below.grown (Below.refl _ _) k2 hB fun k hk => (hown.lt k hk).1) k2 k3
end

def startM (who : Int) (t : ByteArray) : Mv := ⟨1, who, t, l0, false⟩
def takeM (who : Int) (l : Lt) : Mv := ⟨2, who, { data := #[] }, l, false⟩
def tickM (who : Int) : Mv := ⟨3, who, { data := #[] }, l0, false⟩
def askA (c : Int) : Mv := ⟨4, 0, { data := #[] }, ⟨3, 0, c, { data := #[] }, false⟩, false⟩
def askR (c f : Int) (t : ByteArray) : Mv := ⟨4, 0, { data := #[] }, ⟨4, f, c, t, false⟩, false⟩
theorem candP_no {evs : St → List Ev} {x : Ex} {T : List ByteArray} {who : Int} (h : x.bad who = true) : candP evs x T who = [] := by simp [candP, h]
theorem candP_yes {evs : St → List Ev} {x : Ex} {T : List ByteArray} {who : Int} (h : x.bad who = false) : candP evs x T who = T.map (startM who) ++ (linesS evs x who).map (takeM who) ++ [tickM who] := by
  unfold candP
  rw [if_neg (by rw [h]; simp), List.append_assoc]
  rfl
/-- What lies behind so many parties. -/
def cand1 (evs : St → List Ev) (x : Ex) (T : List ByteArray) (n : Nat) : List Mv := (List.range n).flatMap fun i : Nat => candP evs x T (i : Int)
def cand2 (x : Ex) (T : List ByteArray) (n : Nat) : List Mv := (List.range n).flatMap fun i : Nat => T.map (askR x.c (i : Int))
theorem cand1_succ {evs : St → List Ev} {x : Ex} {T : List ByteArray} {n : Nat} : cand1 evs x T (n + 1) = cand1 evs x T n ++ candP evs x T (n : Int) := by simp [cand1, List.range_succ, List.flatMap_append]
theorem cand2_succ {x : Ex} {T : List ByteArray} {n : Nat} : cand2 x T (n + 1) = cand2 x T n ++ T.map (askR x.c (n : Int)) := by simp [cand2, List.range_succ, List.flatMap_append]
theorem cand_eq (evs : St → List Ev) (x : Ex) (T : List ByteArray) : candS evs x T = cand1 evs x T 2 ++ [askA x.c] ++ cand2 x T 2 ++ [⟨5, 0, { data := #[] }, l0, false⟩, ⟨5, 1, { data := #[] }, l0, false⟩] := by
  simp [candS, cand1, cand2, List.range_succ, askR, askA]
  rfl
theorem lines_len {evs : St → List Ev} (he : ∀ s, (evs s).length ≤ 3) (x : Ex) (who : Int) : (linesS evs x who).length ≤ 4 := by
  unfold linesS
  split
  · rw [List.length_map]
    have h1 := List.length_filter_le (fun e : Ev => e.k == 2) (evs x.s0)
    have := he x.s0
    omega
  · simp
theorem cand1_len {evs : St → List Ev} (he : ∀ s, (evs s).length ≤ 3) (x : Ex) (T : List ByteArray) : ∀ n, (cand1 evs x T n).length ≤ n * (T.length + 5)
  | 0 => by simp [cand1]
  | n + 1 => by
    rw [cand1_succ, List.length_append]
    have h1 := cand1_len he x T n
    have h2 : (candP evs x T (n : Int)).length ≤ T.length + 5 := by
      unfold candP
      split
      · simp
      · have := lines_len he x (n : Int)
        simp
        omega
    rw [Nat.add_mul]
    omega
theorem cand2_len (x : Ex) (T : List ByteArray) : ∀ n, (cand2 x T n).length = n * T.length
  | 0 => by simp [cand2]
  | n + 1 => by rw [cand2_succ, List.length_append, cand2_len x T n, List.length_map, Nat.add_mul]; omega
theorem str_cell {w : World} {g off : Nat} {T : List ByteArray} {k : Nat} {x : ByteArray} (h : ∀ j u, (T.map Value.string)[j]? = some u → w.cell? ⟨g, off + j, none⟩ = some u) (hx : T[k]? = some x) : w.cell? ⟨g, off + k, none⟩ = some (.string x) :=
  h k _ (by rw [List.getElem?_map, hx]; rfl)
theorem take_map {α β : Type} (f : α → β) {T : List α} {j : Nat} {t : α} (h : T[j]? = some t) : (T.take (j + 1)).map f = (T.take j).map f ++ [f t] := by
  rw [List.take_add_one, h]; simp
/-- One move more. -/
theorem own9_one {w : World} {B n : Nat} {M : List Mv} {xs : List Value} {z : Mv} {v : Value} (h : w.ownsRow B 52 9 v n xs) (hn : n = M.length + 1) (hx : xs = M.flatMap Mv.cs ++ z.cs) : Own9 w B (M ++ [z]) v := by
  subst hn; subst hx
  unfold Own9
  rw [List.length_append, List.flatMap_append]
  simpa using h

/-- A row that stands, apart from another one. -/
def RowAt (w : World) (e : TypeId) (a : Option Addr) (xs : List Value) (l : Value) : Prop := xs ≠ [] → ∃ gb cur, a = some ⟨gb, 0, none⟩ ∧ w.heap[gb]? = some (.cells cur e (0, 0)) ∧ gb ∉ rowB l ∧ ∀ (j : Nat) u, xs[j]? = some u → cur[j]? = some u
theorem row_at {w w' : World} {base : Nat} {e : TypeId} {size n : Nat} {v l : Value} {xs : List Value} (h : w.ownsRow base e size v n xs) (hw : Ext w w') (hl : ∀ g ∈ rowB l, g < base) : ∃ a cap, v = .slice a n cap ∧ n ≤ maxLen ∧ RowAt w' e a xs l := by
  obtain ⟨hx, ⟨hv, hn⟩ | ⟨g, cap, cur, hv, hb, hg, hn, hm, hs, ht⟩⟩ := h
  · refine ⟨none, 0, by rw [hv, hn], by omega, fun hne => ?_⟩
    subst hn
    rw [Nat.zero_mul] at hx
    exact absurd (List.length_eq_zero_iff.1 hx) hne
  · refine ⟨_, _, hv, by omega, fun _ => ⟨g, cur, rfl, heap_ext hg hw, fun hm => by have := hl g hm; omega, fun j u hj => ?_⟩⟩
    rw [← ht] at hj
    have hjl := (List.getElem?_eq_some_iff.1 hj).1
    rw [List.length_take] at hjl
    rw [List.getElem?_take_of_lt (by omega)] at hj
    simpa using hj
theorem RowAt.step {w w1 w' : World} {e : TypeId} {a : Option Addr} {xs : List Value} {l l' : Value} (h : RowAt w e a xs l) (hx : Ext w w1) (hg : w1.grownBy w' l.ownBlock) (hl : ∀ g ∈ rowB l', g ∈ rowB l ∨ w1.heap.size ≤ g) : RowAt w' e a xs l' := fun hne => by
  obtain ⟨gb, cur, h1, h2, h3, h4⟩ := h hne
  refine ⟨gb, cur, h1, kept_grown (heap_ext h2 hx) hg h3, fun hm => ?_, h4⟩
  have hlt := (Array.getElem?_eq_some_iff.1 h2).1
  have := hx.size
  rcases hl gb hm with h | h
  · exact h3 h
  · omega
theorem flat_ne {L : List Lt} {k : Nat} {x : Lt} (h : L[k]? = some x) : L.flatMap Lt.cs ≠ [] := fun e => by
  have := flat_get Lt.cs 5 (fun _ => rfl) L k x h 0 (by omega)
  rw [e] at this
  simp [Lt.cs] at this
theorem lt_cells0 {w : World} {g : Nat} {L : List Lt} {k : Nat} {x : Lt} (h : ∀ j u, (L.flatMap Lt.cs)[j]? = some u → w.cell? ⟨g, j, none⟩ = some u) (hx : L[k]? = some x) :
    w.cell? ⟨g, k * 5, none⟩ = some (.int .i64 x.k) ∧ w.cell? ⟨g, k * 5 + 1, none⟩ = some (.int .i64 x.f) ∧ w.cell? ⟨g, k * 5 + 2, none⟩ = some (.int .u64 x.c) ∧ w.cell? ⟨g, k * 5 + 3, none⟩ = some (.string x.t) ∧ w.cell? ⟨g, k * 5 + 4, none⟩ = some (.bool x.b) := by
  have key := fun j hj => flat_get Lt.cs 5 (fun _ => rfl) L k x hx j hj
  exact ⟨h _ _ (key 0 (by omega)), h _ _ (key 1 (by omega)), h _ _ (key 2 (by omega)), h _ _ (key 3 (by omega)), h _ _ (key 4 (by omega))⟩

set_option maxRecDepth 100000 in
set_option maxHeartbeats 6400000 in
theorem mo_cand (x : Ex) (v tv : Value) (T : List ByteArray) (w : World) (hT : Row w 1 tv T.length (T.map Value.string)) (hn : T.length ≤ 1000) : Calls Tryz.prog 59 #[.agg (x.arr v), tv] w (Made w 52 9 (candS evsS x T).length ((candS evsS x T).flatMap Mv.cs)) := by
  obtain ⟨i0, hi, hz0, hz1, hz2⟩ := info_parts info_move
  obtain ⟨a, cap, rfl, hm, hvw⟩ := row_view hT
  have HV := Lib.hid hvw
  clear hvw hT hm
  rw [cand_eq]
  have c1l := cand1_len evs_len x T
  have c2l := cand2_len x T
  have hLs := lines_len evs_len x
  generalize hC1 : cand1 evsS x T = C1 at c1l ⊢
  have HC1 := Lib.hid hC1
  generalize hC2 : cand2 x T = C2 at c2l ⊢
  have HC2 := Lib.hid hC2
  have HC1L := Lib.hid c1l
  have HC2L := Lib.hid c2l
  clear hC1 hC2 c1l c2l
  go_enter Tryz.func59, Tryz.ntmps59
  go_upto_region 1 with fail
  refine wp_forget (fun w' => ExAt w' w.heap.size x v ∧ Ext w w') (one_new (Ext.refl _)) ?_
  rintro W1 ⟨h1, x1⟩
  have HX1 := Lib.hid h1
  unfold ExAt Ex.arr at h1
  have q1 := fun j => cell_of_row W1 _ j _ _ _ h1
  have HQ1 := Lib.hid q1
  have l1 : w.heap.size < W1.heap.size := (Array.getElem?_eq_some_iff.1 h1).1
  have HE1 := Lib.hid x1
  clear x1 h1 q1
  go_wp2_with fail
  go_loopg [5, 14] 2 (fun g l ii wr => ∃ (n : Nat) (y : ExtOf W1), ii = .int .i64 (n : Int) ∧ n + g = 2 ∧ wr = y.val ∧ Hid (Own9 wr W1.heap.size (C1 n) l))
  case atStart => exact ⟨0, ⟨W1, Ext.refl _⟩, rfl, by omega, rfl, Lib.hid (by rw [← HC1.out]; exact World.ownsRow_nil W1 _ _ _)⟩
  case round =>
    obtain ⟨n, y, rfl, hg, rfl, HOwn⟩ := hrel
    by_cases hlt : n < 2
    case neg =>
      have hge : (2 : Int) ≤ (n : Int) := by omega
      have hO2 := HOwn.out
      rw [show n = 2 by omega] at hO2
      have HO2 := Lib.hid hO2
      have hC12 : (C1 2).length ≤ 2 * (T.length + 5) := HC1L.out 2
      clear hO2 HOwn
      have q0 := HQ1.out 0
      have hyl := y.ext.size
      go_upto_region 19 with (at_builtin; refine wpList_app6 W1.heap.size 48 52 i0 _ 9 88 Tryz.underlying48 hi hz0 hz1 hz2 rfl (by decide) rfl _ _ rfl _ (C1 2).length _ rfl (Own9.ext HO2.out ((Ext.refl y.val).alloc _)) (Nat.le_trans y.ext.size ((Ext.refl y.val).alloc _).size) y.val.heap.size 1 1 _ (by omega) rfl (heap_new (by simp)) rfl (by simp [Value.oneCell']) (by unfold maxLen; omega) (by omega) ?_; intro v2 w3 hv2 hb2 _ _)
      have hv3 := own9_one (z := askA x.c) hv2 rfl (by simp [Mv.cs, askA, l0])
      have HO3 := Lib.hid hv3
      have hx3 := (y.ext.alloc _).trans' hb2
      obtain ⟨y3, rfl⟩ := ext_of hx3
      clear hv3 hv2 hb2 HO2 hx3 hyl
      go_wp2_with fail
      go_loopg [5, 62] 2 (fun g l ii wr => ∃ (n : Nat) (y : ExtOf W1), ii = .int .i64 (n : Int) ∧ n + g = 2 ∧ wr = y.val ∧ Hid (Own9 wr W1.heap.size (C1 2 ++ [askA x.c] ++ C2 n) l))
      case atStart => exact ⟨0, y3, rfl, by omega, rfl, Lib.hid (by rw [← HC2.out, show cand2 x T 0 = [] from rfl, List.append_nil]; exact HO3.out)⟩
      case round =>
        clear HO3
        obtain ⟨m, y, rfl, hgm, rfl, HOwn⟩ := hrel
        by_cases hlm : m < 2
        case neg =>
          have hge2 : (2 : Int) ≤ (m : Int) := by omega
          have hO2 := HOwn.out
          rw [show m = 2 by omega] at hO2
          have HO2 := Lib.hid hO2
          have hC22 : (C2 2).length ≤ 2 * T.length := Nat.le_of_eq (HC2L.out 2)
          have hl2 : (C1 2 ++ [askA x.c] ++ C2 2).length ≤ 5000 := by simp; omega
          have hzl := y.ext.size
          clear hO2 HOwn
          go_wp2_with (at_builtin; refine wpList_app6 W1.heap.size 48 52 i0 _ 9 88 Tryz.underlying48 hi hz0 hz1 hz2 rfl (by decide) rfl _ _ rfl _ (C1 2 ++ [askA x.c] ++ C2 2).length _ rfl (Own9.ext HO2.out ((Ext.refl y.val).alloc _)) (Nat.le_trans y.ext.size ((Ext.refl y.val).alloc _).size) y.val.heap.size 2 2 _ (by omega) rfl (heap_new (by simp)) rfl (by simp [Value.oneCell']) (by unfold maxLen; omega) (by omega) ?_; intro v2 w3 hv2 hb2 _ _)
          go_ret
          have hO6 : Own9 w3 W1.heap.size (C1 2 ++ [askA x.c] ++ C2 2 ++ [⟨5, 0, { data := #[] }, l0, false⟩, ⟨5, 1, { data := #[] }, l0, false⟩]) v2 := by
            unfold Own9
            rw [List.length_append, List.flatMap_append]
            simpa [Mv.cs, l0] using hv2
          refine ⟨_, rfl, ?_, HE1.out.trans ((y.ext.alloc _).trans' hb2)⟩
          unfold Own9 at hO6
          have hO7 := own_base hO6 HE1.out.size
          simpa using hO7
        have hlm' : (m : Int) < 2 := by omega
        have hC2m : (C2 m).length ≤ 2 * T.length := Nat.le_trans (Nat.le_of_eq (HC2L.out m)) (Nat.mul_le_mul_right _ (by omega))
        go_wp2_with fail
        go_loopg [5, 67] T.length (fun g l ii wr => ∃ (j : Nat) (z : ExtOf W1), ii = .int .i64 (j : Int) ∧ j + g = T.length ∧ wr = z.val ∧ Hid (Own9 wr W1.heap.size (C1 2 ++ [askA x.c] ++ C2 m ++ (T.take j).map (askR x.c m)) l))
        case atStart => exact ⟨0, y, rfl, by omega, rfl, Lib.hid (by simpa using HOwn.out)⟩
        case round =>
          clear HOwn y
          obtain ⟨j, z, rfl, hgj, rfl, HOwn⟩ := hrel
          by_cases hj : j < T.length
          · obtain ⟨t, ht⟩ : ∃ t, T[j]? = some t := ⟨_, List.getElem?_eq_getElem hj⟩
            obtain ⟨g, off, rfl, hgl, hcell⟩ := HV.out (by omega)
            have hgl := hgl (by omega)
            have qt := cell_keep (str_cell hcell ht) HE1.out
            have HT := Lib.hid ht
            have hgl1 : g < W1.heap.size := Nat.lt_of_lt_of_le hgl HE1.out.size
            clear hcell hgl ht
            have hj' : (j : Int) < (T.length : Int) := by omega
            have hzl := z.ext.size
            have hml : (C1 2 ++ [askA x.c] ++ C2 m ++ (T.take j).map (askR x.c m)).length ≤ 6000 := by simp; omega
            go_wp2_with (at_builtin; refine wpList_app6 W1.heap.size 48 52 i0 _ 9 88 Tryz.underlying48 hi hz0 hz1 hz2 rfl (by decide) rfl _ _ rfl _ (C1 2 ++ [askA x.c] ++ C2 m ++ (T.take j).map (askR x.c m)).length _ rfl (Own9.ext HOwn.out ((Ext.refl z.val).alloc _)) (Nat.le_trans z.ext.size ((Ext.refl z.val).alloc _).size) z.val.heap.size 1 1 _ (by omega) rfl (heap_new (by simp)) rfl (by simp [Value.oneCell']) (by unfold maxLen; omega) (by omega) ?_; intro v2 w3 hv2 hb2 _ _)
            go_roundg (gk - 1)
            case rel =>
              refine ⟨j + 1, ⟨w3, (z.ext.alloc _).trans' hb2⟩, rfl, by omega, rfl, Lib.hid ?_⟩
              rw [take_map _ HT.out, ← List.append_assoc]
              exact own9_one hv2 rfl (by simp [Mv.cs, askR])
            case measure => omega
          · have hj' : (T.length : Int) ≤ (j : Int) := by omega
            go_wp2_with fail
            go_roundg (1 - m)
            case rel =>
              refine ⟨m + 1, z, rfl, by omega, rfl, Lib.hid ?_⟩
              have hO2 := HOwn.out
              rw [show j = T.length by omega, List.take_length] at hO2
              rw [← HC2.out, cand2_succ, HC2.out, ← List.append_assoc]
              exact hO2
            case measure => omega
    have hlt' : (n : Int) < 2 := by omega
    have hbc : W1.cell? ⟨w.heap.size, 22 + n, none⟩ = some (.bool (x.bad (n : Int))) := by
      obtain rfl | rfl : n = 0 ∨ n = 1 := by omega
      · exact HQ1.out 22
      · exact HQ1.out 23
    rcases hb : x.bad (n : Int)
    case true =>
      rw [hb] at hbc
      have HB := Lib.hid hb
      clear hb
      go_wp2_with fail
      go_roundg (gk - 1)
      case rel => exact ⟨n + 1, y, rfl, by omega, rfl, Lib.hid (by rw [← HC1.out, cand1_succ, candP_no HB.out, List.append_nil, HC1.out]; exact HOwn.out)⟩
      case measure => omega
    rw [hb] at hbc
    have HB := Lib.hid hb
    clear hb
    have hC1n : (C1 n).length ≤ 2 * (T.length + 5) := Nat.le_trans (HC1L.out n) (Nat.mul_le_mul_right _ (by omega))
    go_wp2_with fail
    go_loopg [5, 23] T.length (fun g l ii wr => ∃ (j : Nat) (z : ExtOf W1), ii = .int .i64 (j : Int) ∧ j + g = T.length ∧ wr = z.val ∧ Hid (Own9 wr W1.heap.size (C1 n ++ (T.take j).map (startM n)) l))
    case atStart => exact ⟨0, y, rfl, by omega, rfl, Lib.hid (by simpa using HOwn.out)⟩
    case round =>
      clear HOwn y
      obtain ⟨j, z, rfl, hgj, rfl, HOwn⟩ := hrel
      by_cases hj : j < T.length
      · obtain ⟨t, ht⟩ : ∃ t, T[j]? = some t := ⟨_, List.getElem?_eq_getElem hj⟩
        obtain ⟨g, off, rfl, hgl, hcell⟩ := HV.out (by omega)
        have hgl := hgl (by omega)
        have q0 := cell_keep (str_cell hcell ht) HE1.out
        have HT := Lib.hid ht
        have hgl1 : g < W1.heap.size := Nat.lt_of_lt_of_le hgl HE1.out.size
        clear hcell hgl ht
        have hj' : (j : Int) < (T.length : Int) := by omega
        have hzl := z.ext.size
        have hml : (C1 n ++ (T.take j).map (startM n)).length ≤ 4000 := by simp; omega
        go_wp2_with (at_builtin; refine wpList_app6 W1.heap.size 48 52 i0 _ 9 88 Tryz.underlying48 hi hz0 hz1 hz2 rfl (by decide) rfl _ _ rfl _ (C1 n ++ (T.take j).map (startM n)).length _ rfl (Own9.ext HOwn.out ((Ext.refl z.val).alloc _)) (Nat.le_trans z.ext.size ((Ext.refl z.val).alloc _).size) z.val.heap.size 1 1 _ (by omega) rfl (heap_new (by simp)) rfl (by simp [Value.oneCell']) (by unfold maxLen; omega) (by omega) ?_; intro v2 w3 hv2 hb2 _ _)
        go_roundg (gk - 1)
        case rel =>
          refine ⟨j + 1, ⟨w3, (z.ext.alloc _).trans' hb2⟩, rfl, by omega, rfl, Lib.hid ?_⟩
          rw [take_map _ HT.out, ← List.append_assoc]
          exact own9_one hv2 rfl (by simp [Mv.cs, startM, l0])
        case measure => omega
      · have hj' : (T.length : Int) ≤ (j : Int) := by omega
        have hje : j = T.length := by omega
        have hO2 := HOwn.out
        rw [hje, List.take_length] at hO2
        have HO2 := Lib.hid hO2
        clear hO2 HOwn hje
        go_wp2_with (first | ((with_reducible refine wpList_load_rowG ?_ 33 (.tmp 2) ?_ w.heap.size ?_ 33 (x.arr v) (0, 0) _ ?_ Tryz.underlying33 ?_ ?_ ?_); (· rfl); (· rfl); (· rfl); (· exact heap_ext HX1.out z.ext); (· rfl); (· exact info_ex)) | (go_at_call 85; refine (mo_waited x v n _ (by omega)).mono ?_; rintro e w4 ⟨vr, rfl, hv, hx⟩; have hLn := hLs (n : Int); generalize hlg : linesS evsS x (n : Int) = Ls at hv hLn; have HLG := Lib.hid hlg; obtain ⟨va, vc, rfl, hm4, hra⟩ := row_at hv (Ext.refl _) (fun g hg => (own_rowB9 HO2.out g hg).2); have HRA := Lib.hid hra; have HX4 := Lib.hid hx; unfold maxLen at hm4; clear hv hx hra hlg))
        have hO3 := Own9.ext HO2.out HX4.out
        have HO3 := Lib.hid hO3
        have hx4 := z.ext.trans HX4.out
        obtain ⟨y4, rfl⟩ := ext_of hx4
        clear hO3 HO2 hx4 HX4
        go_loopg [5, 38] Ls.length (fun g l ii wr => ∃ (k : Nat) (y : ExtOf W1), ii = .int .i64 (k : Int) ∧ k + g = Ls.length ∧ wr = y.val ∧ Hid (Own9 wr W1.heap.size (C1 n ++ T.map (startM n) ++ (Ls.take k).map (takeM n)) l) ∧ Hid (RowAt wr 24 va (Ls.flatMap Lt.cs) l))
        case atStart => exact ⟨0, y4, rfl, by omega, rfl, Lib.hid (by simpa using HO3.out), HRA⟩
        case round =>
          clear HO3 HRA y4 z
          obtain ⟨k, z, rfl, hgk, rfl, HOwn, HRA⟩ := hrel
          have hzl := z.ext.size
          have hml : (C1 n ++ T.map (startM n) ++ (Ls.take k).map (takeM n)).length ≤ 4000 := by simp; omega
          by_cases hk : k < Ls.length
          · obtain ⟨ll, hll⟩ : ∃ t, Ls[k]? = some t := ⟨_, List.getElem?_eq_getElem hk⟩
            obtain ⟨gb, cur, rfl, hob, hnb, hcu⟩ := HRA.out (flat_ne hll)
            have hgb := (Array.getElem?_eq_some_iff.1 hob).1
            obtain ⟨q0, q1, q2, q3, q4⟩ := lt_cells0 (fun j u hj => (cell_of_row z.val gb j cur _ (0, 0) hob).trans (hcu j u hj)) hll
            have HL := Lib.hid hll
            clear hob hnb hcu hll
            have hk' : (k : Int) < (Ls.length : Int) := by omega
            go_wp2_with (at_builtin; refine wpList_app6 W1.heap.size 48 52 i0 _ 9 88 Tryz.underlying48 hi hz0 hz1 hz2 rfl (by decide) rfl _ _ rfl _ (C1 n ++ T.map (startM n) ++ (Ls.take k).map (takeM n)).length _ rfl (Own9.ext HOwn.out (((Ext.refl z.val).alloc _).alloc _)) (Nat.le_trans z.ext.size (((Ext.refl z.val).alloc _).alloc _).size) (z.val.heap.size + 1) 1 1 _ (by omega) rfl (heap_new (by simp)) rfl (by simp [Value.oneCell']) (by unfold maxLen; omega) (by omega) ?_; intro v2 w3 hv2 hb2 hgr hnw)
            go_roundg (gk - 1)
            case rel =>
              refine ⟨k + 1, ⟨w3, ((z.ext.alloc _).alloc _).trans' hb2⟩, rfl, by omega, rfl, Lib.hid ?_, Lib.hid (RowAt.step HRA.out (((Ext.refl z.val).alloc _).alloc _) hgr hnw)⟩
              rw [take_map _ HL.out, ← List.append_assoc]
              exact own9_one hv2 rfl (by simp [Mv.cs, takeM])
            case measure => omega
          · have hk' : (Ls.length : Int) ≤ (k : Int) := by omega
            go_wp2_with (at_builtin; refine wpList_app6 W1.heap.size 48 52 i0 _ 9 88 Tryz.underlying48 hi hz0 hz1 hz2 rfl (by decide) rfl _ _ rfl _ (C1 n ++ T.map (startM n) ++ (Ls.take k).map (takeM n)).length _ rfl (Own9.ext HOwn.out ((Ext.refl z.val).alloc _)) (Nat.le_trans z.ext.size ((Ext.refl z.val).alloc _).size) z.val.heap.size 1 1 _ (by omega) rfl (heap_new (by simp)) rfl (by simp [Value.oneCell']) (by unfold maxLen; omega) (by omega) ?_; intro v2 w3 hv2 hb2 _ _)
            go_roundg (1 - n)
            case rel =>
              refine ⟨n + 1, ⟨w3, (z.ext.alloc _).trans' hb2⟩, rfl, by omega, rfl, Lib.hid ?_⟩
              rw [← HC1.out, cand1_succ, candP_yes HB.out, HLG.out, HC1.out]
              have hke : k = Ls.length := by omega
              rw [hke, List.take_length] at hv2
              have hv3 := own9_one (z := tickM n) hv2 rfl (by simp [Mv.cs, tickM, l0])
              simpa [List.append_assoc] using hv3
            case measure => omega
end Go.Proofs.YtlnmhocehgmbbaaGreatDoor

/-
  Walks: a party's step. No condition.
-/
namespace Go.Proofs.YtlnmhocehgmbbaaGreatDoor
open Go.RowKit
attribute [local go_sem ↓] eql_lEq eql_sEq eql_eEq eql_oEq neq_lEq neq_sEq neq_eEq neq_oEq eql_vEq neq_vEq eql_nil
attribute [local go_sem] ExtOf.cell ExtOf.frozen ExtOf.lt ExtOf.le
attribute [local go_sem high] ExtOf.cell2 ExtOf.frozen2 ExtOf.lt2 ExtOf.cell3 ExtOf.frozen3 ExtOf.lt3

/-- What holds at region 28 of a step: the event is made. -/
structure At8 (w W : World) (B gy ge : Nat) (x : Ex) (m : Mv) (v v1 : Value) (zs ev : Array Value) : Prop where
  hx : ExAt W w.heap.size x v
  hm : W.heap[w.heap.size + 1]? = some (.cells m.arr 52 (0, 0))
  hr : W.heap[w.heap.size + 1 + 1]? = some (.cells zs 33 (0, 0))
  hy : ExAt W gy x v1
  ho : Own W B x.h v1
  he : W.heap[ge]? = some (.cells ev 102 (0, 0))
  ext : Ext w W
  hgy : w.heap.size + 1 + 1 < gy
  hB : gy < B
  hge : B ≤ ge
  hn : zs.size = 26

theorem own_keepB {w w' : World} {B : Nat} {h : List Lt} {v : Value} (o : Own w B h v) (hk : ∀ g ∈ rowB v, w'.heap[g]? = w.heap[g]?) : Own w' B h v := by
  refine ⟨o.1, o.2.imp id ?_⟩
  rintro ⟨g, cap, cur, hv, hb, hg, r⟩
  exact ⟨g, cap, cur, hv, hb, by rw [hk g (by rw [hv]; simp [rowB, Value.ownBlock])]; exact hg, r⟩

theorem At4.ext' {w W W' : World} {B gy ge : Nat} {x : Ex} {m : Mv} {v v1 : Value} {zs : Array Value} (a : At4 w W B gy ge x m v v1 zs) (e : Ext W W') : At4 w W' B gy ge x m v v1 zs :=
  ⟨a.hx.ext e, heap_ext a.hm e, heap_ext a.hr e, a.hy.ext e, a.ho.ext e, heap_ext a.he e, a.ext.trans e, a.hgy, a.hB, a.hge, a.hgr, a.hn⟩

theorem At4.to8 {w W W' : World} {B gy ge : Nat} {x : Ex} {m : Mv} {v v1 : Value} {zs ev : Array Value} (a : At4 w W B gy ge x m v v1 zs) (k : Keeps [ge] W W') (he : W'.heap[ge]? = some (.cells ev 102 (0, 0))) : At8 w W' B gy ge x m v v1 zs ev := by
  have h1 := a.hgy
  have h2 := a.hB
  have h3 := a.hge
  have hb : ∀ {g : Nat} {o : Obj}, W.heap[g]? = some o → g ≠ ge → W'.heap[g]? = some o := fun {g o} hg hne => (k.block g (Array.getElem?_eq_some_iff.1 hg).1 (by simpa using hne)).trans hg
  refine ⟨hb a.hx (by omega), hb a.hm (by omega), hb a.hr (by omega), hb a.hy (by omega), own_keepB a.ho fun g hg => ?_, he, keeps_ext a.ext k (by simp only [List.mem_singleton]; omega), h1, h2, h3, a.hn⟩
  exact k.block g (own_rowB a.ho g hg).2 (by have := a.hgr g hg; simp only [List.mem_singleton]; omega)

/-- All blocks but g are as they were. -/
structure But (g : Nat) (w w' : World) : Prop where
  os : w'.os = w.os
  tape : w'.tape = w.tape
  output : w'.output = w.output
  size : w'.heap.size = w.heap.size
  block : ∀ k, k ≠ g → w'.heap[k]? = w.heap[k]?
theorem But.refl (g : Nat) (w : World) : But g w w := ⟨rfl, rfl, rfl, rfl, fun _ _ => rfl⟩
theorem But.setCell {g : Nat} {w w' : World} (h : But g w w') (o : Nat) (v : Value) : But g w (w'.setCell ⟨g, o, none⟩ v) :=
  ⟨h.os, h.tape, h.output, by simpa [World.setCell] using h.size, fun k hk => (cell_other hk).trans (h.block k hk)⟩
theorem But.ext {g : Nat} {a w w' : World} (h : But g w w') (e : Ext a w) (hg : a.heap.size ≤ g) : Ext a w' :=
  ⟨h.os.trans e.os, h.tape.trans e.tape, h.output.trans e.output, h.size ▸ e.size, fun k hk => (h.block k (by omega)).trans (e.block k hk)⟩

theorem stepP_len (who : Int) (s : St) (e : Ev) : (stepP who s e).2.length ≤ 1 := by
  unfold stepP
  split
  · have := edge_o s e
    generalize stepS s e = r at this ⊢
    cases this <;> simp
  · have := edge_a s e
    generalize stepA s e = r at this ⊢
    cases this <;> simp

end Go.Proofs.YtlnmhocehgmbbaaGreatDoor

/-
  Walks: a party's step. No condition.
-/
namespace Go.Proofs.YtlnmhocehgmbbaaGreatDoor
open Go.RowKit
attribute [local go_sem ↓] eql_lEq eql_sEq eql_eEq eql_oEq neq_lEq neq_sEq neq_eEq neq_oEq eql_vEq neq_vEq eql_nil
attribute [local go_sem] ExtOf.cell ExtOf.frozen ExtOf.lt ExtOf.le
attribute [local go_sem high] ExtOf.cell2 ExtOf.frozen2 ExtOf.lt2 ExtOf.cell3 ExtOf.frozen3 ExtOf.lt3

set_option maxRecDepth 100000 in
set_option maxHeartbeats 3200000 in
theorem st_10bad (x : Ex) (v : Value) (m : Mv) (w : World) (B0 : Nat) (hO : Own w B0 x.h v) (hn : x.h.length ≤ 100000) (h4 : (m.k == 4) = false) (h6 : (m.k == 6) = false) (h5 : (m.k == 5) = false) (h1 : (m.k == 1) = true) (hw : m.who = 0) (hbad : x.b0 = true) : Calls Tryz.prog 42 #[.agg (x.arr v), .agg m.arr] w (Stpd w x false) := by
  have HBad := Lib.hid hbad
  clear hbad
  obtain ⟨sa, sn, sc, hsv⟩ := own_slice hO
  have hv1 : v.oneCell' = true := by rw [hsv]; rfl
  have HO := Lib.hid hO
  clear hO hsv
  go_enter Tryz.func42, Tryz.ntmps42
  go_upto_region 1 with fail
  refine wp_forget (fun w' => ExAt w' w.heap.size x v ∧ w'.heap[w.heap.size + 1]? = some (.cells m.arr 52 (0, 0)) ∧ w'.heap[w.heap.size + 1 + 1]? = some (.cells #[.int .u64 0, .int .i64 0, .int .u64 0, .string { data := #[] }, .int .i64 0, .int .i64 0, .int .i64 0, .int .u64 0, .string { data := #[] }, .bool false, .int .i64 0, .int .u64 0, .string { data := #[] }, .int .i64 0, .int .i64 0, .int .i64 0, .int .u64 0, .string { data := #[] }, .bool false, .int .u64 0, .int .i64 0, .string { data := #[] }, .bool false, .bool false, .bool false, .slice none 0 0] 33 (0, 0)) ∧ Ext w w') (three_new (Ext.refl _)) ?_
  rintro W1 ⟨h1, h2, h3, e1⟩
  have HX1 := Lib.hid h1
  have HM1 := Lib.hid h2
  have HR1 := Lib.hid h3
  have HE1 := Lib.hid e1
  clear h1 h2 h3 e1
  go_upto_region 2 with (first
    | (refine wpList_load_row rfl 33 _ rfl _ rfl _ _ (0, 0) _ HX1.out Tryz.underlying33 rfl info_ex ?_)
    | (refine wpList_store_row rfl 33 _ _ rfl _ _ rfl rfl 33 _ (heap_new rfl) info_ex rfl (arr_one x hv1) ?_))
  refine wp_forget (fun w' => ExAt w' W1.heap.size x v ∧ Ext W1 w' ∧ W1.heap.size < w'.heap.size) ⟨setRow_heap _ _ _ _ _ _ (heap_new rfl), ((Ext.refl W1).alloc _).setRow (Nat.le_refl _) _, by simp⟩ ?_
  rintro W2 ⟨h1, e1, h2⟩
  have hl1 : w.heap.size + 1 + 1 < W1.heap.size := (Array.getElem?_eq_some_iff.1 HR1.out).1
  have qx2 : W2.cell? ⟨w.heap.size, 25, none⟩ = some v := by rw [cell_of_row _ _ _ _ _ _ (HX1.out.ext e1)]; rfl
  have lx2 : w.heap.size < W2.heap.size := by omega
  have HY2 := Lib.hid h1
  have HE2 := Lib.hid e1
  clear h1 e1
  have h2' := h2
  go_upto_region 3 with (go_at_call 51; refine (sl_clone v B0 x.h W2 (HO.out.ext (HE1.out.trans HE2.out)) hn).mono ?_; rintro e W3 ⟨v1, rfl, hown, hx⟩; obtain ⟨s1a, s1n, s1c, rfl⟩ := own_slice hown; have HO3 := Lib.hid hown; have hy3 := HY2.out.ext hx; have HY3 := Lib.hid hy3; unfold ExAt Ex.arr at hy3; have qy3 := fun j => cell_of_row W3 _ j _ _ _ hy3; have fy3 := fun j => frozen_of_row W3 _ j _ _ hy3; have ly3 : W1.heap.size < W3.heap.size := (Array.getElem?_eq_some_iff.1 hy3).1; have HE3 := Lib.hid hx; clear hown hx hy3)
  refine wp_forget (fun w' => ExAt w' W1.heap.size x (.slice s1a s1n s1c) ∧ Own w' W2.heap.size x.h (.slice s1a s1n s1c) ∧ Ext W1 w' ∧ W2.heap.size ≤ w'.heap.size) ⟨?a1, ?a2, ?a3, ?a4⟩ ?ar
  case a1 => exact setCell_row (o := 25) HY3.out _
  case a2 => exact own_same HO3.out fun k hk _ => cell_other (o := 25) (show k ≠ W1.heap.size by omega)
  case a3 => exact (HE2.out.trans HE3.out).setCell (Nat.le_refl _) _
  case a4 => simpa [World.setCell] using HE3.out.size
  rintro W4 ⟨h1, h3, h4, h5⟩
  have hx4 := HX1.out.ext h4
  unfold ExAt Ex.arr at hx4
  have qx4 := fun j => cell_of_row W4 _ j _ _ _ hx4
  have lx4 : w.heap.size < W4.heap.size := by omega
  have HY4 := Lib.hid h1
  have HO4 := Lib.hid h3
  have HE4 := Lib.hid h4
  clear h1 h3 h4 hx4 qy3 fy3 ly3 HO3 HY3 HE3 qx2 lx2 HY2
  go_upto_region 4 with fail
  refine wp_forget (fun w' => At4 w w' W2.heap.size W1.heap.size W4.heap.size x m v (.slice s1a s1n s1c) _) ⟨HX1.out.ext (HE4.out.alloc _), heap_ext HM1.out (HE4.out.alloc _), heap_ext HR1.out (HE4.out.alloc _), HY4.out.ext ((Ext.refl _).alloc _), HO4.out.ext ((Ext.refl _).alloc _), heap_new rfl, HE1.out.trans (HE4.out.alloc _), hl1, h2', h5, fun g hg => (own_rowB HO4.out g hg).2, rfl⟩ ?_
  clear qx4 lx4 HX1 HM1 HR1 HY4 HO4 HE4 HE2 HE1
  rintro W5 A4
  have hx5 := A4.hx
  unfold ExAt Ex.arr at hx5
  have qx := fun j => cell_of_row W5 _ j _ _ _ hx5
  have hm5 := A4.hm
  unfold Mv.arr at hm5
  have qm := fun j => cell_of_row W5 _ j _ _ _ hm5
  have hy5 := A4.hy
  unfold ExAt Ex.arr at hy5
  have qy := fun j => cell_of_row W5 _ j _ _ _ hy5
  have fy := fun j => frozen_of_row W5 _ j _ _ hy5
  have lx : w.heap.size < W5.heap.size := (Array.getElem?_eq_some_iff.1 hx5).1
  have lm : w.heap.size + 1 < W5.heap.size := (Array.getElem?_eq_some_iff.1 hm5).1
  have ly : W1.heap.size < W5.heap.size := (Array.getElem?_eq_some_iff.1 hy5).1
  clear hx5 hm5 hy5
  have HA := Lib.hid A4
  clear A4
  have he5 := HA.out.he
  have qe := fun j => cell_of_row W5 _ j _ _ _ he5
  have fe := fun j => frozen_of_row W5 _ j _ _ he5
  have le5 : W4.heap.size < W5.heap.size := (Array.getElem?_eq_some_iff.1 he5).1
  clear he5
  go_wp2_with fail
  go_region
  go_upto_region 28 with fail
  refine wp_forget (fun w' => At8 w w' W2.heap.size W1.heap.size W4.heap.size x m v (.slice s1a s1n s1c) _ #[.int .i64 1, .int .u64 x.c, .string m.t, .int .i64 0, .int .i64 0, .int .u64 0, .string { data := #[] }, .bool false]) (HA.out.to8 ((((Keeps.refl _ _).setCell (.inl (.head _)) _ _).setCell (.inl (.head _)) _ _).ext (Ext.refl _).drew) (setCell_row (o := 2) (setCell_row (o := 0) HA.out.he _) _)) ?_
  clear qx qm qy fy lx lm ly qe fe le5 HA
  rintro W8 A8
  have hx8 := A8.hx
  unfold ExAt Ex.arr at hx8
  have qx := fun j => cell_of_row W8 _ j _ _ _ hx8
  have hm8 := A8.hm
  unfold Mv.arr at hm8
  have qm := fun j => cell_of_row W8 _ j _ _ _ hm8
  have he8 := A8.he
  have qe := fun j => cell_of_row W8 _ j _ _ _ he8
  have lx : w.heap.size < W8.heap.size := (Array.getElem?_eq_some_iff.1 hx8).1
  have lm : w.heap.size + 1 < W8.heap.size := (Array.getElem?_eq_some_iff.1 hm8).1
  have le8 : W4.heap.size < W8.heap.size := (Array.getElem?_eq_some_iff.1 he8).1
  have ly8 : W1.heap.size < W8.heap.size := (Array.getElem?_eq_some_iff.1 A8.hy).1
  clear hx8 hm8 he8
  have hgB : W2.heap.size ≤ W8.heap.size := by have := A8.hge; omega
  have HA := Lib.hid A8
  clear A8
  have hbad := HBad.out
  go_wp2_with (first | (refine wpList_load_row rfl 33 _ rfl _ rfl _ _ (0, 0) _ (HA.out.hy) Tryz.underlying33 rfl info_ex ?_) | (refine wpList_store_row rfl 33 _ _ rfl _ _ rfl rfl 33 _ (HA.out.hr) info_ex rfl (arr_one (x) rfl) ?_))
  refine bodyPost_ret (results_row_tmp rfl _ _ _ 33 _ (0, 0) _ rfl (setRow_heap _ _ _ _ _ _ (HA.out.hr)) Tryz.underlying33 rfl info_ex) rfl ?_
  exact ⟨_, rfl, own_setRow (own_base (b' := w.heap.size) (HA.out.ho) (by have := HA.out.hgy; have := HA.out.hB; omega)) (HA.out.hr) (by decide) _, Ext.setRow (HA.out.ext) (by omega) _⟩

end Go.Proofs.YtlnmhocehgmbbaaGreatDoor

/-
  Walks: a party's step. No condition.
-/
namespace Go.Proofs.YtlnmhocehgmbbaaGreatDoor
open Go.RowKit
attribute [local go_sem ↓] eql_lEq eql_sEq eql_eEq eql_oEq neq_lEq neq_sEq neq_eEq neq_oEq eql_vEq neq_vEq eql_nil
attribute [local go_sem] ExtOf.cell ExtOf.frozen ExtOf.lt ExtOf.le
attribute [local go_sem high] ExtOf.cell2 ExtOf.frozen2 ExtOf.lt2 ExtOf.cell3 ExtOf.frozen3 ExtOf.lt3

set_option maxRecDepth 100000 in
set_option maxHeartbeats 3200000 in
theorem st_11bad (x : Ex) (v : Value) (m : Mv) (w : World) (B0 : Nat) (hO : Own w B0 x.h v) (hn : x.h.length ≤ 100000) (h4 : (m.k == 4) = false) (h6 : (m.k == 6) = false) (h5 : (m.k == 5) = false) (h1 : (m.k == 1) = true) (hw : m.who = 1) (hbad : x.b1 = true) : Calls Tryz.prog 42 #[.agg (x.arr v), .agg m.arr] w (Stpd w x false) := by
  have HBad := Lib.hid hbad
  clear hbad
  obtain ⟨sa, sn, sc, hsv⟩ := own_slice hO
  have hv1 : v.oneCell' = true := by rw [hsv]; rfl
  have HO := Lib.hid hO
  clear hO hsv
  go_enter Tryz.func42, Tryz.ntmps42
  go_upto_region 1 with fail
  refine wp_forget (fun w' => ExAt w' w.heap.size x v ∧ w'.heap[w.heap.size + 1]? = some (.cells m.arr 52 (0, 0)) ∧ w'.heap[w.heap.size + 1 + 1]? = some (.cells #[.int .u64 0, .int .i64 0, .int .u64 0, .string { data := #[] }, .int .i64 0, .int .i64 0, .int .i64 0, .int .u64 0, .string { data := #[] }, .bool false, .int .i64 0, .int .u64 0, .string { data := #[] }, .int .i64 0, .int .i64 0, .int .i64 0, .int .u64 0, .string { data := #[] }, .bool false, .int .u64 0, .int .i64 0, .string { data := #[] }, .bool false, .bool false, .bool false, .slice none 0 0] 33 (0, 0)) ∧ Ext w w') (three_new (Ext.refl _)) ?_
  rintro W1 ⟨h1, h2, h3, e1⟩
  have HX1 := Lib.hid h1
  have HM1 := Lib.hid h2
  have HR1 := Lib.hid h3
  have HE1 := Lib.hid e1
  clear h1 h2 h3 e1
  go_upto_region 2 with (first
    | (refine wpList_load_row rfl 33 _ rfl _ rfl _ _ (0, 0) _ HX1.out Tryz.underlying33 rfl info_ex ?_)
    | (refine wpList_store_row rfl 33 _ _ rfl _ _ rfl rfl 33 _ (heap_new rfl) info_ex rfl (arr_one x hv1) ?_))
  refine wp_forget (fun w' => ExAt w' W1.heap.size x v ∧ Ext W1 w' ∧ W1.heap.size < w'.heap.size) ⟨setRow_heap _ _ _ _ _ _ (heap_new rfl), ((Ext.refl W1).alloc _).setRow (Nat.le_refl _) _, by simp⟩ ?_
  rintro W2 ⟨h1, e1, h2⟩
  have hl1 : w.heap.size + 1 + 1 < W1.heap.size := (Array.getElem?_eq_some_iff.1 HR1.out).1
  have qx2 : W2.cell? ⟨w.heap.size, 25, none⟩ = some v := by rw [cell_of_row _ _ _ _ _ _ (HX1.out.ext e1)]; rfl
  have lx2 : w.heap.size < W2.heap.size := by omega
  have HY2 := Lib.hid h1
  have HE2 := Lib.hid e1
  clear h1 e1
  have h2' := h2
  go_upto_region 3 with (go_at_call 51; refine (sl_clone v B0 x.h W2 (HO.out.ext (HE1.out.trans HE2.out)) hn).mono ?_; rintro e W3 ⟨v1, rfl, hown, hx⟩; obtain ⟨s1a, s1n, s1c, rfl⟩ := own_slice hown; have HO3 := Lib.hid hown; have hy3 := HY2.out.ext hx; have HY3 := Lib.hid hy3; unfold ExAt Ex.arr at hy3; have qy3 := fun j => cell_of_row W3 _ j _ _ _ hy3; have fy3 := fun j => frozen_of_row W3 _ j _ _ hy3; have ly3 : W1.heap.size < W3.heap.size := (Array.getElem?_eq_some_iff.1 hy3).1; have HE3 := Lib.hid hx; clear hown hx hy3)
  refine wp_forget (fun w' => ExAt w' W1.heap.size x (.slice s1a s1n s1c) ∧ Own w' W2.heap.size x.h (.slice s1a s1n s1c) ∧ Ext W1 w' ∧ W2.heap.size ≤ w'.heap.size) ⟨?a1, ?a2, ?a3, ?a4⟩ ?ar
  case a1 => exact setCell_row (o := 25) HY3.out _
  case a2 => exact own_same HO3.out fun k hk _ => cell_other (o := 25) (show k ≠ W1.heap.size by omega)
  case a3 => exact (HE2.out.trans HE3.out).setCell (Nat.le_refl _) _
  case a4 => simpa [World.setCell] using HE3.out.size
  rintro W4 ⟨h1, h3, h4, h5⟩
  have hx4 := HX1.out.ext h4
  unfold ExAt Ex.arr at hx4
  have qx4 := fun j => cell_of_row W4 _ j _ _ _ hx4
  have lx4 : w.heap.size < W4.heap.size := by omega
  have HY4 := Lib.hid h1
  have HO4 := Lib.hid h3
  have HE4 := Lib.hid h4
  clear h1 h3 h4 hx4 qy3 fy3 ly3 HO3 HY3 HE3 qx2 lx2 HY2
  go_upto_region 4 with fail
  refine wp_forget (fun w' => At4 w w' W2.heap.size W1.heap.size W4.heap.size x m v (.slice s1a s1n s1c) _) ⟨HX1.out.ext (HE4.out.alloc _), heap_ext HM1.out (HE4.out.alloc _), heap_ext HR1.out (HE4.out.alloc _), HY4.out.ext ((Ext.refl _).alloc _), HO4.out.ext ((Ext.refl _).alloc _), heap_new rfl, HE1.out.trans (HE4.out.alloc _), hl1, h2', h5, fun g hg => (own_rowB HO4.out g hg).2, rfl⟩ ?_
  clear qx4 lx4 HX1 HM1 HR1 HY4 HO4 HE4 HE2 HE1
  rintro W5 A4
  have hx5 := A4.hx
  unfold ExAt Ex.arr at hx5
  have qx := fun j => cell_of_row W5 _ j _ _ _ hx5
  have hm5 := A4.hm
  unfold Mv.arr at hm5
  have qm := fun j => cell_of_row W5 _ j _ _ _ hm5
  have hy5 := A4.hy
  unfold ExAt Ex.arr at hy5
  have qy := fun j => cell_of_row W5 _ j _ _ _ hy5
  have fy := fun j => frozen_of_row W5 _ j _ _ hy5
  have lx : w.heap.size < W5.heap.size := (Array.getElem?_eq_some_iff.1 hx5).1
  have lm : w.heap.size + 1 < W5.heap.size := (Array.getElem?_eq_some_iff.1 hm5).1
  have ly : W1.heap.size < W5.heap.size := (Array.getElem?_eq_some_iff.1 hy5).1
  clear hx5 hm5 hy5
  have HA := Lib.hid A4
  clear A4
  have he5 := HA.out.he
  have qe := fun j => cell_of_row W5 _ j _ _ _ he5
  have fe := fun j => frozen_of_row W5 _ j _ _ he5
  have le5 : W4.heap.size < W5.heap.size := (Array.getElem?_eq_some_iff.1 he5).1
  clear he5
  go_wp2_with fail
  go_region
  go_upto_region 28 with fail
  refine wp_forget (fun w' => At8 w w' W2.heap.size W1.heap.size W4.heap.size x m v (.slice s1a s1n s1c) _ #[.int .i64 1, .int .u64 x.c, .string m.t, .int .i64 0, .int .i64 0, .int .u64 0, .string { data := #[] }, .bool false]) (HA.out.to8 ((((Keeps.refl _ _).setCell (.inl (.head _)) _ _).setCell (.inl (.head _)) _ _).ext (Ext.refl _).drew) (setCell_row (o := 2) (setCell_row (o := 0) HA.out.he _) _)) ?_
  clear qx qm qy fy lx lm ly qe fe le5 HA
  rintro W8 A8
  have hx8 := A8.hx
  unfold ExAt Ex.arr at hx8
  have qx := fun j => cell_of_row W8 _ j _ _ _ hx8
  have hm8 := A8.hm
  unfold Mv.arr at hm8
  have qm := fun j => cell_of_row W8 _ j _ _ _ hm8
  have he8 := A8.he
  have qe := fun j => cell_of_row W8 _ j _ _ _ he8
  have lx : w.heap.size < W8.heap.size := (Array.getElem?_eq_some_iff.1 hx8).1
  have lm : w.heap.size + 1 < W8.heap.size := (Array.getElem?_eq_some_iff.1 hm8).1
  have le8 : W4.heap.size < W8.heap.size := (Array.getElem?_eq_some_iff.1 he8).1
  have ly8 : W1.heap.size < W8.heap.size := (Array.getElem?_eq_some_iff.1 A8.hy).1
  clear hx8 hm8 he8
  have hgB : W2.heap.size ≤ W8.heap.size := by have := A8.hge; omega
  have HA := Lib.hid A8
  clear A8
  have hbad := HBad.out
  go_wp2_with (first | (refine wpList_load_row rfl 33 _ rfl _ rfl _ _ (0, 0) _ (HA.out.hy) Tryz.underlying33 rfl info_ex ?_) | (refine wpList_store_row rfl 33 _ _ rfl _ _ rfl rfl 33 _ (HA.out.hr) info_ex rfl (arr_one (x) rfl) ?_))
  refine bodyPost_ret (results_row_tmp rfl _ _ _ 33 _ (0, 0) _ rfl (setRow_heap _ _ _ _ _ _ (HA.out.hr)) Tryz.underlying33 rfl info_ex) rfl ?_
  exact ⟨_, rfl, own_setRow (own_base (b' := w.heap.size) (HA.out.ho) (by have := HA.out.hgy; have := HA.out.hB; omega)) (HA.out.hr) (by decide) _, Ext.setRow (HA.out.ext) (by omega) _⟩

end Go.Proofs.YtlnmhocehgmbbaaGreatDoor

/-
  Walks: a party's step. No condition.
-/
namespace Go.Proofs.YtlnmhocehgmbbaaGreatDoor
open Go.RowKit
attribute [local go_sem ↓] eql_lEq eql_sEq eql_eEq eql_oEq neq_lEq neq_sEq neq_eEq neq_oEq eql_vEq neq_vEq eql_nil
attribute [local go_sem] ExtOf.cell ExtOf.frozen ExtOf.lt ExtOf.le
attribute [local go_sem high] ExtOf.cell2 ExtOf.frozen2 ExtOf.lt2 ExtOf.cell3 ExtOf.frozen3 ExtOf.lt3

set_option maxRecDepth 100000 in
set_option maxHeartbeats 3200000 in
theorem st_20bad (x : Ex) (v : Value) (m : Mv) (w : World) (B0 : Nat) (hO : Own w B0 x.h v) (hn : x.h.length ≤ 100000) (h4 : (m.k == 4) = false) (h6 : (m.k == 6) = false) (h5 : (m.k == 5) = false) (h1 : (m.k == 1) = false) (h2 : (m.k == 2) = true) (hcan : canS x m.l = true) (hw : m.who = 0) (hbad : x.b0 = true) : Calls Tryz.prog 42 #[.agg (x.arr v), .agg m.arr] w (Stpd w x false) := by
  have HBad := Lib.hid hbad
  clear hbad
  have hC := fun w' (hw : Ext w w') => mo_can x v m.l w' (Row.ext hO.row hw)
  rw [hcan] at hC
  have HC := Lib.hid hC
  clear hC hcan
  obtain ⟨sa, sn, sc, hsv⟩ := own_slice hO
  have hv1 : v.oneCell' = true := by rw [hsv]; rfl
  have HO := Lib.hid hO
  clear hO hsv
  go_enter Tryz.func42, Tryz.ntmps42
  go_upto_region 1 with fail
  refine wp_forget (fun w' => ExAt w' w.heap.size x v ∧ w'.heap[w.heap.size + 1]? = some (.cells m.arr 52 (0, 0)) ∧ w'.heap[w.heap.size + 1 + 1]? = some (.cells #[.int .u64 0, .int .i64 0, .int .u64 0, .string { data := #[] }, .int .i64 0, .int .i64 0, .int .i64 0, .int .u64 0, .string { data := #[] }, .bool false, .int .i64 0, .int .u64 0, .string { data := #[] }, .int .i64 0, .int .i64 0, .int .i64 0, .int .u64 0, .string { data := #[] }, .bool false, .int .u64 0, .int .i64 0, .string { data := #[] }, .bool false, .bool false, .bool false, .slice none 0 0] 33 (0, 0)) ∧ Ext w w') (three_new (Ext.refl _)) ?_
  rintro W1 ⟨h1, h2, h3, e1⟩
  have HX1 := Lib.hid h1
  have HM1 := Lib.hid h2
  have HR1 := Lib.hid h3
  have HE1 := Lib.hid e1
  clear h1 h2 h3 e1
  go_upto_region 2 with (first
    | (refine wpList_load_row rfl 33 _ rfl _ rfl _ _ (0, 0) _ HX1.out Tryz.underlying33 rfl info_ex ?_)
    | (refine wpList_store_row rfl 33 _ _ rfl _ _ rfl rfl 33 _ (heap_new rfl) info_ex rfl (arr_one x hv1) ?_))
  refine wp_forget (fun w' => ExAt w' W1.heap.size x v ∧ Ext W1 w' ∧ W1.heap.size < w'.heap.size) ⟨setRow_heap _ _ _ _ _ _ (heap_new rfl), ((Ext.refl W1).alloc _).setRow (Nat.le_refl _) _, by simp⟩ ?_
  rintro W2 ⟨h1, e1, h2⟩
  have hl1 : w.heap.size + 1 + 1 < W1.heap.size := (Array.getElem?_eq_some_iff.1 HR1.out).1
  have qx2 : W2.cell? ⟨w.heap.size, 25, none⟩ = some v := by rw [cell_of_row _ _ _ _ _ _ (HX1.out.ext e1)]; rfl
  have lx2 : w.heap.size < W2.heap.size := by omega
  have HY2 := Lib.hid h1
  have HE2 := Lib.hid e1
  clear h1 e1
  have h2' := h2
  go_upto_region 3 with (go_at_call 51; refine (sl_clone v B0 x.h W2 (HO.out.ext (HE1.out.trans HE2.out)) hn).mono ?_; rintro e W3 ⟨v1, rfl, hown, hx⟩; obtain ⟨s1a, s1n, s1c, rfl⟩ := own_slice hown; have HO3 := Lib.hid hown; have hy3 := HY2.out.ext hx; have HY3 := Lib.hid hy3; unfold ExAt Ex.arr at hy3; have qy3 := fun j => cell_of_row W3 _ j _ _ _ hy3; have fy3 := fun j => frozen_of_row W3 _ j _ _ hy3; have ly3 : W1.heap.size < W3.heap.size := (Array.getElem?_eq_some_iff.1 hy3).1; have HE3 := Lib.hid hx; clear hown hx hy3)
  refine wp_forget (fun w' => ExAt w' W1.heap.size x (.slice s1a s1n s1c) ∧ Own w' W2.heap.size x.h (.slice s1a s1n s1c) ∧ Ext W1 w' ∧ W2.heap.size ≤ w'.heap.size) ⟨?a1, ?a2, ?a3, ?a4⟩ ?ar
  case a1 => exact setCell_row (o := 25) HY3.out _
  case a2 => exact own_same HO3.out fun k hk _ => cell_other (o := 25) (show k ≠ W1.heap.size by omega)
  case a3 => exact (HE2.out.trans HE3.out).setCell (Nat.le_refl _) _
  case a4 => simpa [World.setCell] using HE3.out.size
  rintro W4 ⟨h1, h3, h4, h5⟩
  have hx4 := HX1.out.ext h4
  unfold ExAt Ex.arr at hx4
  have qx4 := fun j => cell_of_row W4 _ j _ _ _ hx4
  have lx4 : w.heap.size < W4.heap.size := by omega
  have HY4 := Lib.hid h1
  have HO4 := Lib.hid h3
  have HE4 := Lib.hid h4
  clear h1 h3 h4 hx4 qy3 fy3 ly3 HO3 HY3 HE3 qx2 lx2 HY2
  go_upto_region 4 with fail
  refine wp_forget (fun w' => At4 w w' W2.heap.size W1.heap.size W4.heap.size x m v (.slice s1a s1n s1c) _) ⟨HX1.out.ext (HE4.out.alloc _), heap_ext HM1.out (HE4.out.alloc _), heap_ext HR1.out (HE4.out.alloc _), HY4.out.ext ((Ext.refl _).alloc _), HO4.out.ext ((Ext.refl _).alloc _), heap_new rfl, HE1.out.trans (HE4.out.alloc _), hl1, h2', h5, fun g hg => (own_rowB HO4.out g hg).2, rfl⟩ ?_
  clear qx4 lx4 HX1 HM1 HR1 HY4 HO4 HE4 HE2 HE1
  rintro W5 A4
  have hx5 := A4.hx
  unfold ExAt Ex.arr at hx5
  have qx := fun j => cell_of_row W5 _ j _ _ _ hx5
  have hm5 := A4.hm
  unfold Mv.arr at hm5
  have qm := fun j => cell_of_row W5 _ j _ _ _ hm5
  have hy5 := A4.hy
  unfold ExAt Ex.arr at hy5
  have qy := fun j => cell_of_row W5 _ j _ _ _ hy5
  have fy := fun j => frozen_of_row W5 _ j _ _ hy5
  have lx : w.heap.size < W5.heap.size := (Array.getElem?_eq_some_iff.1 hx5).1
  have lm : w.heap.size + 1 < W5.heap.size := (Array.getElem?_eq_some_iff.1 hm5).1
  have ly : W1.heap.size < W5.heap.size := (Array.getElem?_eq_some_iff.1 hy5).1
  clear hx5 hm5 hy5
  have HA := Lib.hid A4
  clear A4
  have he5 := HA.out.he
  have qe := fun j => cell_of_row W5 _ j _ _ _ he5
  have fe := fun j => frozen_of_row W5 _ j _ _ he5
  have le5 : W4.heap.size < W5.heap.size := (Array.getElem?_eq_some_iff.1 he5).1
  clear he5
  go_wp2_with (first | (go_at_call 64; refine (HC.out _ HA.out.ext).mono ?_; rintro e W6 ⟨rfl, hx⟩; have hm6 := heap_ext HA.out.hm hx; unfold Mv.arr at hm6; have hx6 := HA.out.hx.ext hx; unfold ExAt Ex.arr at hx6; have he6 := heap_ext HA.out.he hx; clear qm qx qy fy lx lm ly qe fe le5; have qm := fun j => cell_of_row W6 _ j _ _ _ hm6; have qx := fun j => cell_of_row W6 _ j _ _ _ hx6; have qe := fun j => cell_of_row W6 _ j _ _ _ he6; have fe := fun j => frozen_of_row W6 _ j _ _ he6; have lm : w.heap.size + 1 < W6.heap.size := (Array.getElem?_eq_some_iff.1 hm6).1; have lx : w.heap.size < W6.heap.size := (Array.getElem?_eq_some_iff.1 hx6).1; have le6 : W4.heap.size < W6.heap.size := (Array.getElem?_eq_some_iff.1 he6).1; have HX6 := Lib.hid hx; clear hx hm6 hx6 he6) | (refine wpList_load_row rfl 33 _ rfl _ rfl _ _ (0, 0) _ (HA.out.hx) Tryz.underlying33 rfl info_ex ?_))
  go_region
  go_upto_region 28 with fail
  have he60 := heap_ext HA.out.he HX6.out
  have hk60 : Keeps [W4.heap.size] W6 W6 := Keeps.refl _ _
  have he61 : (W6.setCell ⟨W4.heap.size, 0, none⟩ (.int .i64 2)).heap[W4.heap.size]? = some (.cells #[.int .i64 2, .int .u64 x.c, .string { data := #[] }, .int .i64 0, .int .i64 0, .int .u64 0, .string { data := #[] }, .bool false] 102 (0, 0)) := setCell_row he60 _
  have hk61 : Keeps [W4.heap.size] W6 (W6.setCell ⟨W4.heap.size, 0, none⟩ (.int .i64 2)) := hk60.setCell (.inl (.head _)) _ _
  have he62 : ((W6.setCell ⟨W4.heap.size, 0, none⟩ (.int .i64 2)).setCell ⟨W4.heap.size, 3, none⟩ (.int .i64 m.l.k)).heap[W4.heap.size]? = some (.cells #[.int .i64 2, .int .u64 x.c, .string { data := #[] }, .int .i64 m.l.k, .int .i64 0, .int .u64 0, .string { data := #[] }, .bool false] 102 (0, 0)) := setCell_row he61 _
  have hk62 : Keeps [W4.heap.size] W6 ((W6.setCell ⟨W4.heap.size, 0, none⟩ (.int .i64 2)).setCell ⟨W4.heap.size, 3, none⟩ (.int .i64 m.l.k)) := hk61.setCell (.inl (.head _)) _ _
  have he63 : (((W6.setCell ⟨W4.heap.size, 0, none⟩ (.int .i64 2)).setCell ⟨W4.heap.size, 3, none⟩ (.int .i64 m.l.k)).setCell ⟨W4.heap.size, 4, none⟩ (.int .i64 m.l.f)).heap[W4.heap.size]? = some (.cells #[.int .i64 2, .int .u64 x.c, .string { data := #[] }, .int .i64 m.l.k, .int .i64 m.l.f, .int .u64 0, .string { data := #[] }, .bool false] 102 (0, 0)) := setCell_row he62 _
  have hk63 : Keeps [W4.heap.size] W6 (((W6.setCell ⟨W4.heap.size, 0, none⟩ (.int .i64 2)).setCell ⟨W4.heap.size, 3, none⟩ (.int .i64 m.l.k)).setCell ⟨W4.heap.size, 4, none⟩ (.int .i64 m.l.f)) := hk62.setCell (.inl (.head _)) _ _
  have he64 : ((((W6.setCell ⟨W4.heap.size, 0, none⟩ (.int .i64 2)).setCell ⟨W4.heap.size, 3, none⟩ (.int .i64 m.l.k)).setCell ⟨W4.heap.size, 4, none⟩ (.int .i64 m.l.f)).setCell ⟨W4.heap.size, 5, none⟩ (.int .u64 m.l.c)).heap[W4.heap.size]? = some (.cells #[.int .i64 2, .int .u64 x.c, .string { data := #[] }, .int .i64 m.l.k, .int .i64 m.l.f, .int .u64 m.l.c, .string { data := #[] }, .bool false] 102 (0, 0)) := setCell_row he63 _
  have hk64 : Keeps [W4.heap.size] W6 ((((W6.setCell ⟨W4.heap.size, 0, none⟩ (.int .i64 2)).setCell ⟨W4.heap.size, 3, none⟩ (.int .i64 m.l.k)).setCell ⟨W4.heap.size, 4, none⟩ (.int .i64 m.l.f)).setCell ⟨W4.heap.size, 5, none⟩ (.int .u64 m.l.c)) := hk63.setCell (.inl (.head _)) _ _
  have he65 : (((((W6.setCell ⟨W4.heap.size, 0, none⟩ (.int .i64 2)).setCell ⟨W4.heap.size, 3, none⟩ (.int .i64 m.l.k)).setCell ⟨W4.heap.size, 4, none⟩ (.int .i64 m.l.f)).setCell ⟨W4.heap.size, 5, none⟩ (.int .u64 m.l.c)).setCell ⟨W4.heap.size, 6, none⟩ (.string m.l.t)).heap[W4.heap.size]? = some (.cells #[.int .i64 2, .int .u64 x.c, .string { data := #[] }, .int .i64 m.l.k, .int .i64 m.l.f, .int .u64 m.l.c, .string m.l.t, .bool false] 102 (0, 0)) := setCell_row he64 _
  have hk65 : Keeps [W4.heap.size] W6 (((((W6.setCell ⟨W4.heap.size, 0, none⟩ (.int .i64 2)).setCell ⟨W4.heap.size, 3, none⟩ (.int .i64 m.l.k)).setCell ⟨W4.heap.size, 4, none⟩ (.int .i64 m.l.f)).setCell ⟨W4.heap.size, 5, none⟩ (.int .u64 m.l.c)).setCell ⟨W4.heap.size, 6, none⟩ (.string m.l.t)) := hk64.setCell (.inl (.head _)) _ _
  have he66 : ((((((W6.setCell ⟨W4.heap.size, 0, none⟩ (.int .i64 2)).setCell ⟨W4.heap.size, 3, none⟩ (.int .i64 m.l.k)).setCell ⟨W4.heap.size, 4, none⟩ (.int .i64 m.l.f)).setCell ⟨W4.heap.size, 5, none⟩ (.int .u64 m.l.c)).setCell ⟨W4.heap.size, 6, none⟩ (.string m.l.t)).setCell ⟨W4.heap.size, 7, none⟩ (.bool m.l.b)).heap[W4.heap.size]? = some (.cells #[.int .i64 2, .int .u64 x.c, .string { data := #[] }, .int .i64 m.l.k, .int .i64 m.l.f, .int .u64 m.l.c, .string m.l.t, .bool m.l.b] 102 (0, 0)) := setCell_row he65 _
  have hk66 : Keeps [W4.heap.size] W6 ((((((W6.setCell ⟨W4.heap.size, 0, none⟩ (.int .i64 2)).setCell ⟨W4.heap.size, 3, none⟩ (.int .i64 m.l.k)).setCell ⟨W4.heap.size, 4, none⟩ (.int .i64 m.l.f)).setCell ⟨W4.heap.size, 5, none⟩ (.int .u64 m.l.c)).setCell ⟨W4.heap.size, 6, none⟩ (.string m.l.t)).setCell ⟨W4.heap.size, 7, none⟩ (.bool m.l.b)) := hk65.setCell (.inl (.head _)) _ _
  have hat8 : At8 w ((((((W6.setCell ⟨W4.heap.size, 0, none⟩ (.int .i64 2)).setCell ⟨W4.heap.size, 3, none⟩ (.int .i64 m.l.k)).setCell ⟨W4.heap.size, 4, none⟩ (.int .i64 m.l.f)).setCell ⟨W4.heap.size, 5, none⟩ (.int .u64 m.l.c)).setCell ⟨W4.heap.size, 6, none⟩ (.string m.l.t)).setCell ⟨W4.heap.size, 7, none⟩ (.bool m.l.b)).drew W2.heap.size W1.heap.size W4.heap.size x m v (.slice s1a s1n s1c) _ #[.int .i64 2, .int .u64 x.c, .string { data := #[] }, .int .i64 m.l.k, .int .i64 m.l.f, .int .u64 m.l.c, .string m.l.t, .bool m.l.b] := (HA.out.ext' HX6.out).to8 (hk66.ext (Ext.refl _).drew) (heap_ext he66 (Ext.refl _).drew)
  clear he60 hk60 he61 hk61 he62 hk62 he63 hk63 he64 hk64 he65 hk65 he66 hk66
  refine wp_forget (fun w' => At8 w w' W2.heap.size W1.heap.size W4.heap.size x m v (.slice s1a s1n s1c) _ #[.int .i64 2, .int .u64 x.c, .string { data := #[] }, .int .i64 m.l.k, .int .i64 m.l.f, .int .u64 m.l.c, .string m.l.t, .bool m.l.b]) hat8 ?_
  clear qx qm qe fe lm lx le6 HA hat8 HX6
  rintro W8 A8
  have hx8 := A8.hx
  unfold ExAt Ex.arr at hx8
  have qx := fun j => cell_of_row W8 _ j _ _ _ hx8
  have hm8 := A8.hm
  unfold Mv.arr at hm8
  have qm := fun j => cell_of_row W8 _ j _ _ _ hm8
  have he8 := A8.he
  have qe := fun j => cell_of_row W8 _ j _ _ _ he8
  have lx : w.heap.size < W8.heap.size := (Array.getElem?_eq_some_iff.1 hx8).1
  have lm : w.heap.size + 1 < W8.heap.size := (Array.getElem?_eq_some_iff.1 hm8).1
  have le8 : W4.heap.size < W8.heap.size := (Array.getElem?_eq_some_iff.1 he8).1
  have ly8 : W1.heap.size < W8.heap.size := (Array.getElem?_eq_some_iff.1 A8.hy).1
  clear hx8 hm8 he8
  have hgB : W2.heap.size ≤ W8.heap.size := by have := A8.hge; omega
  have HA := Lib.hid A8
  clear A8
  have hbad := HBad.out
  go_wp2_with (first | (refine wpList_load_row rfl 33 _ rfl _ rfl _ _ (0, 0) _ (HA.out.hy) Tryz.underlying33 rfl info_ex ?_) | (refine wpList_store_row rfl 33 _ _ rfl _ _ rfl rfl 33 _ (HA.out.hr) info_ex rfl (arr_one (x) rfl) ?_))
  refine bodyPost_ret (results_row_tmp rfl _ _ _ 33 _ (0, 0) _ rfl (setRow_heap _ _ _ _ _ _ (HA.out.hr)) Tryz.underlying33 rfl info_ex) rfl ?_
  exact ⟨_, rfl, own_setRow (own_base (b' := w.heap.size) (HA.out.ho) (by have := HA.out.hgy; have := HA.out.hB; omega)) (HA.out.hr) (by decide) _, Ext.setRow (HA.out.ext) (by omega) _⟩

end Go.Proofs.YtlnmhocehgmbbaaGreatDoor

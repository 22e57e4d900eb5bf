/-
  Plain laws: what the wheel with its callback does, the document's loop does; Tick and Turn of such a wheel. No condition.
-/
import Derived.Test.YtibdplfdmncgiaaMC22
set_option linter.all false
namespace Go.Proofs.Ytibdplfdmncgiaa
open Go.RowKit
attribute [local go_sem] ExtOf.cell ExtOf.frozen ExtOf.lt ExtOf.le
attribute [local go_sem high] ExtOf.cell2 ExtOf.frozen2 ExtOf.lt2 ExtOf.cell3 ExtOf.frozen3 ExtOf.lt3

/-- The document's side of the callback. -/
def cbR (R : Rw) (more again : Int) : Rw := if 0 < more then (afterR R again again_).2 else R
/-- The law's loop over the document's list. -/
def docC (zt again : Int) : Nat → Rw → Int → List Fd → Rw × Int × List Fd
  | 0, R, l, G => (R, l, G)
  | f + 1, R, l, G => match R.L with
    | [] => (R, l, G)
    | t :: L2 => if t.a ≤ zt then docC zt again f (cbR ⟨t.a, R.next, L2⟩ l again) (cbL l) (G ++ [⟨t.id, t.v, t.a⟩]) else (R, l, G)

theorem agree_now {W : Wh} {R : Rw} (h : Agree W R) (z : Int) : Agree { W with now := z } { R with now := z } :=
  ⟨⟨h.inv.heap, h.inv.ent, h.inv.nodup, h.inv.ords, h.inv.onod, h.inv.ids, h.inv.pos⟩, rfl, h.next, h.ex⟩

/-- The first timer of both. -/
theorem first_agree {W : Wh} {R : Rw} (h : Agree W R) {x : Hd} {L' : List Hd} (hfl : firstL W.S W.L.length W.L = x :: L') :
    ∃ L2, R.L = (tmAt W.S x.i).tr :: L2 ∧ (tmAt W.S x.i).id = x.i ∧ Agree { W with now := (tmAt W.S x.i).a, S := dropT W.S x.i, L := x :: L' } ⟨(tmAt W.S x.i).a, R.next, L2⟩ ∧ ∀ u ∈ W.S, (tmAt W.S x.i).a ≤ u.a := by
  have hA := (next_agree h).1
  obtain ⟨t, hgt, _, hmin⟩ := first_min h.inv hfl
  have htm : tmAt W.S x.i = t := by unfold tmAt; rw [hgt]; rfl
  have hid := (get_mem hgt).2
  rw [htm]
  obtain ⟨i, hf, hi, D', d1, d2, d3⟩ := h.some hgt
  have hle : ∀ u ∈ W.S, t.a ≤ u.a := fun u hu => by
    rcases hmin u hu with rfl | h
    · exact Int.le_refl _
    · unfold lessT at h; omega
  -- the place is the first
  have hi0 : i = 0 := by
    obtain ⟨D, e1, e2, e3⟩ := h.ex
    rcases Nat.eq_zero_or_pos i with h0 | h0
    · exact h0
    · exfalso
      rw [e3, List.getElem?_map] at hi
      rw [e3, find_tr] at hf
      obtain ⟨u, hu, hui⟩ := idx_spec hf
      have huS : u ∈ W.S := e1.mem_iff.1 (List.mem_of_getElem? hu)
      have hut : u = t := by
        have := get_of_mem h.inv.nodup huS
        rw [hui, hgt] at this
        exact (Option.some.inj this).symm
      obtain ⟨hlt, hget⟩ := List.getElem?_eq_some_iff.1 hu
      have hz : D[0]? = some D[0] := List.getElem?_eq_getElem (by omega)
      have hl := List.pairwise_iff_getElem.1 e2 0 i (by omega) hlt h0
      rw [hget, hut] at hl
      rcases hmin D[0] (e1.mem_iff.1 (List.getElem_mem _)) with e | e
      · rw [e] at hl; unfold lessT at hl; omega
      · unfold lessT at hl e; omega
  subst hi0
  cases hRL : R.L with
  | nil => rw [hRL] at hi; cases hi
  | cons y L2 =>
    rw [hRL] at hi d3
    simp only [List.getElem?_cons_zero, Option.some.injEq] at hi
    simp only [List.eraseIdx_zero, List.tail_cons] at d3
    subst hi
    have hdi := drop_inv (W := { W with L := x :: L' }) (k := x.i) (by have := hA.inv; rw [hfl] at this; exact this) t.a
    exact ⟨L2, rfl, hid, ⟨hdi, rfl, h.next, D', d1, d2, d3⟩, hle⟩

theorem cb_agree {W : Wh} {R : Rw} (h : Agree W R) (l again : Int) : Agree (cbW W l again) (cbR R l again) := by
  unfold cbW cbR
  split
  · exact (after_agree h again again_).2
  · exact h
theorem cb_ord {W : Wh} {n : Nat} (h : OrdOk W) (hs : Small W n) (l again : Int) : OrdOk (cbW W l again) := by
  unfold cbW
  split
  · exact (small_after hs h again again_).2
  · exact h

/-- What is behind the turning of both. -/
structure Met (zt : Int) (n left : Nat) (g0 : Nat) (A : Wh × Int × List Fd) (D : Rw × Int × List Fd) : Prop where
  same : A.2 = D.2
  agree : Agree A.1 { D.1 with now := zt }
  small : ∃ k, Small A.1 (n + k) ∧ k + A.2.1.toNat = left
  ord : OrdOk A.1
  later : ∀ t ∈ A.1.S, zt < t.a
  now : A.1.now = zt
  pos : 0 ≤ A.2.1
  len : A.2.2.length + A.1.S.length + A.2.1.toNat ≤ g0

theorem until_doc (zt again : Int) (n left g0 : Nat) (hz : zt ≤ 9223372036854775807) : ∀ (f : Nat) (W : Wh) (l : Int) (G : List Fd) (R : Rw) (k : Nat), W.S.length + l.toNat < f → Agree W R → Small W (n + k) → k + l.toNat = left → OrdOk W → Fut W → W.now ≤ zt → 0 ≤ l → G.length + W.S.length + l.toNat ≤ g0 →
    Met zt n left g0 (untilC zt again f W l G) (docC zt again f R l G)
  | 0, W, l, G, R, k, hf, _, _, _, _, _, _, _, _ => by omega
  | f + 1, W, l, G, R, k, hf, h, hs, hk, ho, hfu, hnz, hl, hg => by
    unfold untilC docC
    have hA := (next_agree h).1
    have hz0 : 0 ≤ zt := by have := hs.now.1; omega
    cases hfl : firstL W.S W.L.length W.L with
    | nil =>
      rw [hfl] at hA
      have hS := first_none h.inv hfl
      have hRL : R.L = [] := List.length_eq_zero_iff.1 (by rw [h.len, hS]; rfl)
      rw [hRL]
      obtain ⟨s1, s2, s3, s4, s5, s6⟩ := hs
      exact ⟨rfl, agree_now hA zt, ⟨k, ⟨Nat.zero_le _, s2, s3, s4, s5, ⟨hz0, hz⟩⟩, hk⟩, ho, fun t ht => by rw [hS] at ht; simp at ht, rfl, hl, hg⟩
    | cons x L' =>
      rw [hfl] at hA
      obtain ⟨L2, hRL, hid, hAd, hle⟩ := first_agree h hfl
      have hLL : (x :: L').length ≤ W.L.length := by rw [← hfl]; exact firstL_le _ _
      rw [hRL]
      simp only
      by_cases hlt : zt < (tmAt W.S x.i).a
      · rw [if_pos hlt, if_neg (show ¬ (tmAt W.S x.i).tr.a ≤ zt by show ¬ (tmAt W.S x.i).a ≤ zt; omega)]
        obtain ⟨s1, s2, s3, s4, s5, s6⟩ := hs
        exact ⟨rfl, agree_now hA zt, ⟨k, ⟨Nat.le_trans hLL s1, s2, s3, s4, s5, ⟨hz0, hz⟩⟩, hk⟩, ho, fun t ht => by have := hle t ht; omega, rfl, hl, hg⟩
      · rw [if_neg hlt, if_pos (show (tmAt W.S x.i).tr.a ≤ zt by show (tmAt W.S x.i).a ≤ zt; omega)]
        obtain ⟨t, hgt, _⟩ := first_min h.inv hfl
        have htm : tmAt W.S x.i = t := by unfold tmAt; rw [hgt]; rfl
        have hd := dropT_length hgt
        have hfa := hfu t (get_mem hgt).1
        rw [htm] at hid hAd hle hlt ⊢
        have hs5 : Small { W with now := t.a, S := dropT W.S x.i, L := x :: L' } (n + k) := drop_small hs hLL ⟨by have := hs.now.1; omega, by omega⟩
        obtain ⟨k', k1, k2⟩ := cb_small (again := again) hs5 hl hk
        obtain ⟨c1, c2, c3⟩ := cb_len { W with now := t.a, S := dropT W.S x.i, L := x :: L' } l again hl
        simp only at c1
        have hfd := (fut_drop h.inv hfl).2
        rw [htm] at hfd
        have hod : OrdOk { W with now := t.a, S := dropT W.S x.i, L := x :: L' } := fun u hu => ho u (dropT_mem hu)
        have hnow : (cbW { W with now := t.a, S := dropT W.S x.i, L := x :: L' } l again).now = t.a := by
          unfold cbW
          split
          · exact (after_now again again_).1
          · rfl
        have ih := until_doc zt again n left g0 hz f (cbW { W with now := t.a, S := dropT W.S x.i, L := x :: L' } l again) (cbL l) (G ++ [⟨x.i, t.v, t.a⟩]) (cbR ⟨t.a, R.next, L2⟩ l again) k' (by omega) (cb_agree hAd l again) k1 k2 (cb_ord hod hs5 l again) (fut_cb hfd l again) (by rw [hnow]; omega) c2 (by simp only [List.length_append, List.length_singleton]; omega)
        have e : (⟨t.tr.id, t.tr.v, t.tr.a⟩ : Fd) = ⟨x.i, t.v, t.a⟩ := by rw [← hid]; rfl
        rw [e]
        exact ih

theorem Later.fut {W : Wh} (h : Later W) : Fut W := fun t ht => Int.le_of_lt (h t ht)
/-- Nothing falls due now. -/
theorem until_now {W : Wh} (hi : WInv W) (h : Later W) (again l : Int) (G : List Fd) (f : Nat) : untilC W.now again (f + 1) W l G = ({ W with L := firstL W.S W.L.length W.L }, l, G) := by
  unfold untilC
  cases hfl : firstL W.S W.L.length W.L with
  | nil => rfl
  | cons x L' =>
    obtain ⟨t, hgt, _⟩ := first_min hi hfl
    have htm : tmAt W.S x.i = t := by unfold tmAt; rw [hgt]; rfl
    simp only
    rw [htm, if_pos (h t (get_mem hgt).1)]

/-- One round of the document's loop. -/
theorem doc_step {W : Wh} {R : Rw} {n k left g0 gl : Nat} {z l again : Int} {t : Tr} {L2 : List Tr} (h : Agree W R) (hs : Small W (n + k)) (hk : k + l.toNat = left) (ho : OrdOk W) (hz : t.a ≤ z) (hfu : Fut W) (hl : 0 ≤ l) (hzm : z ≤ 9223372036854775807) (hg : gl + W.S.length + l.toNat ≤ g0) (hR : R.L = t :: L2) :
    ∃ W1, Agree W1 ⟨t.a, R.next, L2⟩ ∧ Small W1 (n + k) ∧ ∃ k', Agree (cbW W1 l again) (cbR ⟨t.a, R.next, L2⟩ l again) ∧ Small (cbW W1 l again) (n + k') ∧ k' + (cbL l).toNat = left ∧ OrdOk (cbW W1 l again) ∧ Fut (cbW W1 l again) ∧ (cbW W1 l again).now ≤ z ∧
      (gl + 1) + (cbW W1 l again).S.length + (cbL l).toNat ≤ g0 ∧ (cbR ⟨t.a, R.next, L2⟩ l again).L.length + (cbL l).toNat ≤ L2.length + l.toNat := by
  cases hfl : firstL W.S W.L.length W.L with
  | nil =>
    have := first_none h.inv hfl
    have h2 := h.len
    rw [hR, this] at h2
    simp at h2
  | cons x L' =>
    obtain ⟨L3, hRL, hid, hAd, hle⟩ := first_agree h hfl
    rw [hR, List.cons.injEq] at hRL
    obtain ⟨ht, rfl⟩ := hRL
    have hta : t.a = (tmAt W.S x.i).a := by rw [ht]; rfl
    have hLL : (x :: L').length ≤ W.L.length := by rw [← hfl]; exact firstL_le _ _
    obtain ⟨y, hgt, _⟩ := first_min h.inv hfl
    have htm : tmAt W.S x.i = y := by unfold tmAt; rw [hgt]; rfl
    have hd := dropT_length hgt
    have hfa := hfu y (get_mem hgt).1
    rw [htm] at hta hAd
    have hs5 : Small { W with now := y.a, S := dropT W.S x.i, L := x :: L' } (n + k) := drop_small hs hLL ⟨by have := hs.now.1; omega, by omega⟩
    obtain ⟨k', k1, k2⟩ := cb_small (again := again) hs5 hl hk
    obtain ⟨c1, c2, c3⟩ := cb_len { W with now := y.a, S := dropT W.S x.i, L := x :: L' } l again hl
    simp only at c1
    have hfd := (fut_drop h.inv hfl).2
    rw [htm] at hfd
    have hod : OrdOk { W with now := y.a, S := dropT W.S x.i, L := x :: L' } := fun u hu => ho u (dropT_mem hu)
    have hnow : (cbW { W with now := y.a, S := dropT W.S x.i, L := x :: L' } l again).now = y.a := by
      unfold cbW
      split
      · exact (after_now again again_).1
      · rfl
    have hcA := cb_agree hAd l again
    have hlen := hAd.len
    simp only at hlen
    rw [hta]
    refine ⟨_, hAd, hs5, k', hcA, k1, k2, cb_ord hod hs5 l again, fut_cb hfd l again, by rw [hnow]; omega, by omega, ?_⟩
    rw [hcA.len]
    omega

theorem tick_cb (p : At) (v : Value) (W : Wh) (q : Cb) (vg : Value) (G : List Fd) (left again : Int) (n : Nat) (w : World) (h : CX p v W q vg G left again w) (hS : Small W n) (hn : n + left.toNat ≤ 1000) (hN : G.length + W.S.length + left.toNat ≤ 1000) (hl : 0 ≤ left ∧ left ≤ 40) (hi : WInv W) (hfu : Fut W) (hn2 : W.now < 9223372036854775807) :
    Calls Try.prog 32 #[.pointer (some ⟨p.bW, 0, none⟩)] w (TurnedC p v q vg again (untilC (W.now + 1) again (W.S.length + left.toNat + 1) W left G) (fun x => x) w) := by
  have H := Lib.hid h
  have h0 := hS.now.1
  have lb : p.bW < w.heap.size := (Array.getElem?_eq_some_iff.1 h.cw.wh.1).1
  have hcb := fun j => cell_of_row w _ j _ _ _ h.cw.wh.1
  have he : (W.now == 9223372036854775807) = false := by simp; omega
  have HU := Lib.hid (until_cb p v W q vg G left again (W.now + 1) n w h hS hn hN hl hi hfu (by omega))
  clear h hS hi hfu
  go_enter Try.func32, Try.ntmps32
  go_wp2_with fail
  refine HU.out.mono ?_
  rintro e w1 ⟨vl, v', vg', rfl, hC, hk, hr, hrg⟩
  have HC := Lib.hid hC
  have HK := Lib.hid hk
  clear hC hk hcb lb
  go_wp2_with fail
  refine bodyPost_ret (results_tmp (t := 2) rfl _ _ _) ?_ ?_
  · rfl
  exact ⟨vl, v', vg', rfl, HC.out, HK.out, hr, hrg⟩
theorem turn_cb (p : At) (v : Value) (W : Wh) (q : Cb) (vg : Value) (G : List Fd) (left again z : Int) (n : Nat) (w : World) (h : CX p v W q vg G left again w) (hS : Small W n) (hn : n + left.toNat ≤ 1000) (hN : G.length + W.S.length + left.toNat ≤ 1000) (hl : 0 ≤ left ∧ left ≤ 40) (hi : WInv W) (hfu : Fut W) (hz : 0 ≤ z) (hz2 : z ≤ 9223372036854775807 - W.now) :
    Calls Try.prog 33 #[.pointer (some ⟨p.bW, 0, none⟩), .int .i64 z] w (TurnedC p v q vg again (untilC (W.now + z) again (W.S.length + left.toNat + 1) W left G) (fun x => .tuple #[x, .int .i64 0]) w) := by
  have H := Lib.hid h
  have h0 := hS.now.1
  have lb : p.bW < w.heap.size := (Array.getElem?_eq_some_iff.1 h.cw.wh.1).1
  have hcb := fun j => cell_of_row w _ j _ _ _ h.cw.wh.1
  have HU := Lib.hid (until_cb p v W q vg G left again (W.now + z) n w h hS hn hN hl hi hfu (by omega))
  clear h hS hi hfu
  go_enter Try.func33, Try.ntmps33
  go_wp2_with fail
  refine HU.out.mono ?_
  rintro e w1 ⟨vl, v', vg', rfl, hC, hk, hr, hrg⟩
  have HC := Lib.hid hC
  have HK := Lib.hid hk
  clear hC hk hcb lb
  go_wp2_with fail
  refine bodyPost_ret (results_tmp2 (t := 4) (u := 5) rfl _ _ _) ?_ ?_
  · rfl
  exact ⟨vl, v', vg', rfl, HC.out, HK.out, hr, hrg⟩
theorem turn_bad_string (p : At) (v : Value) (W : Wh) (n : Int) (w : World) (hW : WheelW 101 47 p v W w) (h0 : 0 ≤ W.now) (h9 : W.now ≤ 9223372036854775807) (hn : n < 0 ∨ 9223372036854775807 - W.now < n) :
    Calls Try.prog 33 #[.pointer (some ⟨p.bW, 0, none⟩), .int .i64 n] w fun e w' => e = .returned (.tuple #[.slice none 0 0, .int .i64 2]) ∧ w' = w := by
  have lb : p.bW < w.heap.size := (Array.getElem?_eq_some_iff.1 hW.1).1
  have hcb := fun j => cell_of_row w _ j _ _ _ hW.1
  clear hW
  by_cases h1 : n < 0
  · go_enter Try.func33, Try.ntmps33
    go_wp2_with fail
    go_ret2
    exact ⟨rfl, rfl⟩
  · have h2 : 9223372036854775807 - W.now < n := by omega
    go_enter Try.func33, Try.ntmps33
    go_wp2_with fail
    go_ret2
    exact ⟨rfl, rfl⟩
end Go.Proofs.Ytibdplfdmncgiaa

/-
  The state of the law TimersCalls between its acts. No condition.
-/
namespace Go.Proofs.Ytibdplfdmncgiaa
open Go.RowKit

/-- All that the law holds, apart: the wheel with its callback, the document's, what was told, what is wanted. -/
structure CallAt (p : At) (q : Cb) (b B Bw : Nat) (again : Int) (v : Value) (W : Wh) (u : Value) (R : Rw) (vg : Value) (G : List Fd) (left : Int) (vw : Value) (H : List Fd) (w0 w : World) : Prop where
  cx : CX p v W q vg G left again w
  rf : RefW b B u R w
  ow : w.ownsRow Bw 64 3 vw H.length (H.flatMap Fd.cs)
  rB : B ≤ w.heap.size
  bB : b < B
  oB : Bw ≤ w.heap.size
  a1 : ∀ k ∈ b :: rowB u, k ∉ p.all v ∧ k ∉ q.all vg ∧ k ∉ q.still
  a2 : ∀ k ∈ rowB vw, k ∉ p.all v ∧ k ∉ q.all vg ∧ k ∉ q.still ∧ k ∉ b :: rowB u
  new : ∀ k ∈ p.all v ++ q.all vg ++ (b :: rowB u) ++ rowB vw, w0.heap.size ≤ k
  ext : Ext w0 w

section
variable {p : At} {q : Cb} {b B Bw : Nat} {again : Int} {v v' : Value} {W W' : Wh} {u u' : Value} {R R' : Rw} {vg vg' : Value} {G G' : List Fd} {left left' : Int} {vw vw' : Value} {H H' : List Fd} {w0 w w' : World}

theorem CallAt.both (h : CallAt p q b B Bw again v W u R vg G left vw H w0 w) : Both p v W b B u R w :=
  ⟨h.cx.cw.wh, h.rf, h.cx.cw.pB, h.rB, h.bB, fun k hk => (h.a1 k hk).1⟩
theorem CallAt.ltw (h : CallAt p q b B Bw again v W u R vg G left vw H w0 w) : ∀ k ∈ rowB vw, k < w.heap.size := fun k hk => (own_ltB h.ow k hk).2

/-- The blocks that a step may turn. -/
theorem CallAt.step (h : CallAt p q b B Bw again v W u R vg G left vw H w0 w) {X : List Nat} (hk : Keeps X w w') (hX : ∀ k ∈ X, k ∈ p.all v ++ q.all vg ++ (b :: rowB u) ++ rowB vw)
    (cx' : CX p v' W' q vg' G' left' again w') (rf' : RefW b B u' R' w') (ow' : w'.ownsRow Bw 64 3 vw' H'.length (H'.flatMap Fd.cs))
    (hv : ∀ g ∈ rowB v', g ∈ rowB v ∨ w.heap.size ≤ g) (hg : ∀ g ∈ rowB vg', g ∈ rowB vg ∨ w.heap.size ≤ g) (hu : ∀ g ∈ rowB u', g ∈ rowB u ∨ w.heap.size ≤ g) (hw : ∀ g ∈ rowB vw', g ∈ rowB vw ∨ w.heap.size ≤ g)
    (n1 : ∀ k ∈ b :: rowB u', k ∉ p.all v' ∧ k ∉ q.all vg' ) (n2 : ∀ k ∈ rowB vw', k ∉ p.all v' ∧ k ∉ q.all vg' ∧ k ∉ b :: rowB u') :
    CallAt p q b B Bw again v' W' u' R' vg' G' left' vw' H' w0 w' := by
  have l1 := h.cx.cw.wh.lt_all
  have l2 := h.cx.cw.ltq
  have l3 := h.rf.lt_all
  have l4 := h.ltw
  have hs := h.ext.size
  have m1 := all_sub (p := p) (fun _ h => h) hv
  have m2 := q_sub (q := q) (fun _ h => h) hg
  have m3 : ∀ k ∈ b :: rowB u', k ∈ b :: rowB u ∨ w.heap.size ≤ k := fun k hk => by
    rcases List.mem_cons.1 hk with e | e
    · exact .inl (by rw [e]; exact .head _)
    · exact (hu k e).imp (List.mem_cons_of_mem _) id
  refine ⟨cx', rf', ow', Nat.le_trans h.rB hk.size, h.bB, Nat.le_trans h.oB hk.size, fun k hm => ⟨(n1 k hm).1, (n1 k hm).2, fun hs => ?_⟩, fun k hm => ⟨(n2 k hm).1, (n2 k hm).2.1, fun hs => ?_, (n2 k hm).2.2⟩, fun k hm => ?_, keeps_ext2 h.ext (fun k hm => h.new k (hX k hm)) hk⟩
  · rcases m3 k hm with e | e
    · exact (h.a1 k e).2.2 hs
    · have := h.cx.cw.stl k hs; omega
  · rcases hw k hm with e | e
    · exact (h.a2 k e).2.2.1 hs
    · have := h.cx.cw.stl k hs; omega
  · simp only [List.mem_append] at hm
    have hn := h.new k
    simp only [List.mem_append] at hn
    rcases hm with ((e | e) | e) | e
    · rcases m1 k e with e | e
      · exact hn (.inl (.inl (.inl e)))
      · omega
    · rcases m2 k e with e | e
      · exact hn (.inl (.inl (.inr e)))
      · omega
    · rcases m3 k e with e | e
      · exact hn (.inl (.inr e))
      · omega
    · rcases hw k e with e | e
      · exact hn (.inr e)
      · omega

theorem not_new {X Y : List Nat} {n : Nat} (hX : ∀ k ∈ X, k < n) (hY : ∀ k ∈ Y, k ∈ X → False) {k : Nat} (hk : k ∈ Y ∨ n ≤ k) : k ∉ X := fun hm => by
  rcases hk with e | e
  · exact hY k e hm
  · have := hX k hm; omega

/-- A step of the wheel and its callback. -/
theorem CallAt.wheel (h : CallAt p q b B Bw again v W u R vg G left vw H w0 w) (cx' : CX p v' W' q vg' G' left' again w') (hk : Keeps (p.all v ++ q.all vg) w w') (hv : ∀ g ∈ rowB v', g ∈ rowB v ∨ w.heap.size ≤ g) (hg : ∀ g ∈ rowB vg', g ∈ rowB vg ∨ w.heap.size ≤ g) :
    CallAt p q b B Bw again v' W' u R vg' G' left' vw H w0 w' := by
  have l3 := h.rf.lt_all
  have l4 := h.ltw
  have m1 := all_sub (p := p) (fun _ h => h) hv
  have m2 := q_sub (q := q) (fun _ h => h) hg
  refine h.step hk (fun k hm => List.mem_append_left _ (List.mem_append_left _ hm)) cx' (h.rf.kept fun k hm => hk.block k (l3 k hm) fun e => ?_) (own_rowB h.ow fun k hm => hk.block k (l4 k hm) fun e => ?_) hv hg (fun _ h => .inl h) (fun _ h => .inl h) (fun k hm => ⟨fun e => ?_, fun e => ?_⟩) (fun k hm => ⟨fun e => ?_, fun e => ?_, (h.a2 k hm).2.2.2⟩)
  · rcases List.mem_append.1 e with e | e
    · exact (h.a1 k hm).1 e
    · exact (h.a1 k hm).2.1 e
  · rcases List.mem_append.1 e with e | e
    · exact (h.a2 k hm).1 e
    · exact (h.a2 k hm).2.1 e
  · rcases m1 k e with e | e
    · exact (h.a1 k hm).1 e
    · have := l3 k hm; omega
  · rcases m2 k e with e | e
    · exact (h.a1 k hm).2.1 e
    · have := l3 k hm; omega
  · rcases m1 k e with e | e
    · exact (h.a2 k hm).1 e
    · have := l4 k hm; omega
  · rcases m2 k e with e | e
    · exact (h.a2 k hm).2.1 e
    · have := l4 k hm; omega
/-- A step of the document's wheel. -/
theorem CallAt.ref (h : CallAt p q b B Bw again v W u R vg G left vw H w0 w) (rf' : RefW b B u' R' w') (hk : Keeps (b :: rowB u) w w') (hu : ∀ g ∈ rowB u', g ∈ rowB u ∨ w.heap.size ≤ g) :
    CallAt p q b B Bw again v W u' R' vg G left vw H w0 w' := by
  have l1 := h.cx.cw.wh.lt_all
  have l2 := h.cx.cw.ltq
  have l4 := h.ltw
  have m3 : ∀ k ∈ b :: rowB u', k ∈ b :: rowB u ∨ w.heap.size ≤ k := fun k hk => by
    rcases List.mem_cons.1 hk with e | e
    · exact .inl (by rw [e]; exact .head _)
    · exact (hu k e).imp (List.mem_cons_of_mem _) id
  refine h.step hk (fun k hm => List.mem_append_left _ (List.mem_append_right _ hm)) (h.cx.wheelX (Y := b :: rowB u) (h.cx.cw.wh.kept fun k hm => hk.block k (l1 k hm) fun e => (h.a1 k e).1 hm) (hk.mono fun _ e => List.mem_append_right _ e) (fun k e => (h.a1 k e).2) (fun _ h => .inl h)) rf' (own_rowB h.ow fun k hm => hk.block k (l4 k hm) (h.a2 k hm).2.2.2) (fun _ h => .inl h) (fun _ h => .inl h) hu (fun _ h => .inl h)
    (fun k hm => ⟨not_new l1 (fun k e => (h.a1 k e).1) (m3 k hm), not_new l2 (fun k e => (h.a1 k e).2.1) (m3 k hm)⟩) (fun k hm => ⟨(h.a2 k hm).1, (h.a2 k hm).2.1, fun e => ?_⟩)
  rcases m3 k e with e | e
  · exact (h.a2 k hm).2.2.2 e
  · have := l4 k hm; omega
/-- What is wanted goes on. -/
theorem CallAt.want (h : CallAt p q b B Bw again v W u R vg G left vw H w0 w) (ow' : w'.ownsRow Bw 64 3 vw' H'.length (H'.flatMap Fd.cs)) (hk : Keeps (rowB vw) w w') (hw : ∀ g ∈ rowB vw', g ∈ rowB vw ∨ w.heap.size ≤ g) :
    CallAt p q b B Bw again v W u R vg G left vw' H' w0 w' := by
  have l1 := h.cx.cw.wh.lt_all
  have l2 := h.cx.cw.ltq
  have l3 := h.rf.lt_all
  refine h.step hk (fun k hm => List.mem_append_right _ hm) (h.cx.wheelX (Y := rowB vw) (h.cx.cw.wh.kept fun k hm => hk.block k (l1 k hm) fun e => (h.a2 k e).1 hm) (hk.mono fun _ e => List.mem_append_right _ e) (fun k e => ⟨(h.a2 k e).2.1, (h.a2 k e).2.2.1⟩) (fun _ h => .inl h)) (h.rf.kept fun k hm => hk.block k (l3 k hm) fun e => (h.a2 k e).2.2.2 hm) ow' (fun _ h => .inl h) (fun _ h => .inl h) (fun _ h => .inl h) hw
    (fun k hm => ⟨(h.a1 k hm).1, (h.a1 k hm).2.1⟩) (fun k hm => ⟨not_new l1 (fun k e => (h.a2 k e).1) (hw k hm), not_new l2 (fun k e => (h.a2 k e).2.1) (hw k hm), not_new l3 (fun k e => (h.a2 k e).2.2.2) (hw k hm)⟩)
/-- A step of both wheels. -/
theorem CallAt.act (h : CallAt p q b B Bw again v W u R vg G left vw H w0 w) (hB : Both p v' W' b B u' R' w') (hk : Keeps (p.all v ++ b :: rowB u) w w') (hv : ∀ g ∈ rowB v', g ∈ rowB v ∨ w.heap.size ≤ g) (hu : ∀ g ∈ rowB u', g ∈ rowB u ∨ w.heap.size ≤ g) :
    CallAt p q b B Bw again v' W' u' R' vg G left vw H w0 w' := by
  have l1 := h.cx.cw.wh.lt_all
  have l2 := h.cx.cw.ltq
  have l4 := h.ltw
  have m1 := all_sub (p := p) (fun _ h => h) hv
  have m3 : ∀ k ∈ b :: rowB u', k ∈ b :: rowB u ∨ w.heap.size ≤ k := fun k hk => by
    rcases List.mem_cons.1 hk with e | e
    · exact .inl (by rw [e]; exact .head _)
    · exact (hu k e).imp (List.mem_cons_of_mem _) id
  refine h.step hk (fun k hm => ?_) (h.cx.wheelX (Y := b :: rowB u) hB.wh hk (fun k e => (h.a1 k e).2) hv) hB.rf (own_rowB h.ow fun k hm => hk.block k (l4 k hm) fun e => ?_) hv (fun _ h => .inl h) hu (fun _ h => .inl h)
    (fun k hm => ⟨hB.apart k hm, not_new l2 (fun k e => (h.a1 k e).2.1) (m3 k hm)⟩) (fun k hm => ⟨fun e => ?_, (h.a2 k hm).2.1, fun e => ?_⟩)
  · rcases List.mem_append.1 hm with e | e
    · exact List.mem_append_left _ (List.mem_append_left _ (List.mem_append_left _ e))
    · exact List.mem_append_left _ (List.mem_append_right _ e)
  · rcases List.mem_append.1 e with e | e
    · exact (h.a2 k hm).1 e
    · exact (h.a2 k hm).2.2.2 e
  · rcases m1 k e with e | e
    · exact (h.a2 k hm).1 e
    · have := l4 k hm; omega
  · rcases m3 k e with e | e
    · exact (h.a2 k hm).2.2.2 e
    · have := l4 k hm; omega
theorem CallAt.on (h : CallAt p q b B Bw again v W u R vg G left vw H w0 w) (e : Ext w w') : CallAt p q b B Bw again v W u R vg G left vw H w0 w' :=
  h.wheel (h.cx.ext e) ((Keeps.refl _ w).ext e) (fun _ h => .inl h) (fun _ h => .inl h)
end
end Go.Proofs.Ytibdplfdmncgiaa

/-
  Walk: a wheel with the law's callback turned to a tick (until). No condition.
-/
import Derived.Test.YtibdplfdmncgiaaMC20
import Derived.LoopN
set_option linter.all false
namespace Go.Proofs.Ytibdplfdmncgiaa
open Go.RowKit
attribute [local go_sem] ExtOf.cell ExtOf.frozen ExtOf.lt ExtOf.le
attribute [local go_sem high] ExtOf.cell2 ExtOf.frozen2 ExtOf.lt2 ExtOf.cell3 ExtOf.frozen3 ExtOf.lt3
attribute [local go_sem] field0_string

def cbV (q : Cb) : Value := .func (.func 29) #[] #[.pointer (some ⟨q.bg, 0, none⟩), .pointer (some ⟨q.bw, 0, none⟩), .pointer (some ⟨q.bl, 0, none⟩), .pointer (some ⟨q.ba, 0, none⟩)]

/-- .. and the row that holds the callback. -/
structure CX (p : At) (v : Value) (W : Wh) (q : Cb) (vg : Value) (G : List Fd) (left again : Int) (w : World) : Prop where
  cw : CW p v W q vg G left again w
  cv : p.cv = .slice (some ⟨q.gc, 0, none⟩) 1 q.cap
  gc : ∃ cur, w.heap[q.gc]? = some (.cells cur 66 (0, 0)) ∧ cur[0]? = some (cbV q)

/-- The wheel turned to a tick, the callback called for each that falls due: the wheel, what is left, what was told. -/
def untilC (zt again : Int) : Nat → Wh → Int → List Fd → Wh × Int × List Fd
  | 0, W, l, G => (W, l, G)
  | f + 1, W, l, G => match firstL W.S W.L.length W.L with
    | [] => ({ W with L := [], now := zt }, l, G)
    | x :: L' => if zt < (tmAt W.S x.i).a then ({ W with L := x :: L', now := zt }, l, G)
      else untilC zt again f (cbW { W with now := (tmAt W.S x.i).a, S := dropT W.S x.i, L := x :: L' } l again) (cbL l) (G ++ [⟨x.i, (tmAt W.S x.i).v, (tmAt W.S x.i).a⟩])

/-- What is behind such a turn. -/
def TurnedC (p : At) (v : Value) (q : Cb) (vg : Value) (again : Int) (R : Wh × Int × List Fd) (g : Value → Value) (w : World) : Ending → World → Prop := fun e w' =>
  ∃ vl v' vg', e = .returned (g vl) ∧ CX p v' R.1 q vg' R.2.2 R.2.1 again w' ∧ Keeps (p.all v ++ q.all vg) w w' ∧ (∀ g ∈ rowB v', g ∈ rowB v ∨ w.heap.size ≤ g) ∧ (∀ g ∈ rowB vg', g ∈ rowB vg ∨ w.heap.size ≤ g)

theorem CX.keeps {p : At} {v v' : Value} {W W' : Wh} {q : Cb} {vg vg' : Value} {G G' : List Fd} {left left' again : Int} {w w' : World} (h : CX p v W q vg G left again w) (hC : CW p v' W' q vg' G' left' again w') {X : List Nat} (hk : Keeps X w w') (hX : ∀ k ∈ X, k ∈ p.all v ∨ k ∈ q.all vg ∨ w.heap.size ≤ k) : CX p v' W' q vg' G' left' again w' := by
  obtain ⟨cur, h1, h2⟩ := h.gc
  refine ⟨hC, h.cv, cur, ?_, h2⟩
  have st := h.cw.still q.gc (by simp [Cb.still])
  exact row_kept h1 hk fun hm => by
    rcases hX _ hm with e | e | e
    · exact st.1 e
    · exact st.2 e
    · have := h.cw.stl q.gc (by simp [Cb.still]); omega
theorem CW.ext {p : At} {v : Value} {W : Wh} {q : Cb} {vg : Value} {G : List Fd} {left again : Int} {w w' : World} (h : CW p v W q vg G left again w) (e : Ext w w') : CW p v W q vg G left again w' :=
  h.wheel (h.wh.ext e) ((Keeps.refl _ w).ext e) fun _ hg => .inl hg
theorem CX.ext {p : At} {v : Value} {W : Wh} {q : Cb} {vg : Value} {G : List Fd} {left again : Int} {w w' : World} (h : CX p v W q vg G left again w) (e : Ext w w') : CX p v W q vg G left again w' :=
  h.keeps (X := []) (h.cw.ext e) ((Keeps.refl _ w).ext e) fun k hk => by simp at hk
theorem CX.wheel {p : At} {v v' : Value} {W W' : Wh} {q : Cb} {vg : Value} {G : List Fd} {left again : Int} {w w' : World} (h : CX p v W q vg G left again w) (hW : WheelW 101 47 p v' W' w') (hk : Keeps (p.all v) w w') (hr : ∀ g ∈ rowB v', g ∈ rowB v ∨ w.heap.size ≤ g) : CX p v' W' q vg G left again w' :=
  h.keeps (h.cw.wheel hW hk hr) hk fun _ hk => .inl hk

/-- The wheel goes on, and another row that lies apart. -/
theorem CX.wheelX {p : At} {v v' : Value} {W W' : Wh} {q : Cb} {vg : Value} {G : List Fd} {left again : Int} {w w' : World} (h : CX p v W q vg G left again w) (hW : WheelW 101 47 p v' W' w') {Y : List Nat} (hk : Keeps (p.all v ++ Y) w w')
    (hY : ∀ k ∈ Y, k ∉ q.all vg ∧ k ∉ q.still) (hr : ∀ g ∈ rowB v', g ∈ rowB v ∨ w.heap.size ≤ g) : CX p v' W' q vg G left again w' := by
  obtain ⟨h, hcv, cur, hc1, hc2⟩ := h
  have hn : ∀ k, k ∈ q.all vg ∨ k ∈ q.still → k ∉ p.all v ++ Y := fun k hk hm => by
    rcases List.mem_append.1 hm with e | e
    · rcases hk with a | a
      · exact h.apart k a e
      · exact (h.still k a).1 e
    · rcases hk with a | a
      · exact (hY k e).1 a
      · exact (hY k e).2 a
  have hall : ∀ g ∈ p.all v', g ∈ p.all v ∨ w.heap.size ≤ g := fun g hg => by
    simp only [At.all, List.mem_cons] at hg ⊢
    rcases hg with e | e | e | e
    · exact .inl (.inl e)
    · exact .inl (.inr (.inl e))
    · exact .inl (.inr (.inr (.inl e)))
    · exact (hr g e).imp (fun e => .inr (.inr (.inr e))) id
  refine ⟨⟨hW, own_rowB h.own fun k hm => hk.block k (h.ltq k (by simp [Cb.all, hm])) (hn k (.inl (by simp [Cb.all, hm]))), ?_, ?_, ?_, ?_, Nat.le_trans h.pB hk.size, Nat.le_trans h.qB hk.size, fun k hm => Nat.lt_of_lt_of_le (h.stl k hm) hk.size, ?_, ?_⟩, hcv, cur, ?_, hc2⟩
  · exact (hk.block _ (h.ltq _ (by simp [Cb.all])) (hn _ (.inl (by simp [Cb.all])))).trans h.bg
  · exact (hk.block _ (h.stl _ (by simp [Cb.still])) (hn _ (.inr (by simp [Cb.still])))).trans h.bw
  · exact (hk.block _ (h.ltq _ (by simp [Cb.all])) (hn _ (.inl (by simp [Cb.all])))).trans h.bl
  · exact (hk.block _ (h.stl _ (by simp [Cb.still])) (hn _ (.inr (by simp [Cb.still])))).trans h.ba
  · intro k hm hp
    rcases hall k hp with e | e
    · exact h.apart k hm e
    · have := h.ltq k hm; omega
  · intro k hm
    refine ⟨fun hp => ?_, (h.still k hm).2⟩
    rcases hall k hp with e | e
    · exact (h.still k hm).1 e
    · have := h.stl k hm; omega
  · exact (hk.block _ (h.stl _ (by simp [Cb.still])) (hn _ (.inr (by simp [Cb.still])))).trans hc1

theorem inv_set {W : Wh} (h : WInv W) (at_ : Int) (s : ByteArray) : WInv (setW W at_ s).2 := by
  unfold setW
  split
  · exact h
  · split
    · exact h
    · exact (laid_inv h at_ s).1
theorem inv_after {W : Wh} (h : WInv W) (n : Int) (s : ByteArray) : WInv (afterW W n s).2 := by
  unfold afterW
  split
  · exact h
  · exact inv_set h _ _
theorem inv_cb {W : Wh} (h : WInv W) (l again : Int) : WInv (cbW W l again) := by
  unfold cbW
  split
  · exact inv_after h _ _
  · exact h
/-- No timer falls due ahead of now. -/
def Fut (W : Wh) : Prop := ∀ t ∈ W.S, W.now ≤ t.a
theorem fut_set {W : Wh} (h : Fut W) (at_ : Int) (s : ByteArray) : Fut (setW W at_ s).2 := by
  unfold setW
  split
  · exact h
  · split
    · exact h
    · intro t ht
      rcases putT_mem ht with rfl | ht
      · show W.now ≤ at_; omega
      · exact h t ht
theorem fut_after {W : Wh} (h : Fut W) (n : Int) (s : ByteArray) : Fut (afterW W n s).2 := by
  unfold afterW
  split
  · exact h
  · exact fut_set h _ _
theorem fut_cb {W : Wh} (h : Fut W) (l again : Int) : Fut (cbW W l again) := by
  unfold cbW
  split
  · exact fut_after h _ _
  · exact h
theorem set_now {W : Wh} (at_ : Int) (s : ByteArray) : (setW W at_ s).2.now = W.now ∧ (setW W at_ s).2.S.length ≤ W.S.length + 1 := by
  unfold setW
  split
  · exact ⟨rfl, Nat.le_succ _⟩
  · split
    · exact ⟨rfl, Nat.le_succ _⟩
    · exact ⟨rfl, putT_len _ _⟩
theorem after_now {W : Wh} (n : Int) (s : ByteArray) : (afterW W n s).2.now = W.now ∧ (afterW W n s).2.S.length ≤ W.S.length + 1 := by
  unfold afterW
  split
  · exact ⟨rfl, Nat.le_succ _⟩
  · exact set_now _ _
theorem cb_len (W : Wh) (l again : Int) (h0 : 0 ≤ l) : (cbW W l again).S.length + (cbL l).toNat ≤ W.S.length + l.toNat ∧ 0 ≤ cbL l ∧ cbL l ≤ l := by
  unfold cbW cbL
  split
  · have := (after_now (W := W) again again_).2
    refine ⟨?_, ?_, ?_⟩ <;> omega
  · exact ⟨Nat.le_refl _, h0, Int.le_refl _⟩
theorem cb_small {W : Wh} {n k left : Nat} {l again : Int} (h : Small W (n + k)) (h0 : 0 ≤ l) (hk : k + l.toNat = left) : ∃ k', Small (cbW W l again) (n + k') ∧ k' + (cbL l).toNat = left := by
  unfold cbW cbL
  split
  · refine ⟨k + 1, ?_, by omega⟩
    obtain ⟨h1, h2, h3, h4, h5, h6⟩ := h
    have hh : Small W (n + k) := ⟨h1, h2, h3, h4, h5, h6⟩
    unfold afterW
    split
    · exact hh.mono (by omega)
    · unfold setW
      split
      · exact hh.mono (by omega)
      · split
        · exact hh.mono (by omega)
        · have hp := putT_len W.S ⟨W.ids, W.now + again, W.ord, again_⟩
          refine ⟨?_, ?_, ?_, ?_, ?_, h6⟩
          · simp only [laidW, upH_length, List.length_append, List.length_singleton]; omega
          · simp only [laidW]; omega
          · simp only [laidW]; omega
          · simp only [laidW]; omega
          · simp only [laidW]; omega
  · exact ⟨k, h, hk⟩
/-- The wheel with its first timer taken out. -/
theorem fut_drop {W : Wh} (hi : WInv W) {x : Hd} {L' : List Hd} (hfl : firstL W.S W.L.length W.L = x :: L') : WInv { W with now := (tmAt W.S x.i).a, S := dropT W.S x.i, L := x :: L' } ∧ Fut { W with now := (tmAt W.S x.i).a, S := dropT W.S x.i, L := x :: L' } := by
  have h1 := first_inv hi W.L.length W.L hi
  rw [hfl] at h1
  obtain ⟨t, hgt, _, hmin⟩ := first_min hi hfl
  have htm : tmAt W.S x.i = t := by unfold tmAt; rw [hgt]; rfl
  rw [htm]
  refine ⟨drop_inv (W := { W with L := x :: L' }) h1 t.a, fun u hu => ?_⟩
  have hu : u ∈ dropT W.S x.i := hu
  show t.a ≤ u.a
  rcases hmin u (dropT_mem hu) with e | e
  · rw [e]; exact Int.le_refl _
  · unfold lessT at e; omega

theorem drop_small {W : Wh} {n : Nat} (h : Small W n) {k a : Int} {x : Hd} {L' : List Hd} (hL : (x :: L').length ≤ W.L.length) (ha : 0 ≤ a ∧ a ≤ 9223372036854775807) : Small { W with now := a, S := dropT W.S k, L := x :: L' } n := by
  obtain ⟨h1, h2, h3, h4, h5, h6⟩ := h
  exact ⟨Nat.le_trans hL h1, Nat.le_trans (dropT_le _ _) h2, h3, h4, h5, ha⟩
end Go.Proofs.Ytibdplfdmncgiaa

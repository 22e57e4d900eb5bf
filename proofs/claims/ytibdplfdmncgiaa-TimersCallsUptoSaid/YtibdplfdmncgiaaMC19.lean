/-
  Walk: the values of all timers, in the order in which they fall due. No condition.
-/
import Derived.Test.YtibdplfdmncgiaaMC18
set_option linter.all false
namespace Go.Proofs.Ytibdplfdmncgiaa
open Go.RowKit
attribute [local go_sem] ExtOf.cell ExtOf.frozen ExtOf.lt ExtOf.le
attribute [local go_sem high] ExtOf.cell2 ExtOf.frozen2 ExtOf.lt2 ExtOf.cell3 ExtOf.frozen3 ExtOf.lt3 ExtOf.cellX ExtOf.frozenX ExtOf.cellX' ExtOf.frozenX'

theorem lt_cmp (S : List Tm) (x y : Int) : ltOf (cmpT S) x y = true ↔ lessT (tmZ S x) (tmZ S y) := by
  unfold ltOf cmpT lessT
  rw [decide_eq_true_iff]
  split
  · omega
  · split <;> omega
theorem lt_cmp_false (S : List Tm) (x y : Int) : ltOf (cmpT S) x y = false ↔ ¬ lessT (tmZ S x) (tmZ S y) := by
  rw [← lt_cmp]; simp
theorem swo_cmp (S : List Tm) : Sort.SWO (ltOf (cmpT S)) where
  irrefl x := by rw [lt_cmp_false]; unfold lessT; omega
  trans x y z h1 h2 := by rw [lt_cmp] at *; unfold lessT at *; omega
  ntrans x y z h1 h2 := by rw [lt_cmp_false] at *; unfold lessT at *; omega

theorem tmZ_mem {S : List Tm} (hn : (S.map (·.id)).Nodup) {t : Tm} (ht : t ∈ S) : tmZ S t.id = t := by
  unfold tmZ
  rw [get_of_mem hn ht]; rfl

theorem less_of {D : List Tm} (h : D.Pairwise lessT) {x y : Tm} (hx : x ∈ D) (hy : y ∈ D) (hne : x ≠ y) (hn : ¬ lessT y x) : lessT x y := by
  induction D with
  | nil => cases hx
  | cons z D ih =>
    obtain ⟨h1, h2⟩ := List.pairwise_cons.1 h
    rcases List.mem_cons.1 hx with ex | kx
    · rcases List.mem_cons.1 hy with ey | ky
      · exact absurd (ex.trans ey.symm) hne
      · rw [ex]; exact h1 y ky
    · rcases List.mem_cons.1 hy with ey | ky
      · exact absurd (ey ▸ h1 x kx) hn
      · exact ih h2 kx ky

/-- The numbers, sorted, are those of the timers in the order in which they fall due. -/
theorem sorted_ids {S D : List Tm} (hn : (S.map (·.id)).Nodup) (hD : D.Perm S) (hs : D.Pairwise lessT) {I : Array Int} (hp : I.toList.Perm (S.map (·.id))) (hI : Sort.SortedIn (ltOf (cmpT S)) 0 I.size I) : I.toList.map (tmZ S) = D := by
  have hmap : (S.map (·.id)).map (tmZ S) = S := by
    rw [List.map_map]
    refine (List.map_congr_left fun t ht => ?_).trans (List.map_id S)
    exact tmZ_mem hn ht
  have h1 : (I.toList.map (tmZ S)).Perm S := by
    have := hp.map (tmZ S)
    rw [hmap] at this
    exact this
  have hid : ∀ k ∈ I.toList, (tmZ S k).id = k ∧ tmZ S k ∈ S := fun k hk => by
    obtain ⟨t, ht, rfl⟩ := List.mem_map.1 (hp.mem_iff.1 hk)
    rw [tmZ_mem hn ht]
    exact ⟨rfl, ht⟩
  refine sorted_unique (h1.trans hD.symm) ?_ hs
  have hnd : I.toList.Nodup := hp.nodup_iff.2 hn
  rw [List.pairwise_map, List.pairwise_iff_getElem]
  intro i j hi hj hij
  have hi' : i < I.size := by simpa using hi
  have hj' : j < I.size := by simpa using hj
  have hlt := hI i j (Nat.zero_le _) hij hj'
  rw [lt_cmp_false, getElem!_pos I j hj', getElem!_pos I i hi'] at hlt
  have c1 : I.toList[i] = I[i] := by simp
  have c2 : I.toList[j] = I[j] := by simp
  rw [← c1, ← c2] at hlt
  have e1 := hid I.toList[i] (List.getElem_mem _)
  have e2 := hid I.toList[j] (List.getElem_mem _)
  refine less_of hs (hD.mem_iff.2 e1.2) (hD.mem_iff.2 e2.2) (fun e => ?_) hlt
  have : I.toList[i] = I.toList[j] := by
    have := congrArg Tm.id e
    rw [e1.1, e2.1] at this
    exact this
  have := (List.getElem_inj hnd).1 this
  omega

theorem field2_tm (x y : Int) (z : ByteArray) (w : World) : (Instr.field 112 (.agg #[.int .i64 x, .int .i64 y, .string z]) 2).run Try.prog w = .ok (.string z) w := by kernel_rfl
attribute [local go_sem] field2_tm

set_option maxRecDepth 100000 in
set_option maxHeartbeats 8000000 in
theorem list_string (p : At) (v : Value) (W : Wh) (D : List Tm) (w : World) (hW : WheelW 101 47 p v W w) (hS : W.S.length ≤ 100000) (ho : ∀ k, 0 ≤ (tmZ W.S k).o ∧ (tmZ W.S k).o ≤ 100000) (hn : (W.S.map (·.id)).Nodup) (hD : D.Perm W.S) (hs : D.Pairwise lessT) :
    Calls Try.prog 57 #[.pointer (some ⟨p.bW, 0, none⟩)] w fun e w' => ∃ vl, e = .returned vl ∧ w'.ownsRow w.heap.size 9 1 vl D.length (txtCs (D.map (·.v))) ∧ Ext w w' := by
  obtain ⟨ti0, hi, hz0, hz1, hz2⟩ := info_parts info_v_string
  have HW := Lib.hid hW
  have hrow := row_string p v W w hW hS ho (swo_cmp _) sortC sortNil
  have HN := Lib.hid hn
  have HD := Lib.hid hD
  have HS := Lib.hid hs
  clear hW ho hn hD hs
  go_enter Try.func57, Try.ntmps57
  go_wp2_with fail
  refine hrow.mono ?_
  rintro e w1 ⟨vr, rfl, I, hown, hp, hsr, hx1⟩
  have hDI := sorted_ids HN.out HD.out HS.out hp hsr
  have hsz : I.size ≤ 100000 := by
    have := hp.length_eq
    rw [Array.length_toList, List.length_map] at this
    omega
  obtain ⟨a, cap, rfl, hm, hvw⟩ := own_view hown
  have HV := Lib.hid hvw
  have HX1 := Lib.hid hx1
  have HDI := Lib.hid hDI
  have HW1 := Lib.hid (HW.out.ext hx1)
  clear hown hp hsr hx1 hvw hDI hm hrow HW
  go_wp2_with fail
  go_loopg [3, 11] I.size (fun g o i wr => ∃ n : Nat, i = .int .i64 (n : Int) ∧ n + g = I.size ∧ Hid (wr.ownsRow w1.heap.size 9 1 o n (txtCs ((D.take n).map (·.v)))) ∧ Hid (Ext w1 wr))
  case atStart => exact ⟨0, rfl, by omega, Lib.hid (World.ownsRow_nil _ _ _ _), Lib.hid (Ext.refl _)⟩
  case round =>
    obtain ⟨n, rfl, hg, HO, HE⟩ := hrel
    rename World => wr
    by_cases hlt : n < I.size
    · obtain ⟨g, rfl, _, hgl0, hcell⟩ := HV.out (by omega)
      have hgl : g < wr.heap.size := Nat.lt_of_lt_of_le hgl0 HE.out.size
      obtain ⟨k, hk⟩ : ∃ k, I.toList[n]? = some k := ⟨_, List.getElem?_eq_getElem (by simpa using hlt)⟩
      have q0 : wr.cell? ⟨g, n, none⟩ = some (.int .i64 k) := cell_keep (hcell n _ (by rw [List.getElem?_map, hk]; rfl)) HE.out
      have hDn : D[n]? = some (tmZ W.S k) := by rw [← HDI.out, List.getElem?_map, hk]; rfl
      have hlt' : (n : Int) < (I.size : Int) := by omega
      have hW2 := HW1.out.ext HE.out
      have lb : p.bW < wr.heap.size := (Array.getElem?_eq_some_iff.1 hW2.1).1
      have hcb := fun j => cell_of_row wr _ j _ _ _ hW2.1
      have hlk : (Instr.lookup 98 (.map (some p.bM)) (.int .i64 k) false).run Try.prog wr = .ok (.agg #[.int .i64 (tmZ W.S k).a, .int .i64 (tmZ W.S k).o, .string (tmZ W.S k).v]) wr := by
        rw [← look_tmZ]
        exact run_lookup Try.underlying98 Try.underlying3 zero_string hW2.2.1 k false
      have HDN := Lib.hid hDn
      clear hcell hk hW2 hDn
      go_wp2_with (at_builtin; refine unHd ?_)
      unfold Hd2
      refine wpList_app w1.heap.size 67 9 ti0 _ 1 16 Try.underlying67 hi hz0 hz1 hz2 rfl (by decide) rfl _ _ rfl _ n _ rfl (own_ext HO.out ((Ext.refl wr).alloc _)) (by have := HE.out.size; simp; omega) wr.heap.size 1 1 #[.string (tmZ W.S k).v] rfl (heap_new rfl) rfl (by simp [Value.oneCell']) (by unfold maxLen; omega) (by omega) ?_
      intro v5 w5 hown5 hb5 hg5
      have E5 := Lib.hid (show Ext w1 w5 from Ext.trans' (HE.out.alloc _) hb5)
      have HO5 := Lib.hid (show w5.ownsRow w1.heap.size 9 1 v5 (n + 1) (txtCs ((D.take (n + 1)).map (·.v))) by
        have e : D.take (n + 1) = D.take n ++ [tmZ W.S k] := by rw [List.take_add_one, HDN.out]; rfl
        rw [e]
        simpa [txtCs] using hown5)
      clear hown5 hb5 hg5 q0 hcb lb hlk
      go_wp2_with fail
      go_roundg (gk - 1)
      case rel => exact ⟨n + 1, rfl, by omega, HO5, E5⟩
      case measure => omega
    · have hlt' : ¬ (n : Int) < (I.size : Int) := by omega
      go_wp2_with fail
      go_ret
      obtain rfl : n = I.size := by omega
      have hl : D.length = I.size := by rw [← HDI.out, List.length_map, Array.length_toList]
      have := HO.out
      rw [← hl, List.take_length] at this
      exact ⟨_, rfl, own_base this HX1.out.size, HX1.out.trans HE.out⟩
end Go.Proofs.Ytibdplfdmncgiaa

/-
  Both wheels in one world: what a step of the one leaves of the other. No condition.
-/
namespace Go.Proofs.Ytibdplfdmncgiaa
open Go.RowKit

theorem HeapW.kept {B bH : Nat} {f : FuncId} {v : Value} {L : List Hd} {m : Int} {w w' : World} (h : HeapW B bH f v L m w) (h1 : w'.heap[bH]? = w.heap[bH]?) (h2 : ∀ k ∈ rowB v, w'.heap[k]? = w.heap[k]?) : HeapW B bH f v L m w' := ⟨h1.trans h.1, own_rowB h.2 h2⟩
theorem WheelW.kept {T : TypeId} {f : FuncId} {p : At} {v : Value} {W : Wh} {w w' : World} (h : WheelW T f p v W w) (hk : ∀ k ∈ p.all v, w'.heap[k]? = w.heap[k]?) : WheelW T f p v W w' :=
  ⟨(hk p.bW (by simp [At.all])).trans h.1, h.2.1.same (hk p.bM (by simp [At.all])), h.2.2.kept (hk p.bH (by simp [At.all])) fun k hk2 => hk k (by simp [At.all, hk2])⟩
theorem WheelW.lt_all {T : TypeId} {f : FuncId} {p : At} {v : Value} {W : Wh} {w : World} (h : WheelW T f p v W w) : ∀ k ∈ p.all v, k < w.heap.size := fun k hk => by
  have hM := p.hM
  have hH := p.hH
  have lb := (Array.getElem?_eq_some_iff.1 h.1).1
  simp only [At.all, List.mem_cons] at hk
  rcases hk with rfl | rfl | rfl | hk
  · exact lb
  · omega
  · omega
  · exact (h.2.2.2.lt k (by unfold rowB at hk; split at hk <;> simp_all)).2
theorem RefW.lt_all {b B : Nat} {u : Value} {R : Rw} {w : World} (h : RefW b B u R w) : ∀ k ∈ b :: rowB u, k < w.heap.size := fun k hk => by
  rcases List.mem_cons.1 hk with rfl | hk
  · exact (Array.getElem?_eq_some_iff.1 h.1).1
  · exact (h.2.lt k hk).2
theorem RefW.kept {b B : Nat} {u : Value} {R : Rw} {w w' : World} (h : RefW b B u R w) (hk : ∀ k ∈ b :: rowB u, w'.heap[k]? = w.heap[k]?) : RefW b B u R w' := ⟨(hk b (.head _)).trans h.1, h.2.rowB fun k hk2 => hk k (List.mem_cons_of_mem _ hk2)⟩

/-- The wheel and the document's, in one world, apart. -/
structure Both (p : At) (v : Value) (W : Wh) (b B : Nat) (u : Value) (R : Rw) (w : World) : Prop where
  wh : WheelW 101 47 p v W w
  rf : RefW b B u R w
  pB : p.B ≤ w.heap.size
  rB : B ≤ w.heap.size
  bB : b < B
  apart : ∀ k ∈ b :: rowB u, k ∉ p.all v

theorem Both.ext {p : At} {v : Value} {W : Wh} {b B : Nat} {u : Value} {R : Rw} {w w' : World} (h : Both p v W b B u R w) (e : Ext w w') : Both p v W b B u R w' :=
  ⟨h.wh.ext e, h.rf.ext e, Nat.le_trans h.pB e.size, Nat.le_trans h.rB e.size, h.bB, h.apart⟩
theorem Both.wheel {p : At} {v v' : Value} {W W' : Wh} {b B : Nat} {u : Value} {R : Rw} {w w' : World} (h : Both p v W b B u R w) (hW : WheelW 101 47 p v' W' w') (hk : Keeps (p.all v) w w') (hr : ∀ g ∈ rowB v', g ∈ rowB v ∨ w.heap.size ≤ g) : Both p v' W' b B u R w' :=
  ⟨hW, h.rf.kept fun k hk2 => hk.block k (h.rf.lt_all k hk2) (h.apart k hk2), Nat.le_trans h.pB hk.size, Nat.le_trans h.rB hk.size, h.bB, fun k hk2 hm => by
    have hn := h.apart k hk2
    have hl := h.rf.lt_all k hk2
    simp only [At.all, List.mem_cons, not_or] at hn hm
    rcases hm with h1 | h1 | h1 | h1
    · exact hn.1 h1
    · exact hn.2.1 h1
    · exact hn.2.2.1 h1
    · rcases hr k h1 with h2 | h2
      · exact hn.2.2.2 h2
      · omega⟩
theorem Both.ref {p : At} {v : Value} {W : Wh} {b B : Nat} {u u' : Value} {R R' : Rw} {w w' : World} (h : Both p v W b B u R w) (hR : RefW b B u' R' w') (hk : Keeps (b :: rowB u) w w') (hr : ∀ g ∈ rowB u', g ∈ rowB u ∨ w.heap.size ≤ g) : Both p v W b B u' R' w' :=
  ⟨h.wh.kept fun k hk2 => hk.block k (h.wh.lt_all k hk2) fun hm => h.apart k hm hk2, hR, Nat.le_trans h.pB hk.size, Nat.le_trans h.rB hk.size, h.bB, fun k hk2 hm => by
    have hl := h.wh.lt_all k hm
    rcases List.mem_cons.1 hk2 with h1 | h1
    · exact h.apart k (by rw [h1]; exact .head _) hm
    · rcases hr k h1 with h2 | h2
      · exact h.apart k (List.mem_cons_of_mem _ h2) hm
      · omega⟩

/-- All counters of a wheel are small. -/
structure Small (W : Wh) (n : Nat) : Prop where
  L : W.L.length ≤ n
  S : W.S.length ≤ n
  m : 0 ≤ W.m ∧ W.m ≤ n
  ord : 0 ≤ W.ord ∧ W.ord ≤ n
  ids : 0 ≤ W.ids ∧ W.ids ≤ n
  now : 0 ≤ W.now ∧ W.now ≤ 9223372036854775807

/-- The orders of the timers that are set lie between nought and the wheel's count. -/
def OrdOk (W : Wh) : Prop := ∀ t ∈ W.S, 0 ≤ t.o
theorem ord_tmZ {W : Wh} (hi : WInv W) (ho : OrdOk W) {n : Nat} (hs : Small W n) (hn : n ≤ 100000) (k : Int) : 0 ≤ (tmZ W.S k).o ∧ (tmZ W.S k).o ≤ 100000 := by
  unfold tmZ
  cases hg : getT W.S k with
  | none => exact ⟨Int.le_refl _, by show (0 : Int) ≤ 100000; decide⟩
  | some t =>
    have hm := (get_mem hg).1
    have h1 := hi.sord hm
    have h2 := hs.ord.2
    exact ⟨ho t hm, by show t.o ≤ 100000; omega⟩
end Go.Proofs.Ytibdplfdmncgiaa

/-
  Plain laws: the counters of a wheel stay small. No condition.
-/
namespace Go.Proofs.Ytibdplfdmncgiaa

theorem upH_length : ∀ (f : Nat) (L : List Hd) (i : Nat), (upH f L i).length = L.length
  | 0, _, _ => rfl
  | f + 1, L, i => by
    unfold upH
    repeat' split
    all_goals first | rfl | (rw [upH_length f]; exact swapH_length _ _ _)
theorem putT_len (S : List Tm) (t : Tm) : (putT S t).length ≤ S.length + 1 := by
  unfold putT
  split
  · rw [List.length_set]; omega
  · rw [List.length_append]; exact Nat.le_refl _
theorem putT_mem {S : List Tm} {t u : Tm} (h : u ∈ putT S t) : u = t ∨ u ∈ S := by
  unfold putT at h
  split at h
  · rcases List.mem_or_eq_of_mem_set h with h | h
    · exact .inr h
    · exact .inl h
  · rcases List.mem_append.1 h with h | h
    · exact .inr h
    · exact .inl (by simpa using h)
theorem dropT_mem {S : List Tm} {k : Int} {u : Tm} (h : u ∈ dropT S k) : u ∈ S := by
  unfold dropT at h
  split at h
  · exact List.mem_of_mem_eraseIdx h
  · exact h
theorem dropT_le (S : List Tm) (k : Int) : (dropT S k).length ≤ S.length := by
  unfold dropT
  split
  · exact List.length_eraseIdx_le _ _
  · exact Nat.le_refl _

theorem Small.mono {W : Wh} {n m : Nat} (h : Small W n) (hm : n ≤ m) : Small W m :=
  ⟨Nat.le_trans h.L hm, Nat.le_trans h.S hm, by have := h.m; omega, by have := h.ord; omega, by have := h.ids; omega, h.now⟩
theorem small_laid {W : Wh} {n : Nat} (h : Small W n) (id at_ : Int) (v : ByteArray) : Small (laidW W id at_ v) (n + 1) := by
  obtain ⟨h1, h2, h3, h4, h5, h6⟩ := h
  have hp := putT_len W.S ⟨id, at_, W.ord, v⟩
  refine ⟨?_, ?_, ?_, ?_, ?_, h6⟩
  · simp only [laidW, upH_length, List.length_append, List.length_singleton]; omega
  · simp only [laidW]; omega
  · simp only [laidW]; omega
  · simp only [laidW]; omega
  · simp only [laidW]; omega
theorem ord_laid {W : Wh} (h : OrdOk W) (h0 : 0 ≤ W.ord) (id at_ : Int) (v : ByteArray) : OrdOk (laidW W id at_ v) := by
  intro u hu
  rcases putT_mem hu with rfl | hu
  · exact h0
  · exact h u hu

theorem small_set {W : Wh} {n : Nat} (h : Small W n) (ho : OrdOk W) (at_ : Int) (v : ByteArray) : Small (setW W at_ v).2 (n + 1) ∧ OrdOk (setW W at_ v).2 := by
  unfold setW
  split
  · exact ⟨h.mono (by omega), ho⟩
  · split
    · exact ⟨h.mono (by omega), ho⟩
    · obtain ⟨h1, h2, h3, h4, h5, h6⟩ := h
      refine ⟨?_, ord_laid (W := { W with ids := W.ids + 1 }) ho h4.1 _ _ _⟩
      have hp := putT_len W.S ⟨W.ids, at_, W.ord, v⟩
      refine ⟨?_, ?_, ?_, ?_, ?_, h6⟩
      · simp only [laidW, upH_length, List.length_append, List.length_singleton]; omega
      · simp only [laidW]; omega
      · simp only [laidW]; omega
      · simp only [laidW]; omega
      · simp only [laidW]; omega
theorem small_after {W : Wh} {n : Nat} (h : Small W n) (ho : OrdOk W) (k : Int) (v : ByteArray) : Small (afterW W k v).2 (n + 1) ∧ OrdOk (afterW W k v).2 := by
  unfold afterW
  split
  · exact ⟨h.mono (by omega), ho⟩
  · exact small_set h ho _ _
theorem small_drop {W : Wh} {n : Nat} (h : Small W n) (ho : OrdOk W) (k : Int) : Small { W with S := dropT W.S k } n ∧ OrdOk { W with S := dropT W.S k } := by
  obtain ⟨h1, h2, h3, h4, h5, h6⟩ := h
  exact ⟨⟨h1, Nat.le_trans (dropT_le _ _) h2, h3, h4, h5, h6⟩, fun u hu => ho u (dropT_mem hu)⟩
theorem small_move {W : Wh} {n : Nat} (h : Small W n) (ho : OrdOk W) (k at_ : Int) : Small (moveW W k at_).2 (n + 1) ∧ OrdOk (moveW W k at_).2 := by
  unfold moveW
  split
  · exact ⟨h.mono (by omega), ho⟩
  · split
    · exact ⟨h.mono (by omega), ho⟩
    · exact ⟨small_laid h _ _ _, ord_laid ho h.ord.1 _ _ _⟩
theorem small_until {W : Wh} {n : Nat} (hi : WInv W) (h : Small W n) (ho : OrdOk W) {z : Int} (hz : 0 ≤ z ∧ z ≤ 9223372036854775807) :
    Small (untilW z (W.S.length + 1) W []).2 n ∧ OrdOk (untilW z (W.S.length + 1) W []).2 := by
  have T := until_ok z (W.S.length + 1) W [] (by omega) hi
  obtain ⟨h1, h2, h3, h4, h5, h6⟩ := h
  obtain ⟨s1, s2, s3, s4⟩ := T.same
  refine ⟨⟨Nat.le_trans s4 h1, ?_, by rw [s3]; exact h3, by rw [s2]; exact h4, by rw [s1]; exact h5, by rw [T.now]; exact hz⟩, fun u hu => ?_⟩
  · rw [T.S]; exact Nat.le_trans (List.length_filter_le _ _) h2
  · rw [T.S] at hu; exact ho u (List.mem_filter.1 hu).1
theorem small_first {W : Wh} {n : Nat} (h : Small W n) (ho : OrdOk W) : Small { W with L := firstL W.S W.L.length W.L } n ∧ OrdOk { W with L := firstL W.S W.L.length W.L } := by
  obtain ⟨h1, h2, h3, h4, h5, h6⟩ := h
  exact ⟨⟨Nat.le_trans (firstL_le _ _) h1, h2, h3, h4, h5, h6⟩, ho⟩
theorem small0 : Small wh00 0 ∧ OrdOk wh00 := ⟨⟨Nat.le_refl _, Nat.le_refl _, ⟨Int.le_refl _, Int.le_refl _⟩, ⟨Int.le_refl _, Int.le_refl _⟩, ⟨Int.le_refl _, Int.le_refl _⟩, ⟨Int.le_refl _, by decide⟩⟩, fun u hu => by simp [wh00] at hu⟩
/-- Each timer that is set falls due later than now. -/
def Later (W : Wh) : Prop := ∀ t ∈ W.S, W.now < t.a
theorem later_set {W : Wh} (h : Later W) (at_ : Int) (s : ByteArray) : Later (setW W at_ s).2 := by
  unfold setW
  split
  · exact h
  · split
    · exact h
    · intro t ht
      rcases putT_mem ht with rfl | ht
      · show W.now < at_; omega
      · exact h t ht
theorem later_after {W : Wh} (h : Later W) (n : Int) (s : ByteArray) : Later (afterW W n s).2 := by
  unfold afterW
  split
  · exact h
  · exact later_set h _ _
theorem later_drop {W : Wh} (h : Later W) (k : Int) : Later { W with S := dropT W.S k } := fun t ht => h t (dropT_mem ht)
theorem later_move {W : Wh} (h : Later W) (k at_ : Int) : Later (moveW W k at_).2 := by
  unfold moveW
  split
  · exact h
  · split
    · exact h
    · intro t ht
      rcases putT_mem ht with rfl | ht
      · show W.now < at_; omega
      · exact h t ht
theorem set_len (W : Wh) (at_ : Int) (s : ByteArray) : (setW W at_ s).2.S.length ≤ W.S.length + 1 := by
  unfold setW
  split
  · exact Nat.le_succ _
  · split
    · exact Nat.le_succ _
    · exact putT_len _ _
theorem after_len (W : Wh) (n : Int) (s : ByteArray) : (afterW W n s).2.S.length ≤ W.S.length + 1 := by
  unfold afterW
  split
  · exact Nat.le_succ _
  · exact set_len _ _ _
theorem move_len (W : Wh) (k at_ : Int) : (moveW W k at_).2.S.length ≤ W.S.length + 1 := by
  unfold moveW
  split
  · exact Nat.le_succ _
  · split
    · exact Nat.le_succ _
    · exact putT_len _ _
end Go.Proofs.Ytibdplfdmncgiaa

/-
  Walk: the law's act. No condition.
-/
namespace Go.Proofs.Ytibdplfdmncgiaa
open Go.RowKit
attribute [local go_sem] ExtOf.cell ExtOf.frozen ExtOf.lt ExtOf.le
attribute [local go_sem high] ExtOf.cell2 ExtOf.frozen2 ExtOf.lt2 ExtOf.cell3 ExtOf.frozen3 ExtOf.lt3

theorem num_w (x : Int) (w : World) : Calls Try.prog 11 #[.int .i64 x] w fun e w' => e = .returned (.int .i64 x) ∧ w' = w := by
  go_enter Try.func11, Try.ntmps11
  go_wp2_with fail
  go_ret
  exact ⟨rfl, rfl⟩

/-- What is behind an act: both wheels, in one world, say the same still. -/
def Acted (p : At) (v : Value) (W : Wh) (b B : Nat) (u : Value) (n : Nat) (w : World) : Ending → World → Prop := fun e w' =>
  e = .returned (.bool true) ∧ ∃ v' W' u' R', Both p v' W' b B u' R' w' ∧ Agree W' R' ∧ Small W' (n + 1) ∧ OrdOk W' ∧ (Later W → Later W') ∧ W'.S.length ≤ W.S.length + 1 ∧ Keeps (p.all v ++ b :: rowB u) w w' ∧ (∀ g ∈ rowB v', g ∈ rowB v ∨ w.heap.size ≤ g) ∧ (∀ g ∈ rowB u', g ∈ rowB u ∨ w.heap.size ≤ g)

/-- An act of the law's. -/
structure Ac where
  k : Int
  a : Int
  id : Int
  v : ByteArray
def Ac.val (x : Ac) : Value := .agg #[.int .i64 x.k, .int .i64 x.a, .int .i64 x.id, .string x.v]

/-- A turn of the wheel: what is behind it in both wheels. -/
def Wheeled (p : At) (v : Value) (W : Wh) (b B : Nat) (u : Value) (R : Rw) (r : Value) (w : World) : Ending → World → Prop := fun e w' =>
  e = .returned r ∧ ∃ v', Both p v' W b B u R w' ∧ Keeps (p.all v) w w' ∧ ∀ g ∈ rowB v', g ∈ rowB v ∨ w.heap.size ≤ g
def Reffed (p : At) (v : Value) (W : Wh) (b B : Nat) (u : Value) (R : Rw) (r : Value) (w : World) : Ending → World → Prop := fun e w' =>
  e = .returned r ∧ ∃ u', Both p v W b B u' R w' ∧ Keeps (b :: rowB u) w w' ∧ ∀ g ∈ rowB u', g ∈ rowB u ∨ w.heap.size ≤ g
theorem wheeled {p : At} {v : Value} {W W' : Wh} {b B : Nat} {u : Value} {R : Rw} {r : Value} {w : World} (h : Both p v W b B u R w) {e : Ending} {w' : World} (k : LaidW 101 47 p v W' r w e w') : Wheeled p v W' b B u R r w e w' := by
  obtain ⟨k1, v', k2, k3, k4⟩ := k
  exact ⟨k1, v', h.wheel k2 k3 k4, k3, k4⟩
theorem reffed {p : At} {v : Value} {W : Wh} {b B : Nat} {u : Value} {R R' : Rw} {r : Value} {w : World} (h : Both p v W b B u R w) {e : Ending} {w' : World} (k : RefTo b B u R' r w e w') : Reffed p v W b B u R' r w e w' := by
  obtain ⟨k1, v', k2, k3, k4⟩ := k
  exact ⟨k1, v', h.ref k2 k3 k4, k3, k4⟩
theorem keeps_two {p : At} {v : Value} {b : Nat} {u : Value} {w w1 w2 : World} (h : Keeps (p.all v) w w1) (k : Keeps (b :: rowB u) w1 w2) : Keeps (p.all v ++ b :: rowB u) w w2 :=
  (h.mono fun _ hk => List.mem_append_left _ hk).trans (k.mono fun _ hk => List.mem_append_right _ hk)

theorem row_kept {w w' : World} {g : Nat} {o : Obj} (h : w.heap[g]? = some o) {X : List Nat} (k : Keeps X w w') (hx : g ∉ X) : w'.heap[g]? = some o :=
  (k.block g (Array.getElem?_eq_some_iff.1 h).1 hx).trans h
theorem Both.not_p {p : At} {v : Value} {W : Wh} {b B : Nat} {u : Value} {R : Rw} {w : World} (h : Both p v W b B u R w) {g : Nat} (hg : w.heap.size ≤ g) : g ∉ p.all v := fun hm => by have := h.wh.lt_all g hm; omega
theorem Both.not_b {p : At} {v : Value} {W : Wh} {b B : Nat} {u : Value} {R : Rw} {w : World} (h : Both p v W b B u R w) {g : Nat} (hg : w.heap.size ≤ g) : g ∉ b :: rowB u := fun hm => by have := h.rf.lt_all g hm; omega

theorem rowsle {v v' : Value} {n m : Nat} (h : ∀ g ∈ rowB v', g ∈ rowB v ∨ m ≤ g) (hn : n ≤ m) : ∀ g ∈ rowB v', g ∈ rowB v ∨ n ≤ g := fun g hg => (h g hg).imp id fun h => Nat.le_trans hn h
theorem cancel_both {W : Wh} {R : Rw} (h : Agree W R) (k : Int) : (cancelR R k).1 = cancelV W.S k ∧ Agree { W with S := dropT W.S k } (cancelR R k).2 := by
  unfold cancelR cancelV
  cases hg : getT W.S k with
  | none =>
    rw [h.none hg, dropT_none hg]
    exact ⟨rfl, h⟩
  | some t =>
    obtain ⟨i, hf, hi, _⟩ := h.some hg
    rw [hf]
    simp only [hi]
    exact ⟨rfl, cancel_agree h hg hf⟩
theorem cancelV_form (S : List Tm) (k : Int) : ∃ s q, cancelV S k = .tuple #[.string s, .bool q] := by
  unfold cancelV
  split <;> exact ⟨_, _, rfl⟩

set_option maxRecDepth 100000 in
set_option maxHeartbeats 8000000 in
theorem act_set (p : At) (v : Value) (W : Wh) (b B : Nat) (u : Value) (R : Rw) (x : Ac) (hk : x.k = 1) (n : Nat) (hn : n ≤ 1000) (w : World) (h : Both p v W b B u R w) (ha : Agree W R) (hs : Small W n) (ho : OrdOk W) :
    Calls Try.prog 26 #[.pointer (some ⟨p.bW, 0, none⟩), .pointer (some ⟨b, 0, none⟩), x.val] w (Acted p v W b B u n w) := by
  obtain ⟨k, at_, id, s⟩ := x
  simp only at hk
  subst hk
  unfold Ac.val
  simp only
  have H := Lib.hid h
  have HA := Lib.hid ha
  have HS := Lib.hid hs
  have HO := Lib.hid ho
  clear h ha hs ho
  unfold Acted
  go_enter Try.func26, Try.ntmps26
  go_wp2_with fail
  have hA : (w.alloc (.cells #[.int .i64 1, .int .i64 at_, .int .i64 id, .string s] 59)).heap[w.heap.size]? = some (.cells #[.int .i64 1, .int .i64 at_, .int .i64 id, .string s] 59 (0, 0)) := heap_new rfl
  have eA : Ext w (w.alloc (.cells #[.int .i64 1, .int .i64 at_, .int .i64 id, .string s] 59)) := (Ext.refl w).alloc _
  have HB1 := Lib.hid (H.out.ext eA)
  generalize w.alloc _ = w1 at hA eA HB1 ⊢
  refine (set_string p v W at_ s w1 HB1.out.wh HB1.out.pB (by have := HS.out.L; omega) (by have := HS.out.m; omega) (by have := HS.out.ord; omega) (by have := HS.out.ids; omega)).mono ?_
  intro e w2 hw2
  obtain ⟨rfl, v2, hB2, hK2, hR2⟩ := wheeled HB1.out hw2
  have HB2 := Lib.hid hB2
  have HK2 := Lib.hid hK2
  have HR2 := Lib.hid hR2
  have HL2 := Lib.hid (Nat.le_trans eA.size hK2.size)
  have hA2 := row_kept hA hK2 (H.out.not_p (Nat.le_refl _))
  have lA2 : w.heap.size < w2.heap.size := (Array.getElem?_eq_some_iff.1 hA2).1
  have hcA2 := fun j => cell_of_row w2 _ j _ _ _ hA2
  have EA := Lib.hid eA
  clear hw2 hB2 hK2 hR2 hA2 hA eA
  unfold numV
  have hag := (set_agree HA.out at_ s).1
  go_wp2_with fail
  refine (ref_set b B u R at_ s w2 HB2.out.rf HB2.out.bB HB2.out.rB (by have := HA.out.len; have := HS.out.S; omega) HA.out.sorted (by have := HA.out.next; have := HS.out.ids; omega)).mono ?_
  intro e w3 hw3
  obtain ⟨rfl, u3, hB3, hK3, hR3⟩ := reffed HB2.out hw3
  have HB3 := Lib.hid hB3
  have HK3 := Lib.hid (keeps_two HK2.out hK3)
  have HR3 := Lib.hid hR3
  clear hw3 hB3 hK3 hR3 hcA2 lA2
  rw [← hag]
  unfold numV
  go_wp2_with fail
  refine (num_w _ _).mono ?_
  rintro e w4 ⟨rfl, rfl⟩
  go_wp2_with fail
  go_ret
  exact ⟨rfl, v2, _, u3, _, HB3.out, (set_agree HA.out at_ s).2, (small_set HS.out HO.out at_ s).1, (small_set HS.out HO.out at_ s).2, fun h => later_set h at_ s, set_len W at_ s, ((Keeps.refl _ _).ext EA.out).trans HK3.out, rowsle HR2.out EA.out.size, rowsle HR3.out HL2.out⟩

set_option maxRecDepth 100000 in
set_option maxHeartbeats 8000000 in
theorem act_after (p : At) (v : Value) (W : Wh) (b B : Nat) (u : Value) (R : Rw) (x : Ac) (hk : x.k = 2) (n : Nat) (hn : n ≤ 1000) (w : World) (h : Both p v W b B u R w) (ha : Agree W R) (hs : Small W n) (ho : OrdOk W) :
    Calls Try.prog 26 #[.pointer (some ⟨p.bW, 0, none⟩), .pointer (some ⟨b, 0, none⟩), x.val] w (Acted p v W b B u n w) := by
  obtain ⟨k, at_, id, s⟩ := x
  simp only at hk
  subst hk
  unfold Ac.val
  simp only
  have H := Lib.hid h
  have HA := Lib.hid ha
  have HS := Lib.hid hs
  have HO := Lib.hid ho
  clear h ha hs ho
  unfold Acted
  go_enter Try.func26, Try.ntmps26
  go_wp2_with fail
  have hA : (w.alloc (.cells #[.int .i64 2, .int .i64 at_, .int .i64 id, .string s] 59)).heap[w.heap.size]? = some (.cells #[.int .i64 2, .int .i64 at_, .int .i64 id, .string s] 59 (0, 0)) := heap_new rfl
  have eA : Ext w (w.alloc (.cells #[.int .i64 2, .int .i64 at_, .int .i64 id, .string s] 59)) := (Ext.refl w).alloc _
  have HB1 := Lib.hid (H.out.ext eA)
  generalize w.alloc _ = w1 at hA eA HB1 ⊢
  refine (after_string p v W at_ s w1 HB1.out.wh HB1.out.pB (by have := HS.out.L; omega) (by have := HS.out.m; omega) (by have := HS.out.ord; omega) (by have := HS.out.ids; omega) HS.out.now.1 HS.out.now.2).mono ?_
  intro e w2 hw2
  obtain ⟨rfl, v2, hB2, hK2, hR2⟩ := wheeled HB1.out hw2
  have HB2 := Lib.hid hB2
  have HK2 := Lib.hid hK2
  have HR2 := Lib.hid hR2
  have HL2 := Lib.hid (Nat.le_trans eA.size hK2.size)
  have hA2 := row_kept hA hK2 (H.out.not_p (Nat.le_refl _))
  have lA2 : w.heap.size < w2.heap.size := (Array.getElem?_eq_some_iff.1 hA2).1
  have hcA2 := fun j => cell_of_row w2 _ j _ _ _ hA2
  have EA := Lib.hid eA
  clear hw2 hB2 hK2 hR2 hA2 hA eA
  unfold numV
  have hag := (after_agree HA.out at_ s).1
  go_wp2_with fail
  refine (ref_after b B u R at_ s w2 HB2.out.rf HB2.out.bB HB2.out.rB (by have := HA.out.len; have := HS.out.S; omega) HA.out.sorted (by have := HA.out.next; have := HS.out.ids; omega) (by rw [HA.out.now]; exact HS.out.now.1) (by rw [HA.out.now]; exact HS.out.now.2)).mono ?_
  intro e w3 hw3
  obtain ⟨rfl, u3, hB3, hK3, hR3⟩ := reffed HB2.out hw3
  have HB3 := Lib.hid hB3
  have HK3 := Lib.hid (keeps_two HK2.out hK3)
  have HR3 := Lib.hid hR3
  clear hw3 hB3 hK3 hR3 hcA2 lA2
  rw [← hag]
  unfold numV
  go_wp2_with fail
  refine (num_w _ _).mono ?_
  rintro e w4 ⟨rfl, rfl⟩
  go_wp2_with fail
  go_ret
  exact ⟨rfl, v2, _, u3, _, HB3.out, (after_agree HA.out at_ s).2, (small_after HS.out HO.out at_ s).1, (small_after HS.out HO.out at_ s).2, fun h => later_after h at_ s, after_len W at_ s, ((Keeps.refl _ _).ext EA.out).trans HK3.out, rowsle HR2.out EA.out.size, rowsle HR3.out HL2.out⟩

set_option maxRecDepth 100000 in
set_option maxHeartbeats 8000000 in
theorem act_cancel (p : At) (v : Value) (W : Wh) (b B : Nat) (u : Value) (R : Rw) (x : Ac) (hk : x.k = 3) (n : Nat) (hn : n ≤ 1000) (w : World) (h : Both p v W b B u R w) (ha : Agree W R) (hs : Small W n) (ho : OrdOk W) :
    Calls Try.prog 26 #[.pointer (some ⟨p.bW, 0, none⟩), .pointer (some ⟨b, 0, none⟩), x.val] w (Acted p v W b B u n w) := by
  obtain ⟨k, at_, id, s⟩ := x
  simp only at hk
  subst hk
  unfold Ac.val
  simp only
  have H := Lib.hid h
  have HA := Lib.hid ha
  have HS := Lib.hid hs
  have HO := Lib.hid ho
  clear h ha hs ho
  unfold Acted
  go_enter Try.func26, Try.ntmps26
  go_wp2_with fail
  have hA : (w.alloc (.cells #[.int .i64 3, .int .i64 at_, .int .i64 id, .string s] 59)).heap[w.heap.size]? = some (.cells #[.int .i64 3, .int .i64 at_, .int .i64 id, .string s] 59 (0, 0)) := heap_new rfl
  have eA : Ext w (w.alloc (.cells #[.int .i64 3, .int .i64 at_, .int .i64 id, .string s] 59)) := (Ext.refl w).alloc _
  have HB1 := Lib.hid (H.out.ext eA)
  generalize w.alloc _ = w1 at hA eA HB1 ⊢
  refine (cancel_string p v W id w1 HB1.out.wh HB1.out.pB).mono ?_
  intro e w2 hw2
  obtain ⟨rfl, v2, hB2, hK2, hR2⟩ := wheeled HB1.out (show LaidW 101 47 p v { W with S := dropT W.S id } (cancelV W.S id) w1 e w2 from ⟨hw2.1, v, hw2.2.1, hw2.2.2, fun _ hg => .inl hg⟩)
  have HB2 := Lib.hid hB2
  have HK2 := Lib.hid hK2
  have HR2 := Lib.hid hR2
  have HL2 := Lib.hid (Nat.le_trans eA.size hK2.size)
  have hA2 := row_kept hA hK2 (H.out.not_p (Nat.le_refl _))
  have lA2 : w.heap.size < w2.heap.size := (Array.getElem?_eq_some_iff.1 hA2).1
  have hcA2 := fun j => cell_of_row w2 _ j _ _ _ hA2
  have EA := Lib.hid eA
  clear hw2 hB2 hK2 hR2 hA2 hA eA
  obtain ⟨cs, cq, hform⟩ := cancelV_form W.S id
  rw [hform]
  have hag := (cancel_both HA.out id).1
  go_wp2_with fail
  refine (ref_cancel b B u R id w2 HB2.out.rf HB2.out.rB (by have := HA.out.len; have := HS.out.S; omega)).mono ?_
  intro e w3 hw3
  obtain ⟨rfl, u3, hB3, hK3, hR3⟩ := reffed HB2.out hw3
  have HB3 := Lib.hid hB3
  have HK3 := Lib.hid (keeps_two HK2.out hK3)
  have HR3 := Lib.hid hR3
  clear hw3 hB3 hK3 hR3 hcA2 lA2
  rw [hag, hform]
  go_wp2_with fail
  go_ret
  exact ⟨rfl, v2, _, u3, _, HB3.out, (cancel_both HA.out id).2, (small_drop HS.out HO.out id).1.mono (Nat.le_succ n), (small_drop HS.out HO.out id).2, fun h => later_drop h id, Nat.le_succ_of_le (dropT_le W.S id), ((Keeps.refl _ _).ext EA.out).trans HK3.out, rowsle HR2.out EA.out.size, rowsle HR3.out HL2.out⟩

end Go.Proofs.Ytibdplfdmncgiaa

/-
  Walk: the law's act: Move, Tick, Turn, any other. No condition.
-/
namespace Go.Proofs.Ytibdplfdmncgiaa
open Go.RowKit
attribute [local go_sem] ExtOf.cell ExtOf.frozen ExtOf.lt ExtOf.le
attribute [local go_sem high] ExtOf.cell2 ExtOf.frozen2 ExtOf.lt2 ExtOf.cell3 ExtOf.frozen3 ExtOf.lt3

set_option maxRecDepth 100000 in
set_option maxHeartbeats 8000000 in
theorem act_move (p : At) (v : Value) (W : Wh) (b B : Nat) (u : Value) (R : Rw) (x : Ac) (hk : x.k = 4) (n : Nat) (hn : n ≤ 1000) (w : World) (h : Both p v W b B u R w) (ha : Agree W R) (hs : Small W n) (ho : OrdOk W) :
    Calls Try.prog 26 #[.pointer (some ⟨p.bW, 0, none⟩), .pointer (some ⟨b, 0, none⟩), x.val] w (Acted p v W b B u n w) := by
  obtain ⟨k, at_, id, s⟩ := x
  simp only at hk
  subst hk
  unfold Ac.val
  simp only
  have H := Lib.hid h
  have HA := Lib.hid ha
  have HS := Lib.hid hs
  have HO := Lib.hid ho
  clear h ha hs ho
  unfold Acted
  go_enter Try.func26, Try.ntmps26
  go_wp2_with fail
  have hA : (w.alloc (.cells #[.int .i64 4, .int .i64 at_, .int .i64 id, .string s] 59)).heap[w.heap.size]? = some (.cells #[.int .i64 4, .int .i64 at_, .int .i64 id, .string s] 59 (0, 0)) := heap_new rfl
  have eA : Ext w (w.alloc (.cells #[.int .i64 4, .int .i64 at_, .int .i64 id, .string s] 59)) := (Ext.refl w).alloc _
  have HB1 := Lib.hid (H.out.ext eA)
  generalize w.alloc _ = w1 at hA eA HB1 ⊢
  have HAA := Lib.hid hA
  have EA := Lib.hid eA
  clear hA eA
  refine wp_region_mix (af := ?af) [true, true, true, true, true, false, false, true, true, true, true, true, false, false, false] 191 (Keeps (p.all v ++ b :: rowB u) w1) (by kernel_rfl) rfl (by kernel_rfl) (fun _ _ h e => h.ext e) ((Keeps.refl _ w1).ext (Ext.refl _).drew) ?q ?r
  case q =>
    intro w' hw'
    have hA' := row_kept HAA.out hw' (fun hm => by
      rcases List.mem_append.1 hm with hm | hm
      · exact H.out.not_p (Nat.le_refl _) hm
      · exact H.out.not_b (Nat.le_refl _) hm)
    have lA' := (Array.getElem?_eq_some_iff.1 hA').1
    have hcA' := fun j => cell_of_row _ _ j _ _ _ hA'
    clear hA'
    simp only [pickT, if_true, if_false, Bool.false_eq_true]
    repeat (go_big_quiet_step (fail))
    exact rfl
  case r =>
    simp only [pickF, if_true, if_false, Bool.false_eq_true]
    intro x1
    have HX1 := Lib.hid ((Ext.refl w1).drew.val x1)
    go_wp2_with fail
    have HB1x := Lib.hid (HB1.out.ext HX1.out)
    refine (move_string p v W id at_ x1.val HB1x.out.wh HB1x.out.pB (by have := HS.out.L; omega) (by have := HS.out.m; omega) (by have := HS.out.ord; omega)).mono ?_
    intro e w2 hw2
    obtain ⟨rfl, v2, hB2, hK2, hR2⟩ := wheeled HB1x.out hw2
    have HR2 := Lib.hid (rowsle hR2 HX1.out.size)
    have k2 : Keeps (p.all v ++ b :: rowB u) w1 w2 := ((Keeps.refl _ _).ext HX1.out).trans (hK2.mono fun _ hk => List.mem_append_left _ hk)
    have HB2 := Lib.hid hB2
    clear hw2 hB2 hK2 hR2
    go_wp2_with fail
    refine ⟨k2, ?_⟩
    intro x2
    have HK2 := Lib.hid (k2.ext x2.ext)
    have HB2x := Lib.hid (HB2.out.ext x2.ext)
    clear k2
    go_wp2_with fail
    refine (num_w _ _).mono ?_
    rintro e w3 ⟨rfl, rfl⟩
    go_wp2_with fail
    refine ⟨HK2.out, ?_⟩
    intro x3
    have HK3 := Lib.hid (HK2.out.ext x3.ext)
    have HB3 := Lib.hid (HB2x.out.ext x3.ext)
    go_wp2_with fail
    refine (ref_move b B u R id at_ x3.val HB3.out.rf HB3.out.bB HB3.out.rB (by have := HA.out.len; have := HS.out.S; omega) HA.out.sorted).mono ?_
    intro e w4 hw4
    obtain ⟨rfl, u4, hB4, hK4, hR4⟩ := reffed HB3.out hw4
    have k4 : Keeps (p.all v ++ b :: rowB u) w1 w4 := HK3.out.trans (hK4.mono fun _ hk => List.mem_append_right _ hk)
    have HR4 := Lib.hid (rowsle hR4 HK3.out.size)
    have HB4 := Lib.hid hB4
    clear hw4 hB4 hK4 hR4
    rw [← (move_agree HA.out id at_).1]
    go_wp2_with fail
    refine ⟨k4, ?_⟩
    intro x5
    have k5 := k4.ext x5.ext
    have HB5 := Lib.hid (HB4.out.ext x5.ext)
    go_wp2_with fail
    refine ⟨k5, ?_⟩
    intro x6
    have k6 := k5.ext x6.ext
    have HB6 := Lib.hid (HB5.out.ext x6.ext)
    go_wp2_with fail
    refine ⟨k6, ?_⟩
    intro x7
    have HK7 := Lib.hid (k6.ext x7.ext)
    have HB7 := Lib.hid (HB6.out.ext x7.ext)
    clear k4 k5 k6
    go_wp2_with fail
    go_ret
    exact ⟨rfl, v2, _, u4, _, HB7.out, (move_agree HA.out id at_).2, (small_move HS.out HO.out id at_).1, (small_move HS.out HO.out id at_).2, fun h => later_move h id at_, move_len W id at_, ((Keeps.refl _ _).ext EA.out).trans HK7.out, rowsle HR2.out EA.out.size, rowsle HR4.out EA.out.size⟩
end Go.Proofs.Ytibdplfdmncgiaa

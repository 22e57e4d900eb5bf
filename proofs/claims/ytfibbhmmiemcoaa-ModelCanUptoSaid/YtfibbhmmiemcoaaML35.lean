/-
  The walks of says (the closure of Proof), one for each way. No condition.
-/
import Derived.Test.YtfibbhmmiemcoaaML34
set_option linter.all false
namespace Go.Proofs.Ytfibbhmmiemcoaa
open Go.RowKit
attribute [local go_sem] ExtOf.cell ExtOf.frozen ExtOf.lt ExtOf.le
attribute [local go_sem high] ExtOf.cell2 ExtOf.frozen2 ExtOf.lt2 ExtOf.cell3 ExtOf.frozen3 ExtOf.lt3

theorem zero_intS (w : World) : (zeroValue 3).run Try.prog w = .ok (.int .i64 0) w := by kernel_rfl
theorem zero_boolS (w : World) : (zeroValue 4).run Try.prog w = .ok (.bool false) w := by kernel_rfl
theorem info_step : (Try.prog.info? 141).map (fun i => (i.zero, i.size, i.bytes)) = some (some (.agg #[.int .i64 0, .int .i64 0, .int .i64 0, .int .i64 0]), 4, 32) := by kernel_rfl
section
variable {C B pb mb kb sb : Nat} {v gv lv : Value} {L G K : List Tt} {W : List (Int × Int)} {S1 S2 : List (Int × Value)} {rv : Value} {n : Nat} {xs : List Value} {w w' w'' : World}
theorem look1 (h : SaysAt C B pb mb kb sb v gv lv L G K W S1 S2 rv n xs w) (x : Int) (ok : Bool) : (Instr.lookup 136 (.map (some (C + 2))) (.int .i64 x) ok).run Try.prog w = .ok (lookG S1 x (.int .i64 0) ok) w :=
  run_lookupG (keys_int Try.underlying44) Try.underlying136 zero_intS h.m1 x ok
theorem look2 (h : SaysAt C B pb mb kb sb v gv lv L G K W S1 S2 rv n xs w) (x : Int) (ok : Bool) : (Instr.lookup 137 (.map (some (C + 4))) (.int .i64 x) ok).run Try.prog w = .ok (lookG S2 x (.bool false) ok) w :=
  run_lookupG (keys_int Try.underlying44) Try.underlying137 zero_boolS h.m2 x ok
/-- What is known of one's own step beside. -/
def StepAt (sp : Nat) (nt : Int) (w : World) : Prop := ∃ r a b : Int, w.heap[sp]? = some (.cells #[.int .i64 r, .int .i64 a, .int .i64 b, .int .i64 nt] 141 (0, 0))
/-- The state between: what is known, the step, what was changed. -/
def SaysMid (C B pb mb kb sb : Nat) (v gv lv : Value) (L G K : List Tt) (W : List (Int × Int)) (rv : Value) (nt : Int) (w : World) (rv' : Value) (n' : Nat) (wx : World) : Prop :=
  SaysInv C B pb mb kb sb v gv lv L G K W rv' n' wx ∧ StepAt w.heap.size nt wx ∧ Keeps ((C + 1) :: (C + 2) :: (C + 4) :: rowB rv) w wx ∧ (∀ g ∈ rowB rv', g ∈ rowB rv ∨ w.heap.size ≤ g) ∧ w.heap.size ∉ rowB rv'
theorem SaysMid.ext {nt : Int} {rv' : Value} {n' : Nat} {wx wy : World} (h : SaysMid C B pb mb kb sb v gv lv L G K W rv nt w rv' n' wx) (e : Ext wx wy) : SaysMid C B pb mb kb sb v gv lv L G K W rv nt w rv' n' wy := by
  obtain ⟨⟨s1, s2, xs, h1, h2, h3⟩, ⟨r, a, b, h4⟩, h5, h6, h7⟩ := h
  exact ⟨⟨s1, s2, xs, h1.ext e, h2, h3⟩, ⟨r, a, b, heap_ext h4 e⟩, h5.ext e, h6, h7⟩
theorem SaysMid.set {nt : Int} {rv' : Value} {n' : Nat} {wx : World} (h : SaysMid C B pb mb kb sb v gv lv L G K W rv nt w rv' n' wx) (hw : C + 7 ≤ w.heap.size) (o : Nat) (ho : o < 3) (i : Int) : SaysMid C B pb mb kb sb v gv lv L G K W rv nt w rv' n' (wx.setCell ⟨w.heap.size, o, none⟩ (.int .i64 i)) := by
  obtain ⟨⟨s1, s2, xs, h1, h2, h3⟩, ⟨r, a, b, h4⟩, h5, h6, h7⟩ := h
  refine ⟨⟨s1, s2, xs, h1.own hw h7 o _, h2, h3⟩, ?_, h5.setCell (.inr (Nat.le_refl _)) o _, h6, h7⟩
  have := setCell_row h4 (o := o) (.int .i64 i)
  have h3 : o = 0 ∨ o = 1 ∨ o = 2 := by omega
  rcases h3 with rfl | rfl | rfl
  · exact ⟨i, a, b, this⟩
  · exact ⟨r, i, b, this⟩
  · exact ⟨r, a, i, this⟩
theorem SaysMid.start {nt : Int} (h : SaysInv C B pb mb kb sb v gv lv L G K W rv n w) (hw : C + 7 ≤ w.heap.size) {wx : World} (e : Ext w wx) {r a b : Int} (hr : wx.heap[w.heap.size]? = some (.cells #[.int .i64 r, .int .i64 a, .int .i64 b, .int .i64 nt] 141 (0, 0))) : SaysMid C B pb mb kb sb v gv lv L G K W rv nt w rv n wx := by
  obtain ⟨s1, s2, xs, h1, h2, h3⟩ := h
  exact ⟨⟨s1, s2, xs, h1.ext e, h2, h3⟩, ⟨r, a, b, hr⟩, (Keeps.refl _ w).ext e, fun g hg => .inl hg, fun hm => by have := row_lt h1.row _ hm; omega⟩
/-- A call of says lies between. -/
theorem SaysMid.call {nt : Int} {rv' : Value} {n' d : Nat} {b : Bool} {e : Ending} {wx wy : World} (h : SaysMid C B pb mb kb sb v gv lv L G K W rv nt w rv' n' wx) (hw : C + 7 ≤ w.heap.size) (p : SaysPost C B pb mb kb sb v gv lv L G K W b d rv' n' wx e wy) :
    ∃ (i : Int) (rv2 : Value) (n2 : Nat), e = .returned (.tuple #[.int .i64 i, .bool b]) ∧ SaysMid C B pb mb kb sb v gv lv L G K W rv nt w rv2 n2 wy ∧ n2 ≤ n' + d := by
  obtain ⟨i, rv2, n2, rfl, p1, p2, p3, p4⟩ := p
  obtain ⟨_, ⟨r, a, b', h4⟩, h5, h6, h7⟩ := h
  have l4 := (Array.getElem?_eq_some_iff.1 h4).1
  have hn : w.heap.size ∉ ((C + 1) :: (C + 2) :: (C + 4) :: rowB rv') := by
    simp only [List.mem_cons, not_or]
    exact ⟨by omega, by omega, by omega, h7⟩
  refine ⟨i, rv2, n2, rfl, ⟨p1, ⟨r, a, b', (p2.block _ l4 hn).trans h4⟩, ⟨p2.os.trans h5.os, p2.tape.trans h5.tape, p2.output.trans h5.output, Nat.le_trans h5.size p2.size, fun k hk hx => ?_⟩, fun g hg => ?_, fun hm => ?_⟩, p4⟩
  · refine (p2.block k (Nat.lt_of_lt_of_le hk h5.size) fun hm => hx ?_).trans (h5.block k hk hx)
    simp only [List.mem_cons] at hm ⊢
    rcases hm with e | e | e | e
    · exact .inl e
    · exact .inr (.inl e)
    · exact .inr (.inr (.inl e))
    · rcases h6 k e with h | h
      · exact .inr (.inr (.inr h))
      · omega
  · rcases p3 g hg with e | e
    · exact h6 g e
    · exact .inr (Nat.le_trans h5.size e)
  · rcases p3 _ hm with e | e
    · exact h7 e
    · omega
end

set_option maxRecDepth 100000 in
set_option maxHeartbeats 8000000 in
theorem sa_given (C B pb mb kb sb : Nat) (v gv lv : Value) (L G K : List Tt) (W : List (Int × Int)) (S1 S2 : List (Int × Value)) (rv : Value) (n : Nat) (xs : List Value) (t : Tt) (w : World) (h : SaysAt C B pb mb kb sb v gv lv L G K W S1 S2 rv n xs w) (hA : InvA L K S1) (hB : InvB L K S2) (ht : t ∈ L) (hn : n ≤ 60000) (h1 : ∃ i1 : Int, lookG S1 (idT L t : Int) (.int .i64 0) true = .tuple #[.int .i64 i1, .bool false]) (h2 : lookG S2 (idT L t : Int) (.bool false) false = .bool false) (y : Int) (h3 : lookG (seenL L K W) (idT L t : Int) (wyV (0, 0)) true = .tuple #[.agg #[.int .i64 0, .int .i64 y], .bool true]) (hd : derK K t = true) :
    Calls Try.prog 69 #[.int .i64 (idT L t), .pointer (some ⟨C + 3, 0, none⟩), .pointer (some ⟨C + 5, 0, none⟩), .pointer (some ⟨C, 0, none⟩), .pointer (some ⟨C + 6, 0, none⟩), .pointer (some ⟨C + 1, 0, none⟩)] w (SaysPost C B pb mb kb sb v gv lv L G K W true 1 rv n w) := by
  have HI := Lib.hid (show SaysInv C B pb mb kb sb v gv lv L G K W rv n w from ⟨S1, S2, xs, h, hA, hB⟩)
  have HH := Lib.hid h
  have HT := Lib.hid (And.intro ht hn)
  obtain ⟨i1, h1⟩ : ∃ i1 : Int, lookG S1 (idT L t : Int) (.int .i64 0) true = .tuple #[.int .i64 i1, .bool false] := h1
  have HL1 := Lib.hid (fun w' (e : Ext w w') => by
    have h0 := look1 (h.ext e) (idT L t : Int) true
    rw [h1] at h0
    exact h0)
  have HL2 := Lib.hid (fun w' (e : Ext w w') => by
    have h0 := look2 (h.ext e) (idT L t : Int) false
    rw [h2] at h0
    exact h0)
  have HL3 := Lib.hid (fun w' (e : Ext w w') => by
    have h0 := look_seen (h.ext e).st.know (idT L t : Int)
    rw [h3] at h0
    exact h0)
  have hl1 := HL1.out _ (Ext.refl w)
  have HW := Lib.hid h.lo.2.2.2.2.2
  generalize hnt : (idT L t : Int) = nt at HL1 HL2 HL3 hl1 ⊢
  have HNT := Lib.hid hnt
  have ck := fun j => cell_of_row w _ j _ _ _ (h).hk
  have cl := fun j => cell_of_row w _ j _ _ _ (h).hl
  have ca := fun j => cell_of_row w _ j _ _ _ (h).ha
  have cb := fun j => cell_of_row w _ j _ _ _ (h).hb
  have cs := fun j => cell_of_row w _ j _ _ _ (h).hs
  simp only [sayV] at cs
  have cn := fun j => cell_of_row w _ j _ _ _ (h).st.know.head
  have fl := fun j => frozen_of_row w _ j _ _ (h).hl
  have z0 : C < w.heap.size := by have := (h).lo.2.2.2.2.2; omega
  have z1 : C + 1 < w.heap.size := by have := (h).lo.2.2.2.2.2; omega
  have z3 : C + 3 < w.heap.size := by have := (h).lo.2.2.2.2.2; omega
  have z5 : C + 5 < w.heap.size := by have := (h).lo.2.2.2.2.2; omega
  have z6 : C + 6 < w.heap.size := by have := (h).lo.2.2.2.2.2; omega
  have zk : kb < w.heap.size := by have := (h).lo.2.2.2.2.2; have := (h).lo.2.2.1; omega
  have HD := Lib.hid hd
  clear hd
  clear hnt h hA hB ht hn h1 h2 h3
  go_enter Try.func69, Try.ntmps69
  go_upto_region 5 with fail
  have e1 : Ext w (w.alloc (.cells #[.int .i64 0, .int .i64 0, .int .i64 0, .int .i64 nt] 141)) := (Ext.refl w).alloc _
  have HR1 := Lib.hid (heap_new (w := w) (o := .cells #[.int .i64 0, .int .i64 0, .int .i64 0, .int .i64 nt] 141) rfl)
  have HE1 := Lib.hid e1
  clear e1 hl1
  clear ck cl ca cb cs cn fl z0 z1 z3 z5 z6 zk
  generalize hw1 : w.alloc (.cells #[.int .i64 0, .int .i64 0, .int .i64 0, .int .i64 nt] 141) = w1 at HR1 HE1 ⊢
  clear hw1
  have hl2 := HL2.out _ HE1.out
  have hl3 := HL3.out _ HE1.out
  have ck := fun j => cell_of_row w1 _ j _ _ _ ((HH.out.ext HE1.out)).hk
  have cl := fun j => cell_of_row w1 _ j _ _ _ ((HH.out.ext HE1.out)).hl
  have ca := fun j => cell_of_row w1 _ j _ _ _ ((HH.out.ext HE1.out)).ha
  have cb := fun j => cell_of_row w1 _ j _ _ _ ((HH.out.ext HE1.out)).hb
  have cs := fun j => cell_of_row w1 _ j _ _ _ ((HH.out.ext HE1.out)).hs
  simp only [sayV] at cs
  have cn := fun j => cell_of_row w1 _ j _ _ _ ((HH.out.ext HE1.out)).st.know.head
  have fl := fun j => frozen_of_row w1 _ j _ _ ((HH.out.ext HE1.out)).hl
  have z0 : C < w1.heap.size := by have := ((HH.out.ext HE1.out)).lo.2.2.2.2.2; omega
  have z1 : C + 1 < w1.heap.size := by have := ((HH.out.ext HE1.out)).lo.2.2.2.2.2; omega
  have z3 : C + 3 < w1.heap.size := by have := ((HH.out.ext HE1.out)).lo.2.2.2.2.2; omega
  have z5 : C + 5 < w1.heap.size := by have := ((HH.out.ext HE1.out)).lo.2.2.2.2.2; omega
  have z6 : C + 6 < w1.heap.size := by have := ((HH.out.ext HE1.out)).lo.2.2.2.2.2; omega
  have zk : kb < w1.heap.size := by have := ((HH.out.ext HE1.out)).lo.2.2.2.2.2; have := ((HH.out.ext HE1.out)).lo.2.2.1; omega
  have cr := fun j => cell_of_row w1 _ j _ _ _ HR1.out
  have fr := fun j => frozen_of_row w1 _ j _ _ HR1.out
  have zr : w.heap.size < w1.heap.size := (Array.getElem?_eq_some_iff.1 HR1.out).1
  go_upto_region 20 with fail
  have HM := Lib.hid (((SaysMid.start HI.out HW.out HE1.out HR1.out).set HW.out 0 (by decide) 0).ext ((Ext.refl _).alloc (.cells #[.int .i64 0, .int .i64 y] 91)))
  clear ck cl ca cb cs cn fl z0 z1 z3 z5 z6 zk
  clear cr fr zr hl2 hl3
  refine wp_forget (fun wx => Hid (∃ (rvx : Value) (nx : Nat), SaysMid C B pb mb kb sb v gv lv L G K W rv nt w rvx nx wx ∧ nx ≤ 100000 ∧ nx + 1 ≤ n + 1)) (Lib.hid ⟨_, _, HM.out, by have := HT.out; omega, by have := HT.out; omega⟩) ?_
  clear HM
  intro wx HM
  obtain ⟨rvx, nx, hmid, hnx⟩ := HM.out
  clear HM
  have HM := Lib.hid hmid
  have HNX := Lib.hid hnx
  clear hmid hnx
  obtain ⟨⟨s1, s2, ys, hA, hI1, hI2⟩, hst, hkp, hfr, hno⟩ := HM.out
  obtain ⟨r0, a0, b0, hrow⟩ := hst
  obtain ⟨ar, cr, hrv, _, _⟩ := own_view hA.row
  subst hrv
  have HA := Lib.hid hA
  have HRW := Lib.hid hrow
  have ckx := fun j => cell_of_row wx _ j _ _ _ (hA).hk
  have clx := fun j => cell_of_row wx _ j _ _ _ (hA).hl
  have cax := fun j => cell_of_row wx _ j _ _ _ (hA).ha
  have cbx := fun j => cell_of_row wx _ j _ _ _ (hA).hb
  have csx := fun j => cell_of_row wx _ j _ _ _ (hA).hs
  simp only [sayV] at csx
  have cnx := fun j => cell_of_row wx _ j _ _ _ (hA).st.know.head
  have flx := fun j => frozen_of_row wx _ j _ _ (hA).hl
  have z0x : C < wx.heap.size := by have := (hA).lo.2.2.2.2.2; omega
  have z1x : C + 1 < wx.heap.size := by have := (hA).lo.2.2.2.2.2; omega
  have z3x : C + 3 < wx.heap.size := by have := (hA).lo.2.2.2.2.2; omega
  have z5x : C + 5 < wx.heap.size := by have := (hA).lo.2.2.2.2.2; omega
  have z6x : C + 6 < wx.heap.size := by have := (hA).lo.2.2.2.2.2; omega
  have zkx : kb < wx.heap.size := by have := (hA).lo.2.2.2.2.2; have := (hA).lo.2.2.1; omega
  have HK := Lib.hid (And.intro hkp (And.intro hfr (And.intro hno (And.intro hI1 hI2))))
  have lrow := (Array.getElem?_eq_some_iff.1 hrow).1
  clear hA hrow hkp hfr hno hI1 hI2 HM
  go_upto_region 24 with (refine wpList_updateG rfl _ _ _ rfl (keys_int Try.underlying44) Try.underlying136 (C + 2) s1 nt (.int .i64 (nx : Int)) rfl rfl rfl HA.out.m1 fun ob hM' => ?_)
  have HA5 := Lib.hid (HA.out.put1 hM')
  have HR5 := Lib.hid ((setB_other (w := wx) (ob := ob) (show w.heap.size ≠ C + 2 by have := HW.out; omega)).trans HRW.out)
  have hk5 : Keeps ((C + 1) :: (C + 2) :: (C + 4) :: rowB rv) w (setB wx (C + 2) ob) := by
    have h1 := HK.out.1
    exact ⟨h1.os, h1.tape, h1.output, by simpa [setB] using h1.size, fun k hk hx => (setB_other (fun e => hx (by rw [e]; simp))).trans (h1.block k hk hx)⟩
  have HK5 := Lib.hid hk5
  have hz5 : wx.heap.size = (setB wx (C + 2) ob).heap.size := by simp [setB]
  have HZ5 := Lib.hid hz5
  clear ckx clx cax cbx csx cnx flx z0x z1x z3x z5x z6x zkx
  clear lrow hM' hk5 hz5
  generalize setB wx (C + 2) ob = w5 at HA5 HR5 HK5 HZ5 ⊢
  have ck5 := fun j => cell_of_row w5 _ j _ _ _ (HA5.out).hk
  have cl5 := fun j => cell_of_row w5 _ j _ _ _ (HA5.out).hl
  have ca5 := fun j => cell_of_row w5 _ j _ _ _ (HA5.out).ha
  have cb5 := fun j => cell_of_row w5 _ j _ _ _ (HA5.out).hb
  have cs5 := fun j => cell_of_row w5 _ j _ _ _ (HA5.out).hs
  simp only [sayV] at cs5
  have cn5 := fun j => cell_of_row w5 _ j _ _ _ (HA5.out).st.know.head
  have fl5 := fun j => frozen_of_row w5 _ j _ _ (HA5.out).hl
  have z05 : C < w5.heap.size := by have := (HA5.out).lo.2.2.2.2.2; omega
  have z15 : C + 1 < w5.heap.size := by have := (HA5.out).lo.2.2.2.2.2; omega
  have z35 : C + 3 < w5.heap.size := by have := (HA5.out).lo.2.2.2.2.2; omega
  have z55 : C + 5 < w5.heap.size := by have := (HA5.out).lo.2.2.2.2.2; omega
  have z65 : C + 6 < w5.heap.size := by have := (HA5.out).lo.2.2.2.2.2; omega
  have zk5 : kb < w5.heap.size := by have := (HA5.out).lo.2.2.2.2.2; have := (HA5.out).lo.2.2.1; omega
  have cr5 := fun j => cell_of_row w5 _ j _ _ _ HR5.out
  have lr5 := (Array.getElem?_eq_some_iff.1 HR5.out).1
  obtain ⟨ti0, hi, hz0, hz1, hz2⟩ := info_parts info_step
  go_wp2_with (at_builtin; refine unHd ?_)
  unfold Hd2
  have e6 : Ext w5 (w5.alloc (.cells #[.int .i64 r0, .int .i64 a0, .int .i64 b0, .int .i64 nt] 141)) := (Ext.refl _).alloc _
  refine wpList_app5 (C + 7) 93 141 ti0 _ 4 32 Try.underlying93 hi hz0 hz1 hz2 rfl (by decide) rfl _ _ rfl _ nx _ rfl (own_ext HA5.out.row e6) (Nat.le_trans HA5.out.lo.2.2.2.2.2 e6.size) w5.heap.size 1 1 #[.int .i64 r0, .int .i64 a0, .int .i64 b0, .int .i64 nt] (by decide) rfl (heap_new rfl) rfl (by simp [Value.oneCell']) (by unfold maxLen; have := HNX.out.1; omega) (by have := HNX.out.1; omega) ?_
  intro v2 w2 hown2 hg2 hr2
  replace hg2 : (w5.alloc (.cells #[.int .i64 r0, .int .i64 a0, .int .i64 b0, .int .i64 nt] 141)).grownBy w2 (Value.slice ar nx cr).ownBlock := hg2
  replace hr2 : ∀ k ∈ rowB v2, k ∈ rowB (.slice ar nx cr) ∨ (w5.alloc (.cells #[.int .i64 r0, .int .i64 a0, .int .i64 b0, .int .i64 nt] 141)).heap.size ≤ k := hr2
  have blk : ∀ k, k < w5.heap.size → k ∉ rowB (.slice ar nx cr) → w2.heap[k]? = w5.heap[k]? := fun k hk hn => (hg2.block k (Nat.lt_of_lt_of_le hk e6.size) (by
    intro e
    apply hn
    unfold rowB
    first | (rw [e]; simp) | (rw [← e]; simp))).trans (e6.block k hk)
  obtain ⟨g2, cap3, rfl⟩ : ∃ g2 cap3, v2 = .slice (some ⟨g2, 0, none⟩) (nx + 1) cap3 := by
    rcases hown2.2 with ⟨_, h0⟩ | ⟨g2, cap2, _, h0, _⟩
    · omega
    · exact ⟨g2, cap2, h0⟩
  have hrl := row_lo HA5.out.row
  have n1 : ∀ k, k < C + 7 → k ∉ rowB (.slice ar nx cr) := fun k hk hm => by have := hrl k hm; omega
  have hl2 := (blk (C + 1) z15 (n1 _ (by omega))).trans HA5.out.hl
  have hsz : w5.heap.size ≤ w2.heap.size := Nat.le_trans e6.size hg2.size
  have HA7 := Lib.hid (HA5.out.app blk hsz hown2)
  have HF7 : Hid (∀ g ∈ rowB (.slice (some ⟨g2, 0, none⟩) (nx + 1) cap3), g ∈ rowB rv ∨ w.heap.size ≤ g) := Lib.hid (fun g hg => by
    rcases hr2 g hg with e | e
    · exact HK.out.2.1 g e
    · have := e6.size; have := HK5.out.size; exact .inr (by omega))
  have HK7 : Hid (Keeps ((C + 1) :: (C + 2) :: (C + 4) :: rowB rv) w (w2.setCell ⟨C + 1, 0, none⟩ (.slice (some ⟨g2, 0, none⟩) (nx + 1) cap3))) := Lib.hid (by
    have k5 := HK5.out
    refine Keeps.setCell (X := (C + 1) :: (C + 2) :: (C + 4) :: rowB rv) (a := w) (b := w2) ⟨(hg2.os.trans e6.os).trans k5.os, (hg2.tape.trans e6.tape).trans k5.tape, (hg2.output.trans e6.output).trans k5.output, Nat.le_trans k5.size hsz, fun k hk hx => ?_⟩ (.inl (.head _)) 0 _
    refine (blk k (Nat.lt_of_lt_of_le hk k5.size) fun hm => hx ?_).trans (k5.block k hk hx)
    rcases HK.out.2.1 k hm with e | e
    · simp [e]
    · omega)
  have cl2 := fun j => cell_of_row w2 _ j _ _ _ hl2
  have fl2 := fun j => frozen_of_row w2 _ j _ _ hl2
  have z2 : C + 1 < w2.heap.size := (Array.getElem?_eq_some_iff.1 hl2).1
  clear ck5 cl5 ca5 cb5 cs5 cn5 fl5 z05 z15 z35 z55 z65 zk5
  clear cr5 lr5 hown2 hg2 hr2 blk hrl n1 hl2 hsz e6
  go_upto_region 25 with fail
  generalize w2.setCell ⟨C + 1, 0, none⟩ (.slice (some ⟨g2, 0, none⟩) (nx + 1) cap3) = w7 at HA7 HK7 ⊢
  clear cl2 fl2 z2
  have ck7 := fun j => cell_of_row w7 _ j _ _ _ (HA7.out).hk
  have cl7 := fun j => cell_of_row w7 _ j _ _ _ (HA7.out).hl
  have ca7 := fun j => cell_of_row w7 _ j _ _ _ (HA7.out).ha
  have cb7 := fun j => cell_of_row w7 _ j _ _ _ (HA7.out).hb
  have cs7 := fun j => cell_of_row w7 _ j _ _ _ (HA7.out).hs
  simp only [sayV] at cs7
  have cn7 := fun j => cell_of_row w7 _ j _ _ _ (HA7.out).st.know.head
  have fl7 := fun j => frozen_of_row w7 _ j _ _ (HA7.out).hl
  have z07 : C < w7.heap.size := by have := (HA7.out).lo.2.2.2.2.2; omega
  have z17 : C + 1 < w7.heap.size := by have := (HA7.out).lo.2.2.2.2.2; omega
  have z37 : C + 3 < w7.heap.size := by have := (HA7.out).lo.2.2.2.2.2; omega
  have z57 : C + 5 < w7.heap.size := by have := (HA7.out).lo.2.2.2.2.2; omega
  have z67 : C + 6 < w7.heap.size := by have := (HA7.out).lo.2.2.2.2.2; omega
  have zk7 : kb < w7.heap.size := by have := (HA7.out).lo.2.2.2.2.2; have := (HA7.out).lo.2.2.1; omega
  have hl7 := look1 HA7.out nt false
  have hlg : lookG (putM s1 nt (.int .i64 (nx : Int))) nt (.int .i64 0) false = .int .i64 (nx : Int) := by
    unfold lookG
    rw [getM_put, if_pos rfl]
    rfl
  rw [hlg] at hl7
  clear hlg
  go_wp2_with fail
  refine bodyPost_ret (results_tmp2 rfl _ _ _) rfl ?_
  exact ⟨_, _, nx + 1, rfl, ⟨_, _, _, HA7.out, by rw [← HNT.out]; exact HK.out.2.2.2.1.put HT.out.1 HD.out, HK.out.2.2.2.2⟩, HK7.out, HF7.out, HNX.out.2⟩

set_option maxRecDepth 100000 in
set_option maxHeartbeats 8000000 in
theorem sa_at (C B pb mb kb sb : Nat) (v gv lv : Value) (L G K : List Tt) (W : List (Int × Int)) (S1 S2 : List (Int × Value)) (rv : Value) (n : Nat) (xs : List Value) (t : Tt) (w : World) (h : SaysAt C B pb mb kb sb v gv lv L G K W S1 S2 rv n xs w) (hA : InvA L K S1) (hB : InvB L K S2) (ht : t ∈ L) (hn : n ≤ 60000) (h1 : ∃ i1 : Int, lookG S1 (idT L t : Int) (.int .i64 0) true = .tuple #[.int .i64 i1, .bool true]) :
    Calls Try.prog 69 #[.int .i64 (idT L t), .pointer (some ⟨C + 3, 0, none⟩), .pointer (some ⟨C + 5, 0, none⟩), .pointer (some ⟨C, 0, none⟩), .pointer (some ⟨C + 6, 0, none⟩), .pointer (some ⟨C + 1, 0, none⟩)] w (SaysPost C B pb mb kb sb v gv lv L G K W true 1 rv n w) := by
  have HI := Lib.hid (show SaysInv C B pb mb kb sb v gv lv L G K W rv n w from ⟨S1, S2, xs, h, hA, hB⟩)
  have HH := Lib.hid h
  have HT := Lib.hid (And.intro ht hn)
  obtain ⟨i1, h1⟩ : ∃ i1 : Int, lookG S1 (idT L t : Int) (.int .i64 0) true = .tuple #[.int .i64 i1, .bool true] := h1
  have HL1 := Lib.hid (fun w' (e : Ext w w') => by
    have h0 := look1 (h.ext e) (idT L t : Int) true
    rw [h1] at h0
    exact h0)
  have hl1 := HL1.out _ (Ext.refl w)
  have HW := Lib.hid h.lo.2.2.2.2.2
  generalize hnt : (idT L t : Int) = nt at HL1  hl1 ⊢
  have HNT := Lib.hid hnt
  have ck := fun j => cell_of_row w _ j _ _ _ (h).hk
  have cl := fun j => cell_of_row w _ j _ _ _ (h).hl
  have ca := fun j => cell_of_row w _ j _ _ _ (h).ha
  have cb := fun j => cell_of_row w _ j _ _ _ (h).hb
  have cs := fun j => cell_of_row w _ j _ _ _ (h).hs
  simp only [sayV] at cs
  have cn := fun j => cell_of_row w _ j _ _ _ (h).st.know.head
  have fl := fun j => frozen_of_row w _ j _ _ (h).hl
  have z0 : C < w.heap.size := by have := (h).lo.2.2.2.2.2; omega
  have z1 : C + 1 < w.heap.size := by have := (h).lo.2.2.2.2.2; omega
  have z3 : C + 3 < w.heap.size := by have := (h).lo.2.2.2.2.2; omega
  have z5 : C + 5 < w.heap.size := by have := (h).lo.2.2.2.2.2; omega
  have z6 : C + 6 < w.heap.size := by have := (h).lo.2.2.2.2.2; omega
  have zk : kb < w.heap.size := by have := (h).lo.2.2.2.2.2; have := (h).lo.2.2.1; omega
  clear hnt h hA hB ht hn h1 
  go_enter Try.func69, Try.ntmps69
  go_wp2_with fail
  refine bodyPost_ret (results_tmp2 rfl _ _ _) rfl ?_
  exact ⟨_, rv, n, rfl, HI.out, Keeps.refl _ w, fun g hg => .inl hg, by omega⟩

set_option maxRecDepth 100000 in
set_option maxHeartbeats 8000000 in
theorem sa_from (C B pb mb kb sb : Nat) (v gv lv : Value) (L G K : List Tt) (W : List (Int × Int)) (S1 S2 : List (Int × Value)) (rv : Value) (n : Nat) (xs : List Value) (t : Tt) (w : World) (h : SaysAt C B pb mb kb sb v gv lv L G K W S1 S2 rv n xs w) (hA : InvA L K S1) (hB : InvB L K S2) (ht : t ∈ L) (hn : n ≤ 60000) (h1 : ∃ i1 : Int, lookG S1 (idT L t : Int) (.int .i64 0) true = .tuple #[.int .i64 i1, .bool false]) (h2 : lookG S2 (idT L t : Int) (.bool false) false = .bool false) (x y : Int) (hx : ¬ x = 0) (h3 : lookG (seenL L K W) (idT L t : Int) (wyV (0, 0)) true = .tuple #[.agg #[.int .i64 x, .int .i64 y], .bool true]) (hd : derK K t = true) (D : Nat) (hD : D ≤ 30000) (hR : ∀ rv' n' w', SaysInv C B pb mb kb sb v gv lv L G K W rv' n' w' → n' ≤ n → Calls Try.prog 69 #[.int .i64 y, .pointer (some ⟨C + 3, 0, none⟩), .pointer (some ⟨C + 5, 0, none⟩), .pointer (some ⟨C, 0, none⟩), .pointer (some ⟨C + 6, 0, none⟩), .pointer (some ⟨C + 1, 0, none⟩)] w' (SaysPost C B pb mb kb sb v gv lv L G K W true D rv' n' w')) :
    Calls Try.prog 69 #[.int .i64 (idT L t), .pointer (some ⟨C + 3, 0, none⟩), .pointer (some ⟨C + 5, 0, none⟩), .pointer (some ⟨C, 0, none⟩), .pointer (some ⟨C + 6, 0, none⟩), .pointer (some ⟨C + 1, 0, none⟩)] w (SaysPost C B pb mb kb sb v gv lv L G K W true (D + 1) rv n w) := by
  have HI := Lib.hid (show SaysInv C B pb mb kb sb v gv lv L G K W rv n w from ⟨S1, S2, xs, h, hA, hB⟩)
  have HH := Lib.hid h
  have HT := Lib.hid (And.intro ht hn)
  obtain ⟨i1, h1⟩ : ∃ i1 : Int, lookG S1 (idT L t : Int) (.int .i64 0) true = .tuple #[.int .i64 i1, .bool false] := h1
  have HL1 := Lib.hid (fun w' (e : Ext w w') => by
    have h0 := look1 (h.ext e) (idT L t : Int) true
    rw [h1] at h0
    exact h0)
  have HL2 := Lib.hid (fun w' (e : Ext w w') => by
    have h0 := look2 (h.ext e) (idT L t : Int) false
    rw [h2] at h0
    exact h0)
  have HL3 := Lib.hid (fun w' (e : Ext w w') => by
    have h0 := look_seen (h.ext e).st.know (idT L t : Int)
    rw [h3] at h0
    exact h0)
  have hl1 := HL1.out _ (Ext.refl w)
  have HW := Lib.hid h.lo.2.2.2.2.2
  generalize hnt : (idT L t : Int) = nt at HL1 HL2 HL3 hl1 ⊢
  have HNT := Lib.hid hnt
  have ck := fun j => cell_of_row w _ j _ _ _ (h).hk
  have cl := fun j => cell_of_row w _ j _ _ _ (h).hl
  have ca := fun j => cell_of_row w _ j _ _ _ (h).ha
  have cb := fun j => cell_of_row w _ j _ _ _ (h).hb
  have cs := fun j => cell_of_row w _ j _ _ _ (h).hs
  simp only [sayV] at cs
  have cn := fun j => cell_of_row w _ j _ _ _ (h).st.know.head
  have fl := fun j => frozen_of_row w _ j _ _ (h).hl
  have z0 : C < w.heap.size := by have := (h).lo.2.2.2.2.2; omega
  have z1 : C + 1 < w.heap.size := by have := (h).lo.2.2.2.2.2; omega
  have z3 : C + 3 < w.heap.size := by have := (h).lo.2.2.2.2.2; omega
  have z5 : C + 5 < w.heap.size := by have := (h).lo.2.2.2.2.2; omega
  have z6 : C + 6 < w.heap.size := by have := (h).lo.2.2.2.2.2; omega
  have zk : kb < w.heap.size := by have := (h).lo.2.2.2.2.2; have := (h).lo.2.2.1; omega
  have HD := Lib.hid hd
  have HRR := Lib.hid hR
  have HDD := Lib.hid hD
  clear hd hR hD
  clear hnt h hA hB ht hn h1 h2 h3
  go_enter Try.func69, Try.ntmps69
  go_upto_region 5 with fail
  have e1 : Ext w (w.alloc (.cells #[.int .i64 0, .int .i64 0, .int .i64 0, .int .i64 nt] 141)) := (Ext.refl w).alloc _
  have HR1 := Lib.hid (heap_new (w := w) (o := .cells #[.int .i64 0, .int .i64 0, .int .i64 0, .int .i64 nt] 141) rfl)
  have HE1 := Lib.hid e1
  clear e1 hl1
  clear ck cl ca cb cs cn fl z0 z1 z3 z5 z6 zk
  generalize hw1 : w.alloc (.cells #[.int .i64 0, .int .i64 0, .int .i64 0, .int .i64 nt] 141) = w1 at HR1 HE1 ⊢
  clear hw1
  have hl2 := HL2.out _ HE1.out
  have hl3 := HL3.out _ HE1.out
  have ck := fun j => cell_of_row w1 _ j _ _ _ ((HH.out.ext HE1.out)).hk
  have cl := fun j => cell_of_row w1 _ j _ _ _ ((HH.out.ext HE1.out)).hl
  have ca := fun j => cell_of_row w1 _ j _ _ _ ((HH.out.ext HE1.out)).ha
  have cb := fun j => cell_of_row w1 _ j _ _ _ ((HH.out.ext HE1.out)).hb
  have cs := fun j => cell_of_row w1 _ j _ _ _ ((HH.out.ext HE1.out)).hs
  simp only [sayV] at cs
  have cn := fun j => cell_of_row w1 _ j _ _ _ ((HH.out.ext HE1.out)).st.know.head
  have fl := fun j => frozen_of_row w1 _ j _ _ ((HH.out.ext HE1.out)).hl
  have z0 : C < w1.heap.size := by have := ((HH.out.ext HE1.out)).lo.2.2.2.2.2; omega
  have z1 : C + 1 < w1.heap.size := by have := ((HH.out.ext HE1.out)).lo.2.2.2.2.2; omega
  have z3 : C + 3 < w1.heap.size := by have := ((HH.out.ext HE1.out)).lo.2.2.2.2.2; omega
  have z5 : C + 5 < w1.heap.size := by have := ((HH.out.ext HE1.out)).lo.2.2.2.2.2; omega
  have z6 : C + 6 < w1.heap.size := by have := ((HH.out.ext HE1.out)).lo.2.2.2.2.2; omega
  have zk : kb < w1.heap.size := by have := ((HH.out.ext HE1.out)).lo.2.2.2.2.2; have := ((HH.out.ext HE1.out)).lo.2.2.1; omega
  have cr := fun j => cell_of_row w1 _ j _ _ _ HR1.out
  have fr := fun j => frozen_of_row w1 _ j _ _ HR1.out
  have zr : w.heap.size < w1.heap.size := (Array.getElem?_eq_some_iff.1 HR1.out).1
  go_upto_region 10 with fail
  have HM := Lib.hid (((SaysMid.start HI.out HW.out HE1.out HR1.out).set HW.out 0 (by decide) x).ext ((Ext.refl _).alloc (.cells #[.int .i64 x, .int .i64 y] 91)))
  clear ck cl ca cb cs cn fl z0 z1 z3 z5 z6 zk
  clear cr fr zr hl2 hl3
  obtain ⟨W2, hW2⟩ : ∃ W2, W2 = (w1.setCell ⟨w.heap.size, 0, none⟩ (.int .i64 x)).alloc (.cells #[.int .i64 x, .int .i64 y] 91) := ⟨_, rfl⟩
  have hwy : W2.heap[w1.heap.size]? = some (.cells #[.int .i64 x, .int .i64 y] 91 (0, 0)) := by rw [hW2]; exact heap_new (by simp)
  rw [← hW2] at HM ⊢
  clear hW2
  have cy := fun j => cell_of_row W2 _ j _ _ _ hwy
  have zy := (Array.getElem?_eq_some_iff.1 hwy).1
  obtain ⟨⟨s1, s2, ys, hA, hI1, hI2⟩, hst, hkp, hfr, hno⟩ := HM.out
  have cky := fun j => cell_of_row W2 _ j _ _ _ (hA).hk
  have cly := fun j => cell_of_row W2 _ j _ _ _ (hA).hl
  have cay := fun j => cell_of_row W2 _ j _ _ _ (hA).ha
  have cby := fun j => cell_of_row W2 _ j _ _ _ (hA).hb
  have csy := fun j => cell_of_row W2 _ j _ _ _ (hA).hs
  simp only [sayV] at csy
  have cny := fun j => cell_of_row W2 _ j _ _ _ (hA).st.know.head
  have fly := fun j => frozen_of_row W2 _ j _ _ (hA).hl
  have z0y : C < W2.heap.size := by have := (hA).lo.2.2.2.2.2; omega
  have z1y : C + 1 < W2.heap.size := by have := (hA).lo.2.2.2.2.2; omega
  have z3y : C + 3 < W2.heap.size := by have := (hA).lo.2.2.2.2.2; omega
  have z5y : C + 5 < W2.heap.size := by have := (hA).lo.2.2.2.2.2; omega
  have z6y : C + 6 < W2.heap.size := by have := (hA).lo.2.2.2.2.2; omega
  have zky : kb < W2.heap.size := by have := (hA).lo.2.2.2.2.2; have := (hA).lo.2.2.1; omega
  have HA := Lib.hid (And.intro hA (And.intro hI1 hI2))
  clear hA hI1 hI2 hst hkp hfr hno hwy
  go_wp2_with fail
  refine (HRR.out rv n _ ⟨s1, s2, ys, HA.out.1, HA.out.2.1, HA.out.2.2⟩ (Nat.le_refl _)).mono ?_
  intro e w4 hp
  obtain ⟨i4, rv4, n4, rfl, hm4, hn4⟩ := SaysMid.call HM.out HW.out hp
  clear cky cly cay cby csy cny fly z0y z1y z3y z5y z6y zky
  clear hp cy zy HA HM
  obtain ⟨_, ⟨r4, a4, b4, hrow⟩, _, _, _⟩ := id hm4
  have cr4 := fun j => cell_of_row w4 _ j _ _ _ hrow
  have fr4 := fun j => frozen_of_row w4 _ j _ _ hrow
  have zr4 := (Array.getElem?_eq_some_iff.1 hrow).1
  have HM := Lib.hid (hm4.set HW.out 1 (by decide) i4)
  have HN4 := Lib.hid hn4
  clear hrow hm4 hn4
  go_upto_region 20 with fail
  clear cr4 fr4 zr4
  refine wp_forget (fun wx => Hid (∃ (rvx : Value) (nx : Nat), SaysMid C B pb mb kb sb v gv lv L G K W rv nt w rvx nx wx ∧ nx ≤ 100000 ∧ nx + 1 ≤ n + (D + 1))) (Lib.hid ⟨_, _, HM.out, by have := HT.out; have := HN4.out; have := HDD.out; omega, by have := HT.out; have := HN4.out; have := HDD.out; omega⟩) ?_
  clear HM
  intro wx HM
  obtain ⟨rvx, nx, hmid, hnx⟩ := HM.out
  clear HM
  have HM := Lib.hid hmid
  have HNX := Lib.hid hnx
  clear hmid hnx
  obtain ⟨⟨s1, s2, ys, hA, hI1, hI2⟩, hst, hkp, hfr, hno⟩ := HM.out
  obtain ⟨r0, a0, b0, hrow⟩ := hst
  obtain ⟨ar, cr, hrv, _, _⟩ := own_view hA.row
  subst hrv
  have HA := Lib.hid hA
  have HRW := Lib.hid hrow
  have ckx := fun j => cell_of_row wx _ j _ _ _ (hA).hk
  have clx := fun j => cell_of_row wx _ j _ _ _ (hA).hl
  have cax := fun j => cell_of_row wx _ j _ _ _ (hA).ha
  have cbx := fun j => cell_of_row wx _ j _ _ _ (hA).hb
  have csx := fun j => cell_of_row wx _ j _ _ _ (hA).hs
  simp only [sayV] at csx
  have cnx := fun j => cell_of_row wx _ j _ _ _ (hA).st.know.head
  have flx := fun j => frozen_of_row wx _ j _ _ (hA).hl
  have z0x : C < wx.heap.size := by have := (hA).lo.2.2.2.2.2; omega
  have z1x : C + 1 < wx.heap.size := by have := (hA).lo.2.2.2.2.2; omega
  have z3x : C + 3 < wx.heap.size := by have := (hA).lo.2.2.2.2.2; omega
  have z5x : C + 5 < wx.heap.size := by have := (hA).lo.2.2.2.2.2; omega
  have z6x : C + 6 < wx.heap.size := by have := (hA).lo.2.2.2.2.2; omega
  have zkx : kb < wx.heap.size := by have := (hA).lo.2.2.2.2.2; have := (hA).lo.2.2.1; omega
  have HK := Lib.hid (And.intro hkp (And.intro hfr (And.intro hno (And.intro hI1 hI2))))
  have lrow := (Array.getElem?_eq_some_iff.1 hrow).1
  clear hA hrow hkp hfr hno hI1 hI2 HM
  go_upto_region 24 with (refine wpList_updateG rfl _ _ _ rfl (keys_int Try.underlying44) Try.underlying136 (C + 2) s1 nt (.int .i64 (nx : Int)) rfl rfl rfl HA.out.m1 fun ob hM' => ?_)
  have HA5 := Lib.hid (HA.out.put1 hM')
  have HR5 := Lib.hid ((setB_other (w := wx) (ob := ob) (show w.heap.size ≠ C + 2 by have := HW.out; omega)).trans HRW.out)
  have hk5 : Keeps ((C + 1) :: (C + 2) :: (C + 4) :: rowB rv) w (setB wx (C + 2) ob) := by
    have h1 := HK.out.1
    exact ⟨h1.os, h1.tape, h1.output, by simpa [setB] using h1.size, fun k hk hx => (setB_other (fun e => hx (by rw [e]; simp))).trans (h1.block k hk hx)⟩
  have HK5 := Lib.hid hk5
  have hz5 : wx.heap.size = (setB wx (C + 2) ob).heap.size := by simp [setB]
  have HZ5 := Lib.hid hz5
  clear ckx clx cax cbx csx cnx flx z0x z1x z3x z5x z6x zkx
  clear lrow hM' hk5 hz5
  generalize setB wx (C + 2) ob = w5 at HA5 HR5 HK5 HZ5 ⊢
  have ck5 := fun j => cell_of_row w5 _ j _ _ _ (HA5.out).hk
  have cl5 := fun j => cell_of_row w5 _ j _ _ _ (HA5.out).hl
  have ca5 := fun j => cell_of_row w5 _ j _ _ _ (HA5.out).ha
  have cb5 := fun j => cell_of_row w5 _ j _ _ _ (HA5.out).hb
  have cs5 := fun j => cell_of_row w5 _ j _ _ _ (HA5.out).hs
  simp only [sayV] at cs5
  have cn5 := fun j => cell_of_row w5 _ j _ _ _ (HA5.out).st.know.head
  have fl5 := fun j => frozen_of_row w5 _ j _ _ (HA5.out).hl
  have z05 : C < w5.heap.size := by have := (HA5.out).lo.2.2.2.2.2; omega
  have z15 : C + 1 < w5.heap.size := by have := (HA5.out).lo.2.2.2.2.2; omega
  have z35 : C + 3 < w5.heap.size := by have := (HA5.out).lo.2.2.2.2.2; omega
  have z55 : C + 5 < w5.heap.size := by have := (HA5.out).lo.2.2.2.2.2; omega
  have z65 : C + 6 < w5.heap.size := by have := (HA5.out).lo.2.2.2.2.2; omega
  have zk5 : kb < w5.heap.size := by have := (HA5.out).lo.2.2.2.2.2; have := (HA5.out).lo.2.2.1; omega
  have cr5 := fun j => cell_of_row w5 _ j _ _ _ HR5.out
  have lr5 := (Array.getElem?_eq_some_iff.1 HR5.out).1
  obtain ⟨ti0, hi, hz0, hz1, hz2⟩ := info_parts info_step
  go_wp2_with (at_builtin; refine unHd ?_)
  unfold Hd2
  have e6 : Ext w5 (w5.alloc (.cells #[.int .i64 r0, .int .i64 a0, .int .i64 b0, .int .i64 nt] 141)) := (Ext.refl _).alloc _
  refine wpList_app5 (C + 7) 93 141 ti0 _ 4 32 Try.underlying93 hi hz0 hz1 hz2 rfl (by decide) rfl _ _ rfl _ nx _ rfl (own_ext HA5.out.row e6) (Nat.le_trans HA5.out.lo.2.2.2.2.2 e6.size) w5.heap.size 1 1 #[.int .i64 r0, .int .i64 a0, .int .i64 b0, .int .i64 nt] (by decide) rfl (heap_new rfl) rfl (by simp [Value.oneCell']) (by unfold maxLen; have := HNX.out.1; omega) (by have := HNX.out.1; omega) ?_
  intro v2 w2 hown2 hg2 hr2
  replace hg2 : (w5.alloc (.cells #[.int .i64 r0, .int .i64 a0, .int .i64 b0, .int .i64 nt] 141)).grownBy w2 (Value.slice ar nx cr).ownBlock := hg2
  replace hr2 : ∀ k ∈ rowB v2, k ∈ rowB (.slice ar nx cr) ∨ (w5.alloc (.cells #[.int .i64 r0, .int .i64 a0, .int .i64 b0, .int .i64 nt] 141)).heap.size ≤ k := hr2
  have blk : ∀ k, k < w5.heap.size → k ∉ rowB (.slice ar nx cr) → w2.heap[k]? = w5.heap[k]? := fun k hk hn => (hg2.block k (Nat.lt_of_lt_of_le hk e6.size) (by
    intro e
    apply hn
    unfold rowB
    first | (rw [e]; simp) | (rw [← e]; simp))).trans (e6.block k hk)
  obtain ⟨g2, cap3, rfl⟩ : ∃ g2 cap3, v2 = .slice (some ⟨g2, 0, none⟩) (nx + 1) cap3 := by
    rcases hown2.2 with ⟨_, h0⟩ | ⟨g2, cap2, _, h0, _⟩
    · omega
    · exact ⟨g2, cap2, h0⟩
  have hrl := row_lo HA5.out.row
  have n1 : ∀ k, k < C + 7 → k ∉ rowB (.slice ar nx cr) := fun k hk hm => by have := hrl k hm; omega
  have hl2 := (blk (C + 1) z15 (n1 _ (by omega))).trans HA5.out.hl
  have hsz : w5.heap.size ≤ w2.heap.size := Nat.le_trans e6.size hg2.size
  have HA7 := Lib.hid (HA5.out.app blk hsz hown2)
  have HF7 : Hid (∀ g ∈ rowB (.slice (some ⟨g2, 0, none⟩) (nx + 1) cap3), g ∈ rowB rv ∨ w.heap.size ≤ g) := Lib.hid (fun g hg => by
    rcases hr2 g hg with e | e
    · exact HK.out.2.1 g e
    · have := e6.size; have := HK5.out.size; exact .inr (by omega))
  have HK7 : Hid (Keeps ((C + 1) :: (C + 2) :: (C + 4) :: rowB rv) w (w2.setCell ⟨C + 1, 0, none⟩ (.slice (some ⟨g2, 0, none⟩) (nx + 1) cap3))) := Lib.hid (by
    have k5 := HK5.out
    refine Keeps.setCell (X := (C + 1) :: (C + 2) :: (C + 4) :: rowB rv) (a := w) (b := w2) ⟨(hg2.os.trans e6.os).trans k5.os, (hg2.tape.trans e6.tape).trans k5.tape, (hg2.output.trans e6.output).trans k5.output, Nat.le_trans k5.size hsz, fun k hk hx => ?_⟩ (.inl (.head _)) 0 _
    refine (blk k (Nat.lt_of_lt_of_le hk k5.size) fun hm => hx ?_).trans (k5.block k hk hx)
    rcases HK.out.2.1 k hm with e | e
    · simp [e]
    · omega)
  have cl2 := fun j => cell_of_row w2 _ j _ _ _ hl2
  have fl2 := fun j => frozen_of_row w2 _ j _ _ hl2
  have z2 : C + 1 < w2.heap.size := (Array.getElem?_eq_some_iff.1 hl2).1
  clear ck5 cl5 ca5 cb5 cs5 cn5 fl5 z05 z15 z35 z55 z65 zk5
  clear cr5 lr5 hown2 hg2 hr2 blk hrl n1 hl2 hsz e6
  go_upto_region 25 with fail
  generalize w2.setCell ⟨C + 1, 0, none⟩ (.slice (some ⟨g2, 0, none⟩) (nx + 1) cap3) = w7 at HA7 HK7 ⊢
  clear cl2 fl2 z2
  have ck7 := fun j => cell_of_row w7 _ j _ _ _ (HA7.out).hk
  have cl7 := fun j => cell_of_row w7 _ j _ _ _ (HA7.out).hl
  have ca7 := fun j => cell_of_row w7 _ j _ _ _ (HA7.out).ha
  have cb7 := fun j => cell_of_row w7 _ j _ _ _ (HA7.out).hb
  have cs7 := fun j => cell_of_row w7 _ j _ _ _ (HA7.out).hs
  simp only [sayV] at cs7
  have cn7 := fun j => cell_of_row w7 _ j _ _ _ (HA7.out).st.know.head
  have fl7 := fun j => frozen_of_row w7 _ j _ _ (HA7.out).hl
  have z07 : C < w7.heap.size := by have := (HA7.out).lo.2.2.2.2.2; omega
  have z17 : C + 1 < w7.heap.size := by have := (HA7.out).lo.2.2.2.2.2; omega
  have z37 : C + 3 < w7.heap.size := by have := (HA7.out).lo.2.2.2.2.2; omega
  have z57 : C + 5 < w7.heap.size := by have := (HA7.out).lo.2.2.2.2.2; omega
  have z67 : C + 6 < w7.heap.size := by have := (HA7.out).lo.2.2.2.2.2; omega
  have zk7 : kb < w7.heap.size := by have := (HA7.out).lo.2.2.2.2.2; have := (HA7.out).lo.2.2.1; omega
  have hl7 := look1 HA7.out nt false
  have hlg : lookG (putM s1 nt (.int .i64 (nx : Int))) nt (.int .i64 0) false = .int .i64 (nx : Int) := by
    unfold lookG
    rw [getM_put, if_pos rfl]
    rfl
  rw [hlg] at hl7
  clear hlg
  go_wp2_with fail
  refine bodyPost_ret (results_tmp2 rfl _ _ _) rfl ?_
  exact ⟨_, _, nx + 1, rfl, ⟨_, _, _, HA7.out, by rw [← HNT.out]; exact HK.out.2.2.2.1.put HT.out.1 HD.out, HK.out.2.2.2.2⟩, HK7.out, HF7.out, HNX.out.2⟩

set_option maxRecDepth 100000 in
set_option maxHeartbeats 8000000 in
theorem sa_barred (C B pb mb kb sb : Nat) (v gv lv : Value) (L G K : List Tt) (W : List (Int × Int)) (S1 S2 : List (Int × Value)) (rv : Value) (n : Nat) (xs : List Value) (t : Tt) (w : World) (h : SaysAt C B pb mb kb sb v gv lv L G K W S1 S2 rv n xs w) (hA : InvA L K S1) (hB : InvB L K S2) (ht : t ∈ L) (hn : n ≤ 60000) (h1 : ∃ i1 : Int, lookG S1 (idT L t : Int) (.int .i64 0) true = .tuple #[.int .i64 i1, .bool false]) (h2 : lookG S2 (idT L t : Int) (.bool false) false = .bool true) (x y : Int) (h3 : lookG (seenL L K W) (idT L t : Int) (wyV (0, 0)) true = .tuple #[.agg #[.int .i64 x, .int .i64 y], .bool false]) (hd : derK K t = false) :
    Calls Try.prog 69 #[.int .i64 (idT L t), .pointer (some ⟨C + 3, 0, none⟩), .pointer (some ⟨C + 5, 0, none⟩), .pointer (some ⟨C, 0, none⟩), .pointer (some ⟨C + 6, 0, none⟩), .pointer (some ⟨C + 1, 0, none⟩)] w (SaysPost C B pb mb kb sb v gv lv L G K W false 1 rv n w) := by
  have HI := Lib.hid (show SaysInv C B pb mb kb sb v gv lv L G K W rv n w from ⟨S1, S2, xs, h, hA, hB⟩)
  have HH := Lib.hid h
  have HT := Lib.hid (And.intro ht hn)
  obtain ⟨i1, h1⟩ : ∃ i1 : Int, lookG S1 (idT L t : Int) (.int .i64 0) true = .tuple #[.int .i64 i1, .bool false] := h1
  have HL1 := Lib.hid (fun w' (e : Ext w w') => by
    have h0 := look1 (h.ext e) (idT L t : Int) true
    rw [h1] at h0
    exact h0)
  have HL2 := Lib.hid (fun w' (e : Ext w w') => by
    have h0 := look2 (h.ext e) (idT L t : Int) false
    rw [h2] at h0
    exact h0)
  have HL3 := Lib.hid (fun w' (e : Ext w w') => by
    have h0 := look_seen (h.ext e).st.know (idT L t : Int)
    rw [h3] at h0
    exact h0)
  have hl1 := HL1.out _ (Ext.refl w)
  have HW := Lib.hid h.lo.2.2.2.2.2
  generalize hnt : (idT L t : Int) = nt at HL1 HL2 HL3 hl1 ⊢
  have HNT := Lib.hid hnt
  have ck := fun j => cell_of_row w _ j _ _ _ (h).hk
  have cl := fun j => cell_of_row w _ j _ _ _ (h).hl
  have ca := fun j => cell_of_row w _ j _ _ _ (h).ha
  have cb := fun j => cell_of_row w _ j _ _ _ (h).hb
  have cs := fun j => cell_of_row w _ j _ _ _ (h).hs
  simp only [sayV] at cs
  have cn := fun j => cell_of_row w _ j _ _ _ (h).st.know.head
  have fl := fun j => frozen_of_row w _ j _ _ (h).hl
  have z0 : C < w.heap.size := by have := (h).lo.2.2.2.2.2; omega
  have z1 : C + 1 < w.heap.size := by have := (h).lo.2.2.2.2.2; omega
  have z3 : C + 3 < w.heap.size := by have := (h).lo.2.2.2.2.2; omega
  have z5 : C + 5 < w.heap.size := by have := (h).lo.2.2.2.2.2; omega
  have z6 : C + 6 < w.heap.size := by have := (h).lo.2.2.2.2.2; omega
  have zk : kb < w.heap.size := by have := (h).lo.2.2.2.2.2; have := (h).lo.2.2.1; omega
  have HD := Lib.hid hd
  clear hd
  clear hnt h hA hB ht hn h1 h2 h3
  go_enter Try.func69, Try.ntmps69
  go_upto_region 5 with fail
  have e1 : Ext w (w.alloc (.cells #[.int .i64 0, .int .i64 0, .int .i64 0, .int .i64 nt] 141)) := (Ext.refl w).alloc _
  have HR1 := Lib.hid (heap_new (w := w) (o := .cells #[.int .i64 0, .int .i64 0, .int .i64 0, .int .i64 nt] 141) rfl)
  have HE1 := Lib.hid e1
  clear e1 hl1
  clear ck cl ca cb cs cn fl z0 z1 z3 z5 z6 zk
  generalize hw1 : w.alloc (.cells #[.int .i64 0, .int .i64 0, .int .i64 0, .int .i64 nt] 141) = w1 at HR1 HE1 ⊢
  clear hw1
  have hl2 := HL2.out _ HE1.out
  have hl3 := HL3.out _ HE1.out
  have ck := fun j => cell_of_row w1 _ j _ _ _ ((HH.out.ext HE1.out)).hk
  have cl := fun j => cell_of_row w1 _ j _ _ _ ((HH.out.ext HE1.out)).hl
  have ca := fun j => cell_of_row w1 _ j _ _ _ ((HH.out.ext HE1.out)).ha
  have cb := fun j => cell_of_row w1 _ j _ _ _ ((HH.out.ext HE1.out)).hb
  have cs := fun j => cell_of_row w1 _ j _ _ _ ((HH.out.ext HE1.out)).hs
  simp only [sayV] at cs
  have cn := fun j => cell_of_row w1 _ j _ _ _ ((HH.out.ext HE1.out)).st.know.head
  have fl := fun j => frozen_of_row w1 _ j _ _ ((HH.out.ext HE1.out)).hl
  have z0 : C < w1.heap.size := by have := ((HH.out.ext HE1.out)).lo.2.2.2.2.2; omega
  have z1 : C + 1 < w1.heap.size := by have := ((HH.out.ext HE1.out)).lo.2.2.2.2.2; omega
  have z3 : C + 3 < w1.heap.size := by have := ((HH.out.ext HE1.out)).lo.2.2.2.2.2; omega
  have z5 : C + 5 < w1.heap.size := by have := ((HH.out.ext HE1.out)).lo.2.2.2.2.2; omega
  have z6 : C + 6 < w1.heap.size := by have := ((HH.out.ext HE1.out)).lo.2.2.2.2.2; omega
  have zk : kb < w1.heap.size := by have := ((HH.out.ext HE1.out)).lo.2.2.2.2.2; have := ((HH.out.ext HE1.out)).lo.2.2.1; omega
  have cr := fun j => cell_of_row w1 _ j _ _ _ HR1.out
  have fr := fun j => frozen_of_row w1 _ j _ _ HR1.out
  have zr : w.heap.size < w1.heap.size := (Array.getElem?_eq_some_iff.1 HR1.out).1
  go_upto_region 20 with fail
  have HM := Lib.hid ((SaysMid.start HI.out HW.out HE1.out HR1.out).ext ((Ext.refl _).alloc (.cells #[.int .i64 x, .int .i64 y] 91)))
  clear ck cl ca cb cs cn fl z0 z1 z3 z5 z6 zk
  clear cr fr zr hl2 hl3
  refine wp_forget (fun wx => Hid (∃ (rvx : Value) (nx : Nat), SaysMid C B pb mb kb sb v gv lv L G K W rv nt w rvx nx wx ∧ nx ≤ 100000 ∧ nx + 1 ≤ n + 1)) (Lib.hid ⟨_, _, HM.out, by have := HT.out; omega, by have := HT.out; omega⟩) ?_
  clear HM
  intro wx HM
  obtain ⟨rvx, nx, hmid, hnx⟩ := HM.out
  clear HM
  have HM := Lib.hid hmid
  have HNX := Lib.hid hnx
  clear hmid hnx
  obtain ⟨⟨s1, s2, ys, hA, hI1, hI2⟩, hst, hkp, hfr, hno⟩ := HM.out
  have HA := Lib.hid hA
  have ckx := fun j => cell_of_row wx _ j _ _ _ (hA).hk
  have clx := fun j => cell_of_row wx _ j _ _ _ (hA).hl
  have cax := fun j => cell_of_row wx _ j _ _ _ (hA).ha
  have cbx := fun j => cell_of_row wx _ j _ _ _ (hA).hb
  have csx := fun j => cell_of_row wx _ j _ _ _ (hA).hs
  simp only [sayV] at csx
  have cnx := fun j => cell_of_row wx _ j _ _ _ (hA).st.know.head
  have flx := fun j => frozen_of_row wx _ j _ _ (hA).hl
  have z0x : C < wx.heap.size := by have := (hA).lo.2.2.2.2.2; omega
  have z1x : C + 1 < wx.heap.size := by have := (hA).lo.2.2.2.2.2; omega
  have z3x : C + 3 < wx.heap.size := by have := (hA).lo.2.2.2.2.2; omega
  have z5x : C + 5 < wx.heap.size := by have := (hA).lo.2.2.2.2.2; omega
  have z6x : C + 6 < wx.heap.size := by have := (hA).lo.2.2.2.2.2; omega
  have zkx : kb < wx.heap.size := by have := (hA).lo.2.2.2.2.2; have := (hA).lo.2.2.1; omega
  have HK := Lib.hid (And.intro hkp (And.intro hfr (And.intro hno (And.intro hI1 hI2))))
  clear hA hst hkp hfr hno hI1 hI2 HM
  go_upto_region 22 with (refine wpList_updateG rfl _ _ _ rfl (keys_int Try.underlying44) Try.underlying137 (C + 4) s2 nt (.bool true) rfl rfl rfl HA.out.m2 fun ob hM' => ?_)
  have HA5 := Lib.hid (HA.out.put2 hM')
  have hk5 : Keeps ((C + 1) :: (C + 2) :: (C + 4) :: rowB rv) w (setB wx (C + 4) ob) := by
    have h1 := HK.out.1
    exact ⟨h1.os, h1.tape, h1.output, by simpa [setB] using h1.size, fun k hk hx => (setB_other (fun e => hx (by rw [e]; simp))).trans (h1.block k hk hx)⟩
  have HK5 := Lib.hid hk5
  clear ckx clx cax cbx csx cnx flx z0x z1x z3x z5x z6x zkx
  clear hM' hk5
  generalize setB wx (C + 4) ob = w5 at HA5 HK5 ⊢
  go_wp2_with fail
  refine bodyPost_ret (results_tmp2 rfl _ _ _) rfl ?_
  exact ⟨_, _, nx, rfl, ⟨_, _, _, HA5.out, HK.out.2.2.2.1, by rw [← HNT.out]; exact HK.out.2.2.2.2.put HT.out.1 HD.out⟩, HK5.out, HK.out.2.1, by have := HNX.out.2; omega⟩

set_option maxRecDepth 100000 in
set_option maxHeartbeats 8000000 in
theorem sa_free (C B pb mb kb sb : Nat) (v gv lv : Value) (L G K : List Tt) (W : List (Int × Int)) (S1 S2 : List (Int × Value)) (rv : Value) (n : Nat) (xs : List Value) (t : Tt) (w : World) (h : SaysAt C B pb mb kb sb v gv lv L G K W S1 S2 rv n xs w) (hA : InvA L K S1) (hB : InvB L K S2) (ht : t ∈ L) (hn : n ≤ 60000) (h1 : ∃ i1 : Int, lookG S1 (idT L t : Int) (.int .i64 0) true = .tuple #[.int .i64 i1, .bool false]) (h2 : lookG S2 (idT L t : Int) (.bool false) false = .bool false) (h3 : lookG (seenL L K W) (idT L t : Int) (wyV (0, 0)) true = .tuple #[.agg #[.int .i64 0, .int .i64 0], .bool false]) (hM : ∀ w', Ext w w' → Calls Try.prog 70 #[.pointer (some ⟨kb, 0, none⟩), .int .i64 (idT L t)] w' fun e w'' => e = .returned (.tuple #[.int .i64 0, .int .i64 0, .bool true, .bool true]) ∧ Ext w' w'') (hd : derK K t = true) :
    Calls Try.prog 69 #[.int .i64 (idT L t), .pointer (some ⟨C + 3, 0, none⟩), .pointer (some ⟨C + 5, 0, none⟩), .pointer (some ⟨C, 0, none⟩), .pointer (some ⟨C + 6, 0, none⟩), .pointer (some ⟨C + 1, 0, none⟩)] w (SaysPost C B pb mb kb sb v gv lv L G K W true 1 rv n w) := by
  have HI := Lib.hid (show SaysInv C B pb mb kb sb v gv lv L G K W rv n w from ⟨S1, S2, xs, h, hA, hB⟩)
  have HH := Lib.hid h
  have HT := Lib.hid (And.intro ht hn)
  obtain ⟨i1, h1⟩ : ∃ i1 : Int, lookG S1 (idT L t : Int) (.int .i64 0) true = .tuple #[.int .i64 i1, .bool false] := h1
  have HL1 := Lib.hid (fun w' (e : Ext w w') => by
    have h0 := look1 (h.ext e) (idT L t : Int) true
    rw [h1] at h0
    exact h0)
  have HL2 := Lib.hid (fun w' (e : Ext w w') => by
    have h0 := look2 (h.ext e) (idT L t : Int) false
    rw [h2] at h0
    exact h0)
  have HL3 := Lib.hid (fun w' (e : Ext w w') => by
    have h0 := look_seen (h.ext e).st.know (idT L t : Int)
    rw [h3] at h0
    exact h0)
  have hl1 := HL1.out _ (Ext.refl w)
  have HW := Lib.hid h.lo.2.2.2.2.2
  generalize hnt : (idT L t : Int) = nt at HL1 HL2 HL3 hl1 ⊢
  have HNT := Lib.hid hnt
  have ck := fun j => cell_of_row w _ j _ _ _ (h).hk
  have cl := fun j => cell_of_row w _ j _ _ _ (h).hl
  have ca := fun j => cell_of_row w _ j _ _ _ (h).ha
  have cb := fun j => cell_of_row w _ j _ _ _ (h).hb
  have cs := fun j => cell_of_row w _ j _ _ _ (h).hs
  simp only [sayV] at cs
  have cn := fun j => cell_of_row w _ j _ _ _ (h).st.know.head
  have fl := fun j => frozen_of_row w _ j _ _ (h).hl
  have z0 : C < w.heap.size := by have := (h).lo.2.2.2.2.2; omega
  have z1 : C + 1 < w.heap.size := by have := (h).lo.2.2.2.2.2; omega
  have z3 : C + 3 < w.heap.size := by have := (h).lo.2.2.2.2.2; omega
  have z5 : C + 5 < w.heap.size := by have := (h).lo.2.2.2.2.2; omega
  have z6 : C + 6 < w.heap.size := by have := (h).lo.2.2.2.2.2; omega
  have zk : kb < w.heap.size := by have := (h).lo.2.2.2.2.2; have := (h).lo.2.2.1; omega
  rw [hnt] at hM
  have HMK := Lib.hid hM
  clear hM
  have HD := Lib.hid hd
  clear hd
  clear hnt h hA hB ht hn h1 h2 h3
  go_enter Try.func69, Try.ntmps69
  go_upto_region 5 with fail
  have e1 : Ext w (w.alloc (.cells #[.int .i64 0, .int .i64 0, .int .i64 0, .int .i64 nt] 141)) := (Ext.refl w).alloc _
  have HR1 := Lib.hid (heap_new (w := w) (o := .cells #[.int .i64 0, .int .i64 0, .int .i64 0, .int .i64 nt] 141) rfl)
  have HE1 := Lib.hid e1
  clear e1 hl1
  clear ck cl ca cb cs cn fl z0 z1 z3 z5 z6 zk
  generalize hw1 : w.alloc (.cells #[.int .i64 0, .int .i64 0, .int .i64 0, .int .i64 nt] 141) = w1 at HR1 HE1 ⊢
  clear hw1
  have hl2 := HL2.out _ HE1.out
  have hl3 := HL3.out _ HE1.out
  have ck := fun j => cell_of_row w1 _ j _ _ _ ((HH.out.ext HE1.out)).hk
  have cl := fun j => cell_of_row w1 _ j _ _ _ ((HH.out.ext HE1.out)).hl
  have ca := fun j => cell_of_row w1 _ j _ _ _ ((HH.out.ext HE1.out)).ha
  have cb := fun j => cell_of_row w1 _ j _ _ _ ((HH.out.ext HE1.out)).hb
  have cs := fun j => cell_of_row w1 _ j _ _ _ ((HH.out.ext HE1.out)).hs
  simp only [sayV] at cs
  have cn := fun j => cell_of_row w1 _ j _ _ _ ((HH.out.ext HE1.out)).st.know.head
  have fl := fun j => frozen_of_row w1 _ j _ _ ((HH.out.ext HE1.out)).hl
  have z0 : C < w1.heap.size := by have := ((HH.out.ext HE1.out)).lo.2.2.2.2.2; omega
  have z1 : C + 1 < w1.heap.size := by have := ((HH.out.ext HE1.out)).lo.2.2.2.2.2; omega
  have z3 : C + 3 < w1.heap.size := by have := ((HH.out.ext HE1.out)).lo.2.2.2.2.2; omega
  have z5 : C + 5 < w1.heap.size := by have := ((HH.out.ext HE1.out)).lo.2.2.2.2.2; omega
  have z6 : C + 6 < w1.heap.size := by have := ((HH.out.ext HE1.out)).lo.2.2.2.2.2; omega
  have zk : kb < w1.heap.size := by have := ((HH.out.ext HE1.out)).lo.2.2.2.2.2; have := ((HH.out.ext HE1.out)).lo.2.2.1; omega
  have cr := fun j => cell_of_row w1 _ j _ _ _ HR1.out
  have fr := fun j => frozen_of_row w1 _ j _ _ HR1.out
  have zr : w.heap.size < w1.heap.size := (Array.getElem?_eq_some_iff.1 HR1.out).1
  go_wp2_with fail
  refine (HMK.out _ (HE1.out.alloc (.cells #[.int .i64 0, .int .i64 0] 91))).mono ?_
  rintro e w2 ⟨rfl, hx2⟩
  have e2 := (HE1.out.alloc (.cells #[.int .i64 0, .int .i64 0] 91)).trans hx2
  have hr2 := heap_ext HR1.out (((Ext.refl w1).alloc (.cells #[.int .i64 0, .int .i64 0] 91)).trans hx2)
  have HM := Lib.hid (SaysMid.start HI.out HW.out e2 hr2)
  clear ck cl ca cb cs cn fl z0 z1 z3 z5 z6 zk
  clear cr fr zr hl2 hl3 hx2 e2
  have cr2 := fun j => cell_of_row w2 _ j _ _ _ hr2
  have fr2 := fun j => frozen_of_row w2 _ j _ _ hr2
  have zr2 := (Array.getElem?_eq_some_iff.1 hr2).1
  clear hr2
  go_upto_region 20 with fail
  replace HM := Lib.hid ((HM.out.set HW.out 0 (by decide) 5).set HW.out 0 (by decide) 4)
  clear cr2 fr2 zr2
  refine wp_forget (fun wx => Hid (∃ (rvx : Value) (nx : Nat), SaysMid C B pb mb kb sb v gv lv L G K W rv nt w rvx nx wx ∧ nx ≤ 100000 ∧ nx + 1 ≤ n + 1)) (Lib.hid ⟨_, _, HM.out, by have := HT.out; omega, by have := HT.out; omega⟩) ?_
  clear HM
  intro wx HM
  obtain ⟨rvx, nx, hmid, hnx⟩ := HM.out
  clear HM
  have HM := Lib.hid hmid
  have HNX := Lib.hid hnx
  clear hmid hnx
  obtain ⟨⟨s1, s2, ys, hA, hI1, hI2⟩, hst, hkp, hfr, hno⟩ := HM.out
  obtain ⟨r0, a0, b0, hrow⟩ := hst
  obtain ⟨ar, cr, hrv, _, _⟩ := own_view hA.row
  subst hrv
  have HA := Lib.hid hA
  have HRW := Lib.hid hrow
  have ckx := fun j => cell_of_row wx _ j _ _ _ (hA).hk
  have clx := fun j => cell_of_row wx _ j _ _ _ (hA).hl
  have cax := fun j => cell_of_row wx _ j _ _ _ (hA).ha
  have cbx := fun j => cell_of_row wx _ j _ _ _ (hA).hb
  have csx := fun j => cell_of_row wx _ j _ _ _ (hA).hs
  simp only [sayV] at csx
  have cnx := fun j => cell_of_row wx _ j _ _ _ (hA).st.know.head
  have flx := fun j => frozen_of_row wx _ j _ _ (hA).hl
  have z0x : C < wx.heap.size := by have := (hA).lo.2.2.2.2.2; omega
  have z1x : C + 1 < wx.heap.size := by have := (hA).lo.2.2.2.2.2; omega
  have z3x : C + 3 < wx.heap.size := by have := (hA).lo.2.2.2.2.2; omega
  have z5x : C + 5 < wx.heap.size := by have := (hA).lo.2.2.2.2.2; omega
  have z6x : C + 6 < wx.heap.size := by have := (hA).lo.2.2.2.2.2; omega
  have zkx : kb < wx.heap.size := by have := (hA).lo.2.2.2.2.2; have := (hA).lo.2.2.1; omega
  have HK := Lib.hid (And.intro hkp (And.intro hfr (And.intro hno (And.intro hI1 hI2))))
  have lrow := (Array.getElem?_eq_some_iff.1 hrow).1
  clear hA hrow hkp hfr hno hI1 hI2 HM
  go_upto_region 24 with (refine wpList_updateG rfl _ _ _ rfl (keys_int Try.underlying44) Try.underlying136 (C + 2) s1 nt (.int .i64 (nx : Int)) rfl rfl rfl HA.out.m1 fun ob hM' => ?_)
  have HA5 := Lib.hid (HA.out.put1 hM')
  have HR5 := Lib.hid ((setB_other (w := wx) (ob := ob) (show w.heap.size ≠ C + 2 by have := HW.out; omega)).trans HRW.out)
  have hk5 : Keeps ((C + 1) :: (C + 2) :: (C + 4) :: rowB rv) w (setB wx (C + 2) ob) := by
    have h1 := HK.out.1
    exact ⟨h1.os, h1.tape, h1.output, by simpa [setB] using h1.size, fun k hk hx => (setB_other (fun e => hx (by rw [e]; simp))).trans (h1.block k hk hx)⟩
  have HK5 := Lib.hid hk5
  have hz5 : wx.heap.size = (setB wx (C + 2) ob).heap.size := by simp [setB]
  have HZ5 := Lib.hid hz5
  clear ckx clx cax cbx csx cnx flx z0x z1x z3x z5x z6x zkx
  clear lrow hM' hk5 hz5
  generalize setB wx (C + 2) ob = w5 at HA5 HR5 HK5 HZ5 ⊢
  have ck5 := fun j => cell_of_row w5 _ j _ _ _ (HA5.out).hk
  have cl5 := fun j => cell_of_row w5 _ j _ _ _ (HA5.out).hl
  have ca5 := fun j => cell_of_row w5 _ j _ _ _ (HA5.out).ha
  have cb5 := fun j => cell_of_row w5 _ j _ _ _ (HA5.out).hb
  have cs5 := fun j => cell_of_row w5 _ j _ _ _ (HA5.out).hs
  simp only [sayV] at cs5
  have cn5 := fun j => cell_of_row w5 _ j _ _ _ (HA5.out).st.know.head
  have fl5 := fun j => frozen_of_row w5 _ j _ _ (HA5.out).hl
  have z05 : C < w5.heap.size := by have := (HA5.out).lo.2.2.2.2.2; omega
  have z15 : C + 1 < w5.heap.size := by have := (HA5.out).lo.2.2.2.2.2; omega
  have z35 : C + 3 < w5.heap.size := by have := (HA5.out).lo.2.2.2.2.2; omega
  have z55 : C + 5 < w5.heap.size := by have := (HA5.out).lo.2.2.2.2.2; omega
  have z65 : C + 6 < w5.heap.size := by have := (HA5.out).lo.2.2.2.2.2; omega
  have zk5 : kb < w5.heap.size := by have := (HA5.out).lo.2.2.2.2.2; have := (HA5.out).lo.2.2.1; omega
  have cr5 := fun j => cell_of_row w5 _ j _ _ _ HR5.out
  have lr5 := (Array.getElem?_eq_some_iff.1 HR5.out).1
  obtain ⟨ti0, hi, hz0, hz1, hz2⟩ := info_parts info_step
  go_wp2_with (at_builtin; refine unHd ?_)
  unfold Hd2
  have e6 : Ext w5 (w5.alloc (.cells #[.int .i64 r0, .int .i64 a0, .int .i64 b0, .int .i64 nt] 141)) := (Ext.refl _).alloc _
  refine wpList_app5 (C + 7) 93 141 ti0 _ 4 32 Try.underlying93 hi hz0 hz1 hz2 rfl (by decide) rfl _ _ rfl _ nx _ rfl (own_ext HA5.out.row e6) (Nat.le_trans HA5.out.lo.2.2.2.2.2 e6.size) w5.heap.size 1 1 #[.int .i64 r0, .int .i64 a0, .int .i64 b0, .int .i64 nt] (by decide) rfl (heap_new rfl) rfl (by simp [Value.oneCell']) (by unfold maxLen; have := HNX.out.1; omega) (by have := HNX.out.1; omega) ?_
  intro v2 w2 hown2 hg2 hr2
  replace hg2 : (w5.alloc (.cells #[.int .i64 r0, .int .i64 a0, .int .i64 b0, .int .i64 nt] 141)).grownBy w2 (Value.slice ar nx cr).ownBlock := hg2
  replace hr2 : ∀ k ∈ rowB v2, k ∈ rowB (.slice ar nx cr) ∨ (w5.alloc (.cells #[.int .i64 r0, .int .i64 a0, .int .i64 b0, .int .i64 nt] 141)).heap.size ≤ k := hr2
  have blk : ∀ k, k < w5.heap.size → k ∉ rowB (.slice ar nx cr) → w2.heap[k]? = w5.heap[k]? := fun k hk hn => (hg2.block k (Nat.lt_of_lt_of_le hk e6.size) (by
    intro e
    apply hn
    unfold rowB
    first | (rw [e]; simp) | (rw [← e]; simp))).trans (e6.block k hk)
  obtain ⟨g2, cap3, rfl⟩ : ∃ g2 cap3, v2 = .slice (some ⟨g2, 0, none⟩) (nx + 1) cap3 := by
    rcases hown2.2 with ⟨_, h0⟩ | ⟨g2, cap2, _, h0, _⟩
    · omega
    · exact ⟨g2, cap2, h0⟩
  have hrl := row_lo HA5.out.row
  have n1 : ∀ k, k < C + 7 → k ∉ rowB (.slice ar nx cr) := fun k hk hm => by have := hrl k hm; omega
  have hl2 := (blk (C + 1) z15 (n1 _ (by omega))).trans HA5.out.hl
  have hsz : w5.heap.size ≤ w2.heap.size := Nat.le_trans e6.size hg2.size
  have HA7 := Lib.hid (HA5.out.app blk hsz hown2)
  have HF7 : Hid (∀ g ∈ rowB (.slice (some ⟨g2, 0, none⟩) (nx + 1) cap3), g ∈ rowB rv ∨ w.heap.size ≤ g) := Lib.hid (fun g hg => by
    rcases hr2 g hg with e | e
    · exact HK.out.2.1 g e
    · have := e6.size; have := HK5.out.size; exact .inr (by omega))
  have HK7 : Hid (Keeps ((C + 1) :: (C + 2) :: (C + 4) :: rowB rv) w (w2.setCell ⟨C + 1, 0, none⟩ (.slice (some ⟨g2, 0, none⟩) (nx + 1) cap3))) := Lib.hid (by
    have k5 := HK5.out
    refine Keeps.setCell (X := (C + 1) :: (C + 2) :: (C + 4) :: rowB rv) (a := w) (b := w2) ⟨(hg2.os.trans e6.os).trans k5.os, (hg2.tape.trans e6.tape).trans k5.tape, (hg2.output.trans e6.output).trans k5.output, Nat.le_trans k5.size hsz, fun k hk hx => ?_⟩ (.inl (.head _)) 0 _
    refine (blk k (Nat.lt_of_lt_of_le hk k5.size) fun hm => hx ?_).trans (k5.block k hk hx)
    rcases HK.out.2.1 k hm with e | e
    · simp [e]
    · omega)
  have cl2 := fun j => cell_of_row w2 _ j _ _ _ hl2
  have fl2 := fun j => frozen_of_row w2 _ j _ _ hl2
  have z2 : C + 1 < w2.heap.size := (Array.getElem?_eq_some_iff.1 hl2).1
  clear ck5 cl5 ca5 cb5 cs5 cn5 fl5 z05 z15 z35 z55 z65 zk5
  clear cr5 lr5 hown2 hg2 hr2 blk hrl n1 hl2 hsz e6
  go_upto_region 25 with fail
  generalize w2.setCell ⟨C + 1, 0, none⟩ (.slice (some ⟨g2, 0, none⟩) (nx + 1) cap3) = w7 at HA7 HK7 ⊢
  clear cl2 fl2 z2
  have ck7 := fun j => cell_of_row w7 _ j _ _ _ (HA7.out).hk
  have cl7 := fun j => cell_of_row w7 _ j _ _ _ (HA7.out).hl
  have ca7 := fun j => cell_of_row w7 _ j _ _ _ (HA7.out).ha
  have cb7 := fun j => cell_of_row w7 _ j _ _ _ (HA7.out).hb
  have cs7 := fun j => cell_of_row w7 _ j _ _ _ (HA7.out).hs
  simp only [sayV] at cs7
  have cn7 := fun j => cell_of_row w7 _ j _ _ _ (HA7.out).st.know.head
  have fl7 := fun j => frozen_of_row w7 _ j _ _ (HA7.out).hl
  have z07 : C < w7.heap.size := by have := (HA7.out).lo.2.2.2.2.2; omega
  have z17 : C + 1 < w7.heap.size := by have := (HA7.out).lo.2.2.2.2.2; omega
  have z37 : C + 3 < w7.heap.size := by have := (HA7.out).lo.2.2.2.2.2; omega
  have z57 : C + 5 < w7.heap.size := by have := (HA7.out).lo.2.2.2.2.2; omega
  have z67 : C + 6 < w7.heap.size := by have := (HA7.out).lo.2.2.2.2.2; omega
  have zk7 : kb < w7.heap.size := by have := (HA7.out).lo.2.2.2.2.2; have := (HA7.out).lo.2.2.1; omega
  have hl7 := look1 HA7.out nt false
  have hlg : lookG (putM s1 nt (.int .i64 (nx : Int))) nt (.int .i64 0) false = .int .i64 (nx : Int) := by
    unfold lookG
    rw [getM_put, if_pos rfl]
    rfl
  rw [hlg] at hl7
  clear hlg
  go_wp2_with fail
  refine bodyPost_ret (results_tmp2 rfl _ _ _) rfl ?_
  exact ⟨_, _, nx + 1, rfl, ⟨_, _, _, HA7.out, by rw [← HNT.out]; exact HK.out.2.2.2.1.put HT.out.1 HD.out, HK.out.2.2.2.2⟩, HK7.out, HF7.out, HNX.out.2⟩

set_option maxRecDepth 100000 in
set_option maxHeartbeats 8000000 in
theorem sa_no (C B pb mb kb sb : Nat) (v gv lv : Value) (L G K : List Tt) (W : List (Int × Int)) (S1 S2 : List (Int × Value)) (rv : Value) (n : Nat) (xs : List Value) (t : Tt) (w : World) (h : SaysAt C B pb mb kb sb v gv lv L G K W S1 S2 rv n xs w) (hA : InvA L K S1) (hB : InvB L K S2) (ht : t ∈ L) (hn : n ≤ 60000) (h1 : ∃ i1 : Int, lookG S1 (idT L t : Int) (.int .i64 0) true = .tuple #[.int .i64 i1, .bool false]) (h2 : lookG S2 (idT L t : Int) (.bool false) false = .bool false) (h3 : lookG (seenL L K W) (idT L t : Int) (wyV (0, 0)) true = .tuple #[.agg #[.int .i64 0, .int .i64 0], .bool false]) (a b : Int) (hM : ∀ w', Ext w w' → Calls Try.prog 70 #[.pointer (some ⟨kb, 0, none⟩), .int .i64 (idT L t)] w' fun e w'' => e = .returned (.tuple #[.int .i64 a, .int .i64 b, .bool false, .bool false]) ∧ Ext w' w'') (hd : derK K t = false) :
    Calls Try.prog 69 #[.int .i64 (idT L t), .pointer (some ⟨C + 3, 0, none⟩), .pointer (some ⟨C + 5, 0, none⟩), .pointer (some ⟨C, 0, none⟩), .pointer (some ⟨C + 6, 0, none⟩), .pointer (some ⟨C + 1, 0, none⟩)] w (SaysPost C B pb mb kb sb v gv lv L G K W false 1 rv n w) := by
  have HI := Lib.hid (show SaysInv C B pb mb kb sb v gv lv L G K W rv n w from ⟨S1, S2, xs, h, hA, hB⟩)
  have HH := Lib.hid h
  have HT := Lib.hid (And.intro ht hn)
  obtain ⟨i1, h1⟩ : ∃ i1 : Int, lookG S1 (idT L t : Int) (.int .i64 0) true = .tuple #[.int .i64 i1, .bool false] := h1
  have HL1 := Lib.hid (fun w' (e : Ext w w') => by
    have h0 := look1 (h.ext e) (idT L t : Int) true
    rw [h1] at h0
    exact h0)
  have HL2 := Lib.hid (fun w' (e : Ext w w') => by
    have h0 := look2 (h.ext e) (idT L t : Int) false
    rw [h2] at h0
    exact h0)
  have HL3 := Lib.hid (fun w' (e : Ext w w') => by
    have h0 := look_seen (h.ext e).st.know (idT L t : Int)
    rw [h3] at h0
    exact h0)
  have hl1 := HL1.out _ (Ext.refl w)
  have HW := Lib.hid h.lo.2.2.2.2.2
  generalize hnt : (idT L t : Int) = nt at HL1 HL2 HL3 hl1 ⊢
  have HNT := Lib.hid hnt
  have ck := fun j => cell_of_row w _ j _ _ _ (h).hk
  have cl := fun j => cell_of_row w _ j _ _ _ (h).hl
  have ca := fun j => cell_of_row w _ j _ _ _ (h).ha
  have cb := fun j => cell_of_row w _ j _ _ _ (h).hb
  have cs := fun j => cell_of_row w _ j _ _ _ (h).hs
  simp only [sayV] at cs
  have cn := fun j => cell_of_row w _ j _ _ _ (h).st.know.head
  have fl := fun j => frozen_of_row w _ j _ _ (h).hl
  have z0 : C < w.heap.size := by have := (h).lo.2.2.2.2.2; omega
  have z1 : C + 1 < w.heap.size := by have := (h).lo.2.2.2.2.2; omega
  have z3 : C + 3 < w.heap.size := by have := (h).lo.2.2.2.2.2; omega
  have z5 : C + 5 < w.heap.size := by have := (h).lo.2.2.2.2.2; omega
  have z6 : C + 6 < w.heap.size := by have := (h).lo.2.2.2.2.2; omega
  have zk : kb < w.heap.size := by have := (h).lo.2.2.2.2.2; have := (h).lo.2.2.1; omega
  rw [hnt] at hM
  have HMK := Lib.hid hM
  clear hM
  have HD := Lib.hid hd
  clear hd
  clear hnt h hA hB ht hn h1 h2 h3
  go_enter Try.func69, Try.ntmps69
  go_upto_region 5 with fail
  have e1 : Ext w (w.alloc (.cells #[.int .i64 0, .int .i64 0, .int .i64 0, .int .i64 nt] 141)) := (Ext.refl w).alloc _
  have HR1 := Lib.hid (heap_new (w := w) (o := .cells #[.int .i64 0, .int .i64 0, .int .i64 0, .int .i64 nt] 141) rfl)
  have HE1 := Lib.hid e1
  clear e1 hl1
  clear ck cl ca cb cs cn fl z0 z1 z3 z5 z6 zk
  generalize hw1 : w.alloc (.cells #[.int .i64 0, .int .i64 0, .int .i64 0, .int .i64 nt] 141) = w1 at HR1 HE1 ⊢
  clear hw1
  have hl2 := HL2.out _ HE1.out
  have hl3 := HL3.out _ HE1.out
  have ck := fun j => cell_of_row w1 _ j _ _ _ ((HH.out.ext HE1.out)).hk
  have cl := fun j => cell_of_row w1 _ j _ _ _ ((HH.out.ext HE1.out)).hl
  have ca := fun j => cell_of_row w1 _ j _ _ _ ((HH.out.ext HE1.out)).ha
  have cb := fun j => cell_of_row w1 _ j _ _ _ ((HH.out.ext HE1.out)).hb
  have cs := fun j => cell_of_row w1 _ j _ _ _ ((HH.out.ext HE1.out)).hs
  simp only [sayV] at cs
  have cn := fun j => cell_of_row w1 _ j _ _ _ ((HH.out.ext HE1.out)).st.know.head
  have fl := fun j => frozen_of_row w1 _ j _ _ ((HH.out.ext HE1.out)).hl
  have z0 : C < w1.heap.size := by have := ((HH.out.ext HE1.out)).lo.2.2.2.2.2; omega
  have z1 : C + 1 < w1.heap.size := by have := ((HH.out.ext HE1.out)).lo.2.2.2.2.2; omega
  have z3 : C + 3 < w1.heap.size := by have := ((HH.out.ext HE1.out)).lo.2.2.2.2.2; omega
  have z5 : C + 5 < w1.heap.size := by have := ((HH.out.ext HE1.out)).lo.2.2.2.2.2; omega
  have z6 : C + 6 < w1.heap.size := by have := ((HH.out.ext HE1.out)).lo.2.2.2.2.2; omega
  have zk : kb < w1.heap.size := by have := ((HH.out.ext HE1.out)).lo.2.2.2.2.2; have := ((HH.out.ext HE1.out)).lo.2.2.1; omega
  have cr := fun j => cell_of_row w1 _ j _ _ _ HR1.out
  have fr := fun j => frozen_of_row w1 _ j _ _ HR1.out
  have zr : w.heap.size < w1.heap.size := (Array.getElem?_eq_some_iff.1 HR1.out).1
  go_wp2_with fail
  refine (HMK.out _ (HE1.out.alloc (.cells #[.int .i64 0, .int .i64 0] 91))).mono ?_
  rintro e w2 ⟨rfl, hx2⟩
  have e2 := (HE1.out.alloc (.cells #[.int .i64 0, .int .i64 0] 91)).trans hx2
  have hr2 := heap_ext HR1.out (((Ext.refl w1).alloc (.cells #[.int .i64 0, .int .i64 0] 91)).trans hx2)
  have HM := Lib.hid (SaysMid.start HI.out HW.out e2 hr2)
  clear ck cl ca cb cs cn fl z0 z1 z3 z5 z6 zk
  clear cr fr zr hl2 hl3 hx2 e2
  have cr2 := fun j => cell_of_row w2 _ j _ _ _ hr2
  have fr2 := fun j => frozen_of_row w2 _ j _ _ hr2
  have zr2 := (Array.getElem?_eq_some_iff.1 hr2).1
  clear hr2
  go_upto_region 20 with fail
  replace HM := Lib.hid (HM.out.set HW.out 0 (by decide) 5)
  clear cr2 fr2 zr2
  refine wp_forget (fun wx => Hid (∃ (rvx : Value) (nx : Nat), SaysMid C B pb mb kb sb v gv lv L G K W rv nt w rvx nx wx ∧ nx ≤ 100000 ∧ nx + 1 ≤ n + 1)) (Lib.hid ⟨_, _, HM.out, by have := HT.out; omega, by have := HT.out; omega⟩) ?_
  clear HM
  intro wx HM
  obtain ⟨rvx, nx, hmid, hnx⟩ := HM.out
  clear HM
  have HM := Lib.hid hmid
  have HNX := Lib.hid hnx
  clear hmid hnx
  obtain ⟨⟨s1, s2, ys, hA, hI1, hI2⟩, hst, hkp, hfr, hno⟩ := HM.out
  have HA := Lib.hid hA
  have ckx := fun j => cell_of_row wx _ j _ _ _ (hA).hk
  have clx := fun j => cell_of_row wx _ j _ _ _ (hA).hl
  have cax := fun j => cell_of_row wx _ j _ _ _ (hA).ha
  have cbx := fun j => cell_of_row wx _ j _ _ _ (hA).hb
  have csx := fun j => cell_of_row wx _ j _ _ _ (hA).hs
  simp only [sayV] at csx
  have cnx := fun j => cell_of_row wx _ j _ _ _ (hA).st.know.head
  have flx := fun j => frozen_of_row wx _ j _ _ (hA).hl
  have z0x : C < wx.heap.size := by have := (hA).lo.2.2.2.2.2; omega
  have z1x : C + 1 < wx.heap.size := by have := (hA).lo.2.2.2.2.2; omega
  have z3x : C + 3 < wx.heap.size := by have := (hA).lo.2.2.2.2.2; omega
  have z5x : C + 5 < wx.heap.size := by have := (hA).lo.2.2.2.2.2; omega
  have z6x : C + 6 < wx.heap.size := by have := (hA).lo.2.2.2.2.2; omega
  have zkx : kb < wx.heap.size := by have := (hA).lo.2.2.2.2.2; have := (hA).lo.2.2.1; omega
  have HK := Lib.hid (And.intro hkp (And.intro hfr (And.intro hno (And.intro hI1 hI2))))
  clear hA hst hkp hfr hno hI1 hI2 HM
  go_upto_region 22 with (refine wpList_updateG rfl _ _ _ rfl (keys_int Try.underlying44) Try.underlying137 (C + 4) s2 nt (.bool true) rfl rfl rfl HA.out.m2 fun ob hM' => ?_)
  have HA5 := Lib.hid (HA.out.put2 hM')
  have hk5 : Keeps ((C + 1) :: (C + 2) :: (C + 4) :: rowB rv) w (setB wx (C + 4) ob) := by
    have h1 := HK.out.1
    exact ⟨h1.os, h1.tape, h1.output, by simpa [setB] using h1.size, fun k hk hx => (setB_other (fun e => hx (by rw [e]; simp))).trans (h1.block k hk hx)⟩
  have HK5 := Lib.hid hk5
  clear ckx clx cax cbx csx cnx flx z0x z1x z3x z5x z6x zkx
  clear hM' hk5
  generalize setB wx (C + 4) ob = w5 at HA5 HK5 ⊢
  go_wp2_with fail
  refine bodyPost_ret (results_tmp2 rfl _ _ _) rfl ?_
  exact ⟨_, _, nx, rfl, ⟨_, _, _, HA5.out, HK.out.2.2.2.1, by rw [← HNT.out]; exact HK.out.2.2.2.2.put HT.out.1 HD.out⟩, HK5.out, HK.out.2.1, by have := HNX.out.2; omega⟩

set_option maxRecDepth 100000 in
set_option maxHeartbeats 8000000 in
theorem sa_afail (C B pb mb kb sb : Nat) (v gv lv : Value) (L G K : List Tt) (W : List (Int × Int)) (S1 S2 : List (Int × Value)) (rv : Value) (n : Nat) (xs : List Value) (t : Tt) (w : World) (h : SaysAt C B pb mb kb sb v gv lv L G K W S1 S2 rv n xs w) (hA : InvA L K S1) (hB : InvB L K S2) (ht : t ∈ L) (hn : n ≤ 60000) (h1 : ∃ i1 : Int, lookG S1 (idT L t : Int) (.int .i64 0) true = .tuple #[.int .i64 i1, .bool false]) (h2 : lookG S2 (idT L t : Int) (.bool false) false = .bool false) (h3 : lookG (seenL L K W) (idT L t : Int) (wyV (0, 0)) true = .tuple #[.agg #[.int .i64 0, .int .i64 0], .bool false]) (a b : Int) (ha : (0 : Int) < a) (hM : ∀ w', Ext w w' → Calls Try.prog 70 #[.pointer (some ⟨kb, 0, none⟩), .int .i64 (idT L t)] w' fun e w'' => e = .returned (.tuple #[.int .i64 a, .int .i64 b, .bool false, .bool true]) ∧ Ext w' w'') (hd : derK K t = false) (D : Nat) (hD : D ≤ 30000) (hX : ∀ rv' n' w', SaysInv C B pb mb kb sb v gv lv L G K W rv' n' w' → n' ≤ n → Calls Try.prog 69 #[.int .i64 a, .pointer (some ⟨C + 3, 0, none⟩), .pointer (some ⟨C + 5, 0, none⟩), .pointer (some ⟨C, 0, none⟩), .pointer (some ⟨C + 6, 0, none⟩), .pointer (some ⟨C + 1, 0, none⟩)] w' (SaysPost C B pb mb kb sb v gv lv L G K W false D rv' n' w')) :
    Calls Try.prog 69 #[.int .i64 (idT L t), .pointer (some ⟨C + 3, 0, none⟩), .pointer (some ⟨C + 5, 0, none⟩), .pointer (some ⟨C, 0, none⟩), .pointer (some ⟨C + 6, 0, none⟩), .pointer (some ⟨C + 1, 0, none⟩)] w (SaysPost C B pb mb kb sb v gv lv L G K W false (D + 1) rv n w) := by
  have HI := Lib.hid (show SaysInv C B pb mb kb sb v gv lv L G K W rv n w from ⟨S1, S2, xs, h, hA, hB⟩)
  have HH := Lib.hid h
  have HT := Lib.hid (And.intro ht hn)
  obtain ⟨i1, h1⟩ : ∃ i1 : Int, lookG S1 (idT L t : Int) (.int .i64 0) true = .tuple #[.int .i64 i1, .bool false] := h1
  have HL1 := Lib.hid (fun w' (e : Ext w w') => by
    have h0 := look1 (h.ext e) (idT L t : Int) true
    rw [h1] at h0
    exact h0)
  have HL2 := Lib.hid (fun w' (e : Ext w w') => by
    have h0 := look2 (h.ext e) (idT L t : Int) false
    rw [h2] at h0
    exact h0)
  have HL3 := Lib.hid (fun w' (e : Ext w w') => by
    have h0 := look_seen (h.ext e).st.know (idT L t : Int)
    rw [h3] at h0
    exact h0)
  have hl1 := HL1.out _ (Ext.refl w)
  have HW := Lib.hid h.lo.2.2.2.2.2
  generalize hnt : (idT L t : Int) = nt at HL1 HL2 HL3 hl1 ⊢
  have HNT := Lib.hid hnt
  have ck := fun j => cell_of_row w _ j _ _ _ (h).hk
  have cl := fun j => cell_of_row w _ j _ _ _ (h).hl
  have ca := fun j => cell_of_row w _ j _ _ _ (h).ha
  have cb := fun j => cell_of_row w _ j _ _ _ (h).hb
  have cs := fun j => cell_of_row w _ j _ _ _ (h).hs
  simp only [sayV] at cs
  have cn := fun j => cell_of_row w _ j _ _ _ (h).st.know.head
  have fl := fun j => frozen_of_row w _ j _ _ (h).hl
  have z0 : C < w.heap.size := by have := (h).lo.2.2.2.2.2; omega
  have z1 : C + 1 < w.heap.size := by have := (h).lo.2.2.2.2.2; omega
  have z3 : C + 3 < w.heap.size := by have := (h).lo.2.2.2.2.2; omega
  have z5 : C + 5 < w.heap.size := by have := (h).lo.2.2.2.2.2; omega
  have z6 : C + 6 < w.heap.size := by have := (h).lo.2.2.2.2.2; omega
  have zk : kb < w.heap.size := by have := (h).lo.2.2.2.2.2; have := (h).lo.2.2.1; omega
  rw [hnt] at hM
  have HMK := Lib.hid hM
  clear hM
  have HD := Lib.hid hd
  have HX := Lib.hid hX
  have HDD := Lib.hid hD
  clear hd hX hD
  clear hnt h hA hB ht hn h1 h2 h3
  go_enter Try.func69, Try.ntmps69
  go_upto_region 5 with fail
  have e1 : Ext w (w.alloc (.cells #[.int .i64 0, .int .i64 0, .int .i64 0, .int .i64 nt] 141)) := (Ext.refl w).alloc _
  have HR1 := Lib.hid (heap_new (w := w) (o := .cells #[.int .i64 0, .int .i64 0, .int .i64 0, .int .i64 nt] 141) rfl)
  have HE1 := Lib.hid e1
  clear e1 hl1
  clear ck cl ca cb cs cn fl z0 z1 z3 z5 z6 zk
  generalize hw1 : w.alloc (.cells #[.int .i64 0, .int .i64 0, .int .i64 0, .int .i64 nt] 141) = w1 at HR1 HE1 ⊢
  clear hw1
  have hl2 := HL2.out _ HE1.out
  have hl3 := HL3.out _ HE1.out
  have ck := fun j => cell_of_row w1 _ j _ _ _ ((HH.out.ext HE1.out)).hk
  have cl := fun j => cell_of_row w1 _ j _ _ _ ((HH.out.ext HE1.out)).hl
  have ca := fun j => cell_of_row w1 _ j _ _ _ ((HH.out.ext HE1.out)).ha
  have cb := fun j => cell_of_row w1 _ j _ _ _ ((HH.out.ext HE1.out)).hb
  have cs := fun j => cell_of_row w1 _ j _ _ _ ((HH.out.ext HE1.out)).hs
  simp only [sayV] at cs
  have cn := fun j => cell_of_row w1 _ j _ _ _ ((HH.out.ext HE1.out)).st.know.head
  have fl := fun j => frozen_of_row w1 _ j _ _ ((HH.out.ext HE1.out)).hl
  have z0 : C < w1.heap.size := by have := ((HH.out.ext HE1.out)).lo.2.2.2.2.2; omega
  have z1 : C + 1 < w1.heap.size := by have := ((HH.out.ext HE1.out)).lo.2.2.2.2.2; omega
  have z3 : C + 3 < w1.heap.size := by have := ((HH.out.ext HE1.out)).lo.2.2.2.2.2; omega
  have z5 : C + 5 < w1.heap.size := by have := ((HH.out.ext HE1.out)).lo.2.2.2.2.2; omega
  have z6 : C + 6 < w1.heap.size := by have := ((HH.out.ext HE1.out)).lo.2.2.2.2.2; omega
  have zk : kb < w1.heap.size := by have := ((HH.out.ext HE1.out)).lo.2.2.2.2.2; have := ((HH.out.ext HE1.out)).lo.2.2.1; omega
  have cr := fun j => cell_of_row w1 _ j _ _ _ HR1.out
  have fr := fun j => frozen_of_row w1 _ j _ _ HR1.out
  have zr : w.heap.size < w1.heap.size := (Array.getElem?_eq_some_iff.1 HR1.out).1
  go_wp2_with fail
  refine (HMK.out _ (HE1.out.alloc (.cells #[.int .i64 0, .int .i64 0] 91))).mono ?_
  rintro e w2 ⟨rfl, hx2⟩
  have e2 := (HE1.out.alloc (.cells #[.int .i64 0, .int .i64 0] 91)).trans hx2
  have hr2 := heap_ext HR1.out (((Ext.refl w1).alloc (.cells #[.int .i64 0, .int .i64 0] 91)).trans hx2)
  have HM := Lib.hid (SaysMid.start HI.out HW.out e2 hr2)
  clear ck cl ca cb cs cn fl z0 z1 z3 z5 z6 zk
  clear cr fr zr hl2 hl3 hx2 e2
  have cr2 := fun j => cell_of_row w2 _ j _ _ _ hr2
  have fr2 := fun j => frozen_of_row w2 _ j _ _ hr2
  have zr2 := (Array.getElem?_eq_some_iff.1 hr2).1
  clear hr2
  go_upto_region 16 with fail
  replace HM := Lib.hid (HM.out.set HW.out 0 (by decide) 5)
  clear cr2 fr2 zr2
  generalize w2.setCell ⟨w.heap.size, 0, none⟩ (.int .i64 5) = w3 at HM ⊢
  obtain ⟨⟨s1, s2, ys, hA, hI1, hI2⟩, ⟨r3, a3, b3, hrow⟩, _, _, _⟩ := id HM.out
  have cky := fun j => cell_of_row w3 _ j _ _ _ (hA).hk
  have cly := fun j => cell_of_row w3 _ j _ _ _ (hA).hl
  have cay := fun j => cell_of_row w3 _ j _ _ _ (hA).ha
  have cby := fun j => cell_of_row w3 _ j _ _ _ (hA).hb
  have csy := fun j => cell_of_row w3 _ j _ _ _ (hA).hs
  simp only [sayV] at csy
  have cny := fun j => cell_of_row w3 _ j _ _ _ (hA).st.know.head
  have fly := fun j => frozen_of_row w3 _ j _ _ (hA).hl
  have z0y : C < w3.heap.size := by have := (hA).lo.2.2.2.2.2; omega
  have z1y : C + 1 < w3.heap.size := by have := (hA).lo.2.2.2.2.2; omega
  have z3y : C + 3 < w3.heap.size := by have := (hA).lo.2.2.2.2.2; omega
  have z5y : C + 5 < w3.heap.size := by have := (hA).lo.2.2.2.2.2; omega
  have z6y : C + 6 < w3.heap.size := by have := (hA).lo.2.2.2.2.2; omega
  have zky : kb < w3.heap.size := by have := (hA).lo.2.2.2.2.2; have := (hA).lo.2.2.1; omega
  have HA := Lib.hid (And.intro hA (And.intro hI1 hI2))
  have cr3 := fun j => cell_of_row w3 _ j _ _ _ hrow
  have fr3 := fun j => frozen_of_row w3 _ j _ _ hrow
  have zr3 := (Array.getElem?_eq_some_iff.1 hrow).1
  clear hA hI1 hI2 hrow
  go_wp2_with fail
  refine (HX.out rv n _ ⟨s1, s2, ys, HA.out.1, HA.out.2.1, HA.out.2.2⟩ (by omega)).mono ?_
  intro e w4 hp
  obtain ⟨iX, rv4, n4, rfl, hm4, hn4⟩ := SaysMid.call HM.out HW.out hp
  clear cky cly cay cby csy cny fly z0y z1y z3y z5y z6y zky
  clear hp cr3 fr3 zr3 HA HM
  obtain ⟨_, ⟨r4, a4, b4, hrow⟩, _, _, _⟩ := id hm4
  have cr4 := fun j => cell_of_row w4 _ j _ _ _ hrow
  have fr4 := fun j => frozen_of_row w4 _ j _ _ hrow
  have zr4 := (Array.getElem?_eq_some_iff.1 hrow).1
  have HM := Lib.hid (hm4.set HW.out 1 (by decide) iX)
  have HN4 := Lib.hid hn4
  clear hrow hm4 hn4
  go_upto_region 20 with fail
  clear cr4 fr4 zr4
  refine wp_forget (fun wx => Hid (∃ (rvx : Value) (nx : Nat), SaysMid C B pb mb kb sb v gv lv L G K W rv nt w rvx nx wx ∧ nx ≤ 100000 ∧ nx + 1 ≤ n + (D + 1))) (Lib.hid ⟨_, _, HM.out, by have := HT.out; have := HN4.out; have := HDD.out; omega, by have := HT.out; have := HN4.out; have := HDD.out; omega⟩) ?_
  clear HM
  intro wx HM
  obtain ⟨rvx, nx, hmid, hnx⟩ := HM.out
  clear HM
  have HM := Lib.hid hmid
  have HNX := Lib.hid hnx
  clear hmid hnx
  obtain ⟨⟨s1, s2, ys, hA, hI1, hI2⟩, hst, hkp, hfr, hno⟩ := HM.out
  have HA := Lib.hid hA
  have ckx := fun j => cell_of_row wx _ j _ _ _ (hA).hk
  have clx := fun j => cell_of_row wx _ j _ _ _ (hA).hl
  have cax := fun j => cell_of_row wx _ j _ _ _ (hA).ha
  have cbx := fun j => cell_of_row wx _ j _ _ _ (hA).hb
  have csx := fun j => cell_of_row wx _ j _ _ _ (hA).hs
  simp only [sayV] at csx
  have cnx := fun j => cell_of_row wx _ j _ _ _ (hA).st.know.head
  have flx := fun j => frozen_of_row wx _ j _ _ (hA).hl
  have z0x : C < wx.heap.size := by have := (hA).lo.2.2.2.2.2; omega
  have z1x : C + 1 < wx.heap.size := by have := (hA).lo.2.2.2.2.2; omega
  have z3x : C + 3 < wx.heap.size := by have := (hA).lo.2.2.2.2.2; omega
  have z5x : C + 5 < wx.heap.size := by have := (hA).lo.2.2.2.2.2; omega
  have z6x : C + 6 < wx.heap.size := by have := (hA).lo.2.2.2.2.2; omega
  have zkx : kb < wx.heap.size := by have := (hA).lo.2.2.2.2.2; have := (hA).lo.2.2.1; omega
  have HK := Lib.hid (And.intro hkp (And.intro hfr (And.intro hno (And.intro hI1 hI2))))
  clear hA hst hkp hfr hno hI1 hI2 HM
  go_upto_region 22 with (refine wpList_updateG rfl _ _ _ rfl (keys_int Try.underlying44) Try.underlying137 (C + 4) s2 nt (.bool true) rfl rfl rfl HA.out.m2 fun ob hM' => ?_)
  have HA5 := Lib.hid (HA.out.put2 hM')
  have hk5 : Keeps ((C + 1) :: (C + 2) :: (C + 4) :: rowB rv) w (setB wx (C + 4) ob) := by
    have h1 := HK.out.1
    exact ⟨h1.os, h1.tape, h1.output, by simpa [setB] using h1.size, fun k hk hx => (setB_other (fun e => hx (by rw [e]; simp))).trans (h1.block k hk hx)⟩
  have HK5 := Lib.hid hk5
  clear ckx clx cax cbx csx cnx flx z0x z1x z3x z5x z6x zkx
  clear hM' hk5
  generalize setB wx (C + 4) ob = w5 at HA5 HK5 ⊢
  go_wp2_with fail
  refine bodyPost_ret (results_tmp2 rfl _ _ _) rfl ?_
  exact ⟨_, _, nx, rfl, ⟨_, _, _, HA5.out, HK.out.2.2.2.1, by rw [← HNT.out]; exact HK.out.2.2.2.2.put HT.out.1 HD.out⟩, HK5.out, HK.out.2.1, by have := HNX.out.2; omega⟩

set_option maxRecDepth 100000 in
set_option maxHeartbeats 8000000 in
theorem sa_one (C B pb mb kb sb : Nat) (v gv lv : Value) (L G K : List Tt) (W : List (Int × Int)) (S1 S2 : List (Int × Value)) (rv : Value) (n : Nat) (xs : List Value) (t : Tt) (w : World) (h : SaysAt C B pb mb kb sb v gv lv L G K W S1 S2 rv n xs w) (hA : InvA L K S1) (hB : InvB L K S2) (ht : t ∈ L) (hn : n ≤ 60000) (h1 : ∃ i1 : Int, lookG S1 (idT L t : Int) (.int .i64 0) true = .tuple #[.int .i64 i1, .bool false]) (h2 : lookG S2 (idT L t : Int) (.bool false) false = .bool false) (h3 : lookG (seenL L K W) (idT L t : Int) (wyV (0, 0)) true = .tuple #[.agg #[.int .i64 0, .int .i64 0], .bool false]) (a : Int) (ha : (0 : Int) < a) (hM : ∀ w', Ext w w' → Calls Try.prog 70 #[.pointer (some ⟨kb, 0, none⟩), .int .i64 (idT L t)] w' fun e w'' => e = .returned (.tuple #[.int .i64 a, .int .i64 0, .bool false, .bool true]) ∧ Ext w' w'') (hd : derK K t = true) (D : Nat) (hD : D ≤ 30000) (hX : ∀ rv' n' w', SaysInv C B pb mb kb sb v gv lv L G K W rv' n' w' → n' ≤ n → Calls Try.prog 69 #[.int .i64 a, .pointer (some ⟨C + 3, 0, none⟩), .pointer (some ⟨C + 5, 0, none⟩), .pointer (some ⟨C, 0, none⟩), .pointer (some ⟨C + 6, 0, none⟩), .pointer (some ⟨C + 1, 0, none⟩)] w' (SaysPost C B pb mb kb sb v gv lv L G K W true D rv' n' w')) :
    Calls Try.prog 69 #[.int .i64 (idT L t), .pointer (some ⟨C + 3, 0, none⟩), .pointer (some ⟨C + 5, 0, none⟩), .pointer (some ⟨C, 0, none⟩), .pointer (some ⟨C + 6, 0, none⟩), .pointer (some ⟨C + 1, 0, none⟩)] w (SaysPost C B pb mb kb sb v gv lv L G K W true (D + 1) rv n w) := by
  have HI := Lib.hid (show SaysInv C B pb mb kb sb v gv lv L G K W rv n w from ⟨S1, S2, xs, h, hA, hB⟩)
  have HH := Lib.hid h
  have HT := Lib.hid (And.intro ht hn)
  obtain ⟨i1, h1⟩ : ∃ i1 : Int, lookG S1 (idT L t : Int) (.int .i64 0) true = .tuple #[.int .i64 i1, .bool false] := h1
  have HL1 := Lib.hid (fun w' (e : Ext w w') => by
    have h0 := look1 (h.ext e) (idT L t : Int) true
    rw [h1] at h0
    exact h0)
  have HL2 := Lib.hid (fun w' (e : Ext w w') => by
    have h0 := look2 (h.ext e) (idT L t : Int) false
    rw [h2] at h0
    exact h0)
  have HL3 := Lib.hid (fun w' (e : Ext w w') => by
    have h0 := look_seen (h.ext e).st.know (idT L t : Int)
    rw [h3] at h0
    exact h0)
  have hl1 := HL1.out _ (Ext.refl w)
  have HW := Lib.hid h.lo.2.2.2.2.2
  generalize hnt : (idT L t : Int) = nt at HL1 HL2 HL3 hl1 ⊢
  have HNT := Lib.hid hnt
  have ck := fun j => cell_of_row w _ j _ _ _ (h).hk
  have cl := fun j => cell_of_row w _ j _ _ _ (h).hl
  have ca := fun j => cell_of_row w _ j _ _ _ (h).ha
  have cb := fun j => cell_of_row w _ j _ _ _ (h).hb
  have cs := fun j => cell_of_row w _ j _ _ _ (h).hs
  simp only [sayV] at cs
  have cn := fun j => cell_of_row w _ j _ _ _ (h).st.know.head
  have fl := fun j => frozen_of_row w _ j _ _ (h).hl
  have z0 : C < w.heap.size := by have := (h).lo.2.2.2.2.2; omega
  have z1 : C + 1 < w.heap.size := by have := (h).lo.2.2.2.2.2; omega
  have z3 : C + 3 < w.heap.size := by have := (h).lo.2.2.2.2.2; omega
  have z5 : C + 5 < w.heap.size := by have := (h).lo.2.2.2.2.2; omega
  have z6 : C + 6 < w.heap.size := by have := (h).lo.2.2.2.2.2; omega
  have zk : kb < w.heap.size := by have := (h).lo.2.2.2.2.2; have := (h).lo.2.2.1; omega
  rw [hnt] at hM
  have HMK := Lib.hid hM
  clear hM
  have HD := Lib.hid hd
  have HX := Lib.hid hX
  have HDD := Lib.hid hD
  clear hd hX hD
  clear hnt h hA hB ht hn h1 h2 h3
  go_enter Try.func69, Try.ntmps69
  go_upto_region 5 with fail
  have e1 : Ext w (w.alloc (.cells #[.int .i64 0, .int .i64 0, .int .i64 0, .int .i64 nt] 141)) := (Ext.refl w).alloc _
  have HR1 := Lib.hid (heap_new (w := w) (o := .cells #[.int .i64 0, .int .i64 0, .int .i64 0, .int .i64 nt] 141) rfl)
  have HE1 := Lib.hid e1
  clear e1 hl1
  clear ck cl ca cb cs cn fl z0 z1 z3 z5 z6 zk
  generalize hw1 : w.alloc (.cells #[.int .i64 0, .int .i64 0, .int .i64 0, .int .i64 nt] 141) = w1 at HR1 HE1 ⊢
  clear hw1
  have hl2 := HL2.out _ HE1.out
  have hl3 := HL3.out _ HE1.out
  have ck := fun j => cell_of_row w1 _ j _ _ _ ((HH.out.ext HE1.out)).hk
  have cl := fun j => cell_of_row w1 _ j _ _ _ ((HH.out.ext HE1.out)).hl
  have ca := fun j => cell_of_row w1 _ j _ _ _ ((HH.out.ext HE1.out)).ha
  have cb := fun j => cell_of_row w1 _ j _ _ _ ((HH.out.ext HE1.out)).hb
  have cs := fun j => cell_of_row w1 _ j _ _ _ ((HH.out.ext HE1.out)).hs
  simp only [sayV] at cs
  have cn := fun j => cell_of_row w1 _ j _ _ _ ((HH.out.ext HE1.out)).st.know.head
  have fl := fun j => frozen_of_row w1 _ j _ _ ((HH.out.ext HE1.out)).hl
  have z0 : C < w1.heap.size := by have := ((HH.out.ext HE1.out)).lo.2.2.2.2.2; omega
  have z1 : C + 1 < w1.heap.size := by have := ((HH.out.ext HE1.out)).lo.2.2.2.2.2; omega
  have z3 : C + 3 < w1.heap.size := by have := ((HH.out.ext HE1.out)).lo.2.2.2.2.2; omega
  have z5 : C + 5 < w1.heap.size := by have := ((HH.out.ext HE1.out)).lo.2.2.2.2.2; omega
  have z6 : C + 6 < w1.heap.size := by have := ((HH.out.ext HE1.out)).lo.2.2.2.2.2; omega
  have zk : kb < w1.heap.size := by have := ((HH.out.ext HE1.out)).lo.2.2.2.2.2; have := ((HH.out.ext HE1.out)).lo.2.2.1; omega
  have cr := fun j => cell_of_row w1 _ j _ _ _ HR1.out
  have fr := fun j => frozen_of_row w1 _ j _ _ HR1.out
  have zr : w.heap.size < w1.heap.size := (Array.getElem?_eq_some_iff.1 HR1.out).1
  go_wp2_with fail
  refine (HMK.out _ (HE1.out.alloc (.cells #[.int .i64 0, .int .i64 0] 91))).mono ?_
  rintro e w2 ⟨rfl, hx2⟩
  have e2 := (HE1.out.alloc (.cells #[.int .i64 0, .int .i64 0] 91)).trans hx2
  have hr2 := heap_ext HR1.out (((Ext.refl w1).alloc (.cells #[.int .i64 0, .int .i64 0] 91)).trans hx2)
  have HM := Lib.hid (SaysMid.start HI.out HW.out e2 hr2)
  clear ck cl ca cb cs cn fl z0 z1 z3 z5 z6 zk
  clear cr fr zr hl2 hl3 hx2 e2
  have cr2 := fun j => cell_of_row w2 _ j _ _ _ hr2
  have fr2 := fun j => frozen_of_row w2 _ j _ _ hr2
  have zr2 := (Array.getElem?_eq_some_iff.1 hr2).1
  clear hr2
  go_upto_region 16 with fail
  replace HM := Lib.hid (HM.out.set HW.out 0 (by decide) 5)
  clear cr2 fr2 zr2
  generalize w2.setCell ⟨w.heap.size, 0, none⟩ (.int .i64 5) = w3 at HM ⊢
  obtain ⟨⟨s1, s2, ys, hA, hI1, hI2⟩, ⟨r3, a3, b3, hrow⟩, _, _, _⟩ := id HM.out
  have cky := fun j => cell_of_row w3 _ j _ _ _ (hA).hk
  have cly := fun j => cell_of_row w3 _ j _ _ _ (hA).hl
  have cay := fun j => cell_of_row w3 _ j _ _ _ (hA).ha
  have cby := fun j => cell_of_row w3 _ j _ _ _ (hA).hb
  have csy := fun j => cell_of_row w3 _ j _ _ _ (hA).hs
  simp only [sayV] at csy
  have cny := fun j => cell_of_row w3 _ j _ _ _ (hA).st.know.head
  have fly := fun j => frozen_of_row w3 _ j _ _ (hA).hl
  have z0y : C < w3.heap.size := by have := (hA).lo.2.2.2.2.2; omega
  have z1y : C + 1 < w3.heap.size := by have := (hA).lo.2.2.2.2.2; omega
  have z3y : C + 3 < w3.heap.size := by have := (hA).lo.2.2.2.2.2; omega
  have z5y : C + 5 < w3.heap.size := by have := (hA).lo.2.2.2.2.2; omega
  have z6y : C + 6 < w3.heap.size := by have := (hA).lo.2.2.2.2.2; omega
  have zky : kb < w3.heap.size := by have := (hA).lo.2.2.2.2.2; have := (hA).lo.2.2.1; omega
  have HA := Lib.hid (And.intro hA (And.intro hI1 hI2))
  have cr3 := fun j => cell_of_row w3 _ j _ _ _ hrow
  have fr3 := fun j => frozen_of_row w3 _ j _ _ hrow
  have zr3 := (Array.getElem?_eq_some_iff.1 hrow).1
  clear hA hI1 hI2 hrow
  go_wp2_with fail
  refine (HX.out rv n _ ⟨s1, s2, ys, HA.out.1, HA.out.2.1, HA.out.2.2⟩ (by omega)).mono ?_
  intro e w4 hp
  obtain ⟨iX, rv4, n4, rfl, hm4, hn4⟩ := SaysMid.call HM.out HW.out hp
  clear cky cly cay cby csy cny fly z0y z1y z3y z5y z6y zky
  clear hp cr3 fr3 zr3 HA HM
  obtain ⟨_, ⟨r4, a4, b4, hrow⟩, _, _, _⟩ := id hm4
  have cr4 := fun j => cell_of_row w4 _ j _ _ _ hrow
  have fr4 := fun j => frozen_of_row w4 _ j _ _ hrow
  have zr4 := (Array.getElem?_eq_some_iff.1 hrow).1
  have HM := Lib.hid (hm4.set HW.out 1 (by decide) iX)
  have HN4 := Lib.hid hn4
  clear hrow hm4 hn4
  go_upto_region 20 with fail
  clear cr4 fr4 zr4
  refine wp_forget (fun wx => Hid (∃ (rvx : Value) (nx : Nat), SaysMid C B pb mb kb sb v gv lv L G K W rv nt w rvx nx wx ∧ nx ≤ 100000 ∧ nx + 1 ≤ n + (D + 1))) (Lib.hid ⟨_, _, HM.out, by have := HT.out; have := HN4.out; have := HDD.out; omega, by have := HT.out; have := HN4.out; have := HDD.out; omega⟩) ?_
  clear HM
  intro wx HM
  obtain ⟨rvx, nx, hmid, hnx⟩ := HM.out
  clear HM
  have HM := Lib.hid hmid
  have HNX := Lib.hid hnx
  clear hmid hnx
  obtain ⟨⟨s1, s2, ys, hA, hI1, hI2⟩, hst, hkp, hfr, hno⟩ := HM.out
  obtain ⟨r0, a0, b0, hrow⟩ := hst
  obtain ⟨ar, cr, hrv, _, _⟩ := own_view hA.row
  subst hrv
  have HA := Lib.hid hA
  have HRW := Lib.hid hrow
  have ckx := fun j => cell_of_row wx _ j _ _ _ (hA).hk
  have clx := fun j => cell_of_row wx _ j _ _ _ (hA).hl
  have cax := fun j => cell_of_row wx _ j _ _ _ (hA).ha
  have cbx := fun j => cell_of_row wx _ j _ _ _ (hA).hb
  have csx := fun j => cell_of_row wx _ j _ _ _ (hA).hs
  simp only [sayV] at csx
  have cnx := fun j => cell_of_row wx _ j _ _ _ (hA).st.know.head
  have flx := fun j => frozen_of_row wx _ j _ _ (hA).hl
  have z0x : C < wx.heap.size := by have := (hA).lo.2.2.2.2.2; omega
  have z1x : C + 1 < wx.heap.size := by have := (hA).lo.2.2.2.2.2; omega
  have z3x : C + 3 < wx.heap.size := by have := (hA).lo.2.2.2.2.2; omega
  have z5x : C + 5 < wx.heap.size := by have := (hA).lo.2.2.2.2.2; omega
  have z6x : C + 6 < wx.heap.size := by have := (hA).lo.2.2.2.2.2; omega
  have zkx : kb < wx.heap.size := by have := (hA).lo.2.2.2.2.2; have := (hA).lo.2.2.1; omega
  have HK := Lib.hid (And.intro hkp (And.intro hfr (And.intro hno (And.intro hI1 hI2))))
  have lrow := (Array.getElem?_eq_some_iff.1 hrow).1
  clear hA hrow hkp hfr hno hI1 hI2 HM
  go_upto_region 24 with (refine wpList_updateG rfl _ _ _ rfl (keys_int Try.underlying44) Try.underlying136 (C + 2) s1 nt (.int .i64 (nx : Int)) rfl rfl rfl HA.out.m1 fun ob hM' => ?_)
  have HA5 := Lib.hid (HA.out.put1 hM')
  have HR5 := Lib.hid ((setB_other (w := wx) (ob := ob) (show w.heap.size ≠ C + 2 by have := HW.out; omega)).trans HRW.out)
  have hk5 : Keeps ((C + 1) :: (C + 2) :: (C + 4) :: rowB rv) w (setB wx (C + 2) ob) := by
    have h1 := HK.out.1
    exact ⟨h1.os, h1.tape, h1.output, by simpa [setB] using h1.size, fun k hk hx => (setB_other (fun e => hx (by rw [e]; simp))).trans (h1.block k hk hx)⟩
  have HK5 := Lib.hid hk5
  have hz5 : wx.heap.size = (setB wx (C + 2) ob).heap.size := by simp [setB]
  have HZ5 := Lib.hid hz5
  clear ckx clx cax cbx csx cnx flx z0x z1x z3x z5x z6x zkx
  clear lrow hM' hk5 hz5
  generalize setB wx (C + 2) ob = w5 at HA5 HR5 HK5 HZ5 ⊢
  have ck5 := fun j => cell_of_row w5 _ j _ _ _ (HA5.out).hk
  have cl5 := fun j => cell_of_row w5 _ j _ _ _ (HA5.out).hl
  have ca5 := fun j => cell_of_row w5 _ j _ _ _ (HA5.out).ha
  have cb5 := fun j => cell_of_row w5 _ j _ _ _ (HA5.out).hb
  have cs5 := fun j => cell_of_row w5 _ j _ _ _ (HA5.out).hs
  simp only [sayV] at cs5
  have cn5 := fun j => cell_of_row w5 _ j _ _ _ (HA5.out).st.know.head
  have fl5 := fun j => frozen_of_row w5 _ j _ _ (HA5.out).hl
  have z05 : C < w5.heap.size := by have := (HA5.out).lo.2.2.2.2.2; omega
  have z15 : C + 1 < w5.heap.size := by have := (HA5.out).lo.2.2.2.2.2; omega
  have z35 : C + 3 < w5.heap.size := by have := (HA5.out).lo.2.2.2.2.2; omega
  have z55 : C + 5 < w5.heap.size := by have := (HA5.out).lo.2.2.2.2.2; omega
  have z65 : C + 6 < w5.heap.size := by have := (HA5.out).lo.2.2.2.2.2; omega
  have zk5 : kb < w5.heap.size := by have := (HA5.out).lo.2.2.2.2.2; have := (HA5.out).lo.2.2.1; omega
  have cr5 := fun j => cell_of_row w5 _ j _ _ _ HR5.out
  have lr5 := (Array.getElem?_eq_some_iff.1 HR5.out).1
  obtain ⟨ti0, hi, hz0, hz1, hz2⟩ := info_parts info_step
  go_wp2_with (at_builtin; refine unHd ?_)
  unfold Hd2
  have e6 : Ext w5 (w5.alloc (.cells #[.int .i64 r0, .int .i64 a0, .int .i64 b0, .int .i64 nt] 141)) := (Ext.refl _).alloc _
  refine wpList_app5 (C + 7) 93 141 ti0 _ 4 32 Try.underlying93 hi hz0 hz1 hz2 rfl (by decide) rfl _ _ rfl _ nx _ rfl (own_ext HA5.out.row e6) (Nat.le_trans HA5.out.lo.2.2.2.2.2 e6.size) w5.heap.size 1 1 #[.int .i64 r0, .int .i64 a0, .int .i64 b0, .int .i64 nt] (by decide) rfl (heap_new rfl) rfl (by simp [Value.oneCell']) (by unfold maxLen; have := HNX.out.1; omega) (by have := HNX.out.1; omega) ?_
  intro v2 w2 hown2 hg2 hr2
  replace hg2 : (w5.alloc (.cells #[.int .i64 r0, .int .i64 a0, .int .i64 b0, .int .i64 nt] 141)).grownBy w2 (Value.slice ar nx cr).ownBlock := hg2
  replace hr2 : ∀ k ∈ rowB v2, k ∈ rowB (.slice ar nx cr) ∨ (w5.alloc (.cells #[.int .i64 r0, .int .i64 a0, .int .i64 b0, .int .i64 nt] 141)).heap.size ≤ k := hr2
  have blk : ∀ k, k < w5.heap.size → k ∉ rowB (.slice ar nx cr) → w2.heap[k]? = w5.heap[k]? := fun k hk hn => (hg2.block k (Nat.lt_of_lt_of_le hk e6.size) (by
    intro e
    apply hn
    unfold rowB
    first | (rw [e]; simp) | (rw [← e]; simp))).trans (e6.block k hk)
  obtain ⟨g2, cap3, rfl⟩ : ∃ g2 cap3, v2 = .slice (some ⟨g2, 0, none⟩) (nx + 1) cap3 := by
    rcases hown2.2 with ⟨_, h0⟩ | ⟨g2, cap2, _, h0, _⟩
    · omega
    · exact ⟨g2, cap2, h0⟩
  have hrl := row_lo HA5.out.row
  have n1 : ∀ k, k < C + 7 → k ∉ rowB (.slice ar nx cr) := fun k hk hm => by have := hrl k hm; omega
  have hl2 := (blk (C + 1) z15 (n1 _ (by omega))).trans HA5.out.hl
  have hsz : w5.heap.size ≤ w2.heap.size := Nat.le_trans e6.size hg2.size
  have HA7 := Lib.hid (HA5.out.app blk hsz hown2)
  have HF7 : Hid (∀ g ∈ rowB (.slice (some ⟨g2, 0, none⟩) (nx + 1) cap3), g ∈ rowB rv ∨ w.heap.size ≤ g) := Lib.hid (fun g hg => by
    rcases hr2 g hg with e | e
    · exact HK.out.2.1 g e
    · have := e6.size; have := HK5.out.size; exact .inr (by omega))
  have HK7 : Hid (Keeps ((C + 1) :: (C + 2) :: (C + 4) :: rowB rv) w (w2.setCell ⟨C + 1, 0, none⟩ (.slice (some ⟨g2, 0, none⟩) (nx + 1) cap3))) := Lib.hid (by
    have k5 := HK5.out
    refine Keeps.setCell (X := (C + 1) :: (C + 2) :: (C + 4) :: rowB rv) (a := w) (b := w2) ⟨(hg2.os.trans e6.os).trans k5.os, (hg2.tape.trans e6.tape).trans k5.tape, (hg2.output.trans e6.output).trans k5.output, Nat.le_trans k5.size hsz, fun k hk hx => ?_⟩ (.inl (.head _)) 0 _
    refine (blk k (Nat.lt_of_lt_of_le hk k5.size) fun hm => hx ?_).trans (k5.block k hk hx)
    rcases HK.out.2.1 k hm with e | e
    · simp [e]
    · omega)
  have cl2 := fun j => cell_of_row w2 _ j _ _ _ hl2
  have fl2 := fun j => frozen_of_row w2 _ j _ _ hl2
  have z2 : C + 1 < w2.heap.size := (Array.getElem?_eq_some_iff.1 hl2).1
  clear ck5 cl5 ca5 cb5 cs5 cn5 fl5 z05 z15 z35 z55 z65 zk5
  clear cr5 lr5 hown2 hg2 hr2 blk hrl n1 hl2 hsz e6
  go_upto_region 25 with fail
  generalize w2.setCell ⟨C + 1, 0, none⟩ (.slice (some ⟨g2, 0, none⟩) (nx + 1) cap3) = w7 at HA7 HK7 ⊢
  clear cl2 fl2 z2
  have ck7 := fun j => cell_of_row w7 _ j _ _ _ (HA7.out).hk
  have cl7 := fun j => cell_of_row w7 _ j _ _ _ (HA7.out).hl
  have ca7 := fun j => cell_of_row w7 _ j _ _ _ (HA7.out).ha
  have cb7 := fun j => cell_of_row w7 _ j _ _ _ (HA7.out).hb
  have cs7 := fun j => cell_of_row w7 _ j _ _ _ (HA7.out).hs
  simp only [sayV] at cs7
  have cn7 := fun j => cell_of_row w7 _ j _ _ _ (HA7.out).st.know.head
  have fl7 := fun j => frozen_of_row w7 _ j _ _ (HA7.out).hl
  have z07 : C < w7.heap.size := by have := (HA7.out).lo.2.2.2.2.2; omega
  have z17 : C + 1 < w7.heap.size := by have := (HA7.out).lo.2.2.2.2.2; omega
  have z37 : C + 3 < w7.heap.size := by have := (HA7.out).lo.2.2.2.2.2; omega
  have z57 : C + 5 < w7.heap.size := by have := (HA7.out).lo.2.2.2.2.2; omega
  have z67 : C + 6 < w7.heap.size := by have := (HA7.out).lo.2.2.2.2.2; omega
  have zk7 : kb < w7.heap.size := by have := (HA7.out).lo.2.2.2.2.2; have := (HA7.out).lo.2.2.1; omega
  have hl7 := look1 HA7.out nt false
  have hlg : lookG (putM s1 nt (.int .i64 (nx : Int))) nt (.int .i64 0) false = .int .i64 (nx : Int) := by
    unfold lookG
    rw [getM_put, if_pos rfl]
    rfl
  rw [hlg] at hl7
  clear hlg
  go_wp2_with fail
  refine bodyPost_ret (results_tmp2 rfl _ _ _) rfl ?_
  exact ⟨_, _, nx + 1, rfl, ⟨_, _, _, HA7.out, by rw [← HNT.out]; exact HK.out.2.2.2.1.put HT.out.1 HD.out, HK.out.2.2.2.2⟩, HK7.out, HF7.out, HNX.out.2⟩

set_option maxRecDepth 100000 in
set_option maxHeartbeats 8000000 in
theorem sa_two (C B pb mb kb sb : Nat) (v gv lv : Value) (L G K : List Tt) (W : List (Int × Int)) (S1 S2 : List (Int × Value)) (rv : Value) (n : Nat) (xs : List Value) (t : Tt) (w : World) (h : SaysAt C B pb mb kb sb v gv lv L G K W S1 S2 rv n xs w) (hA : InvA L K S1) (hB : InvB L K S2) (ht : t ∈ L) (hn : n ≤ 60000) (h1 : ∃ i1 : Int, lookG S1 (idT L t : Int) (.int .i64 0) true = .tuple #[.int .i64 i1, .bool false]) (h2 : lookG S2 (idT L t : Int) (.bool false) false = .bool false) (h3 : lookG (seenL L K W) (idT L t : Int) (wyV (0, 0)) true = .tuple #[.agg #[.int .i64 0, .int .i64 0], .bool false]) (a b : Int) (ha : (0 : Int) < a) (hb : (0 : Int) < b) (hM : ∀ w', Ext w w' → Calls Try.prog 70 #[.pointer (some ⟨kb, 0, none⟩), .int .i64 (idT L t)] w' fun e w'' => e = .returned (.tuple #[.int .i64 a, .int .i64 b, .bool false, .bool true]) ∧ Ext w' w'') (hd : derK K t = true) (D E : Nat) (hD : D + E ≤ 30000) (hX : ∀ rv' n' w', SaysInv C B pb mb kb sb v gv lv L G K W rv' n' w' → n' ≤ n → Calls Try.prog 69 #[.int .i64 a, .pointer (some ⟨C + 3, 0, none⟩), .pointer (some ⟨C + 5, 0, none⟩), .pointer (some ⟨C, 0, none⟩), .pointer (some ⟨C + 6, 0, none⟩), .pointer (some ⟨C + 1, 0, none⟩)] w' (SaysPost C B pb mb kb sb v gv lv L G K W true D rv' n' w')) (hY : ∀ rv' n' w', SaysInv C B pb mb kb sb v gv lv L G K W rv' n' w' → n' ≤ n + D → Calls Try.prog 69 #[.int .i64 b, .pointer (some ⟨C + 3, 0, none⟩), .pointer (some ⟨C + 5, 0, none⟩), .pointer (some ⟨C, 0, none⟩), .pointer (some ⟨C + 6, 0, none⟩), .pointer (some ⟨C + 1, 0, none⟩)] w' (SaysPost C B pb mb kb sb v gv lv L G K W true E rv' n' w')) :
    Calls Try.prog 69 #[.int .i64 (idT L t), .pointer (some ⟨C + 3, 0, none⟩), .pointer (some ⟨C + 5, 0, none⟩), .pointer (some ⟨C, 0, none⟩), .pointer (some ⟨C + 6, 0, none⟩), .pointer (some ⟨C + 1, 0, none⟩)] w (SaysPost C B pb mb kb sb v gv lv L G K W true (D + E + 1) rv n w) := by
  have HI := Lib.hid (show SaysInv C B pb mb kb sb v gv lv L G K W rv n w from ⟨S1, S2, xs, h, hA, hB⟩)
  have HH := Lib.hid h
  have HT := Lib.hid (And.intro ht hn)
  obtain ⟨i1, h1⟩ : ∃ i1 : Int, lookG S1 (idT L t : Int) (.int .i64 0) true = .tuple #[.int .i64 i1, .bool false] := h1
  have HL1 := Lib.hid (fun w' (e : Ext w w') => by
    have h0 := look1 (h.ext e) (idT L t : Int) true
    rw [h1] at h0
    exact h0)
  have HL2 := Lib.hid (fun w' (e : Ext w w') => by
    have h0 := look2 (h.ext e) (idT L t : Int) false
    rw [h2] at h0
    exact h0)
  have HL3 := Lib.hid (fun w' (e : Ext w w') => by
    have h0 := look_seen (h.ext e).st.know (idT L t : Int)
    rw [h3] at h0
    exact h0)
  have hl1 := HL1.out _ (Ext.refl w)
  have HW := Lib.hid h.lo.2.2.2.2.2
  generalize hnt : (idT L t : Int) = nt at HL1 HL2 HL3 hl1 ⊢
  have HNT := Lib.hid hnt
  have ck := fun j => cell_of_row w _ j _ _ _ (h).hk
  have cl := fun j => cell_of_row w _ j _ _ _ (h).hl
  have ca := fun j => cell_of_row w _ j _ _ _ (h).ha
  have cb := fun j => cell_of_row w _ j _ _ _ (h).hb
  have cs := fun j => cell_of_row w _ j _ _ _ (h).hs
  simp only [sayV] at cs
  have cn := fun j => cell_of_row w _ j _ _ _ (h).st.know.head
  have fl := fun j => frozen_of_row w _ j _ _ (h).hl
  have z0 : C < w.heap.size := by have := (h).lo.2.2.2.2.2; omega
  have z1 : C + 1 < w.heap.size := by have := (h).lo.2.2.2.2.2; omega
  have z3 : C + 3 < w.heap.size := by have := (h).lo.2.2.2.2.2; omega
  have z5 : C + 5 < w.heap.size := by have := (h).lo.2.2.2.2.2; omega
  have z6 : C + 6 < w.heap.size := by have := (h).lo.2.2.2.2.2; omega
  have zk : kb < w.heap.size := by have := (h).lo.2.2.2.2.2; have := (h).lo.2.2.1; omega
  rw [hnt] at hM
  have HMK := Lib.hid hM
  clear hM
  have HD := Lib.hid hd
  have HX := Lib.hid hX
  have HY := Lib.hid hY
  have HDD := Lib.hid hD
  clear hd hX hY hD
  clear hnt h hA hB ht hn h1 h2 h3
  go_enter Try.func69, Try.ntmps69
  go_upto_region 5 with fail
  have e1 : Ext w (w.alloc (.cells #[.int .i64 0, .int .i64 0, .int .i64 0, .int .i64 nt] 141)) := (Ext.refl w).alloc _
  have HR1 := Lib.hid (heap_new (w := w) (o := .cells #[.int .i64 0, .int .i64 0, .int .i64 0, .int .i64 nt] 141) rfl)
  have HE1 := Lib.hid e1
  clear e1 hl1
  clear ck cl ca cb cs cn fl z0 z1 z3 z5 z6 zk
  generalize hw1 : w.alloc (.cells #[.int .i64 0, .int .i64 0, .int .i64 0, .int .i64 nt] 141) = w1 at HR1 HE1 ⊢
  clear hw1
  have hl2 := HL2.out _ HE1.out
  have hl3 := HL3.out _ HE1.out
  have ck := fun j => cell_of_row w1 _ j _ _ _ ((HH.out.ext HE1.out)).hk
  have cl := fun j => cell_of_row w1 _ j _ _ _ ((HH.out.ext HE1.out)).hl
  have ca := fun j => cell_of_row w1 _ j _ _ _ ((HH.out.ext HE1.out)).ha
  have cb := fun j => cell_of_row w1 _ j _ _ _ ((HH.out.ext HE1.out)).hb
  have cs := fun j => cell_of_row w1 _ j _ _ _ ((HH.out.ext HE1.out)).hs
  simp only [sayV] at cs
  have cn := fun j => cell_of_row w1 _ j _ _ _ ((HH.out.ext HE1.out)).st.know.head
  have fl := fun j => frozen_of_row w1 _ j _ _ ((HH.out.ext HE1.out)).hl
  have z0 : C < w1.heap.size := by have := ((HH.out.ext HE1.out)).lo.2.2.2.2.2; omega
  have z1 : C + 1 < w1.heap.size := by have := ((HH.out.ext HE1.out)).lo.2.2.2.2.2; omega
  have z3 : C + 3 < w1.heap.size := by have := ((HH.out.ext HE1.out)).lo.2.2.2.2.2; omega
  have z5 : C + 5 < w1.heap.size := by have := ((HH.out.ext HE1.out)).lo.2.2.2.2.2; omega
  have z6 : C + 6 < w1.heap.size := by have := ((HH.out.ext HE1.out)).lo.2.2.2.2.2; omega
  have zk : kb < w1.heap.size := by have := ((HH.out.ext HE1.out)).lo.2.2.2.2.2; have := ((HH.out.ext HE1.out)).lo.2.2.1; omega
  have cr := fun j => cell_of_row w1 _ j _ _ _ HR1.out
  have fr := fun j => frozen_of_row w1 _ j _ _ HR1.out
  have zr : w.heap.size < w1.heap.size := (Array.getElem?_eq_some_iff.1 HR1.out).1
  go_wp2_with fail
  refine (HMK.out _ (HE1.out.alloc (.cells #[.int .i64 0, .int .i64 0] 91))).mono ?_
  rintro e w2 ⟨rfl, hx2⟩
  have e2 := (HE1.out.alloc (.cells #[.int .i64 0, .int .i64 0] 91)).trans hx2
  have hr2 := heap_ext HR1.out (((Ext.refl w1).alloc (.cells #[.int .i64 0, .int .i64 0] 91)).trans hx2)
  have HM := Lib.hid (SaysMid.start HI.out HW.out e2 hr2)
  clear ck cl ca cb cs cn fl z0 z1 z3 z5 z6 zk
  clear cr fr zr hl2 hl3 hx2 e2
  have cr2 := fun j => cell_of_row w2 _ j _ _ _ hr2
  have fr2 := fun j => frozen_of_row w2 _ j _ _ hr2
  have zr2 := (Array.getElem?_eq_some_iff.1 hr2).1
  clear hr2
  go_upto_region 16 with fail
  replace HM := Lib.hid (HM.out.set HW.out 0 (by decide) 5)
  clear cr2 fr2 zr2
  generalize w2.setCell ⟨w.heap.size, 0, none⟩ (.int .i64 5) = w3 at HM ⊢
  obtain ⟨⟨s1, s2, ys, hA, hI1, hI2⟩, ⟨r3, a3, b3, hrow⟩, _, _, _⟩ := id HM.out
  have cky := fun j => cell_of_row w3 _ j _ _ _ (hA).hk
  have cly := fun j => cell_of_row w3 _ j _ _ _ (hA).hl
  have cay := fun j => cell_of_row w3 _ j _ _ _ (hA).ha
  have cby := fun j => cell_of_row w3 _ j _ _ _ (hA).hb
  have csy := fun j => cell_of_row w3 _ j _ _ _ (hA).hs
  simp only [sayV] at csy
  have cny := fun j => cell_of_row w3 _ j _ _ _ (hA).st.know.head
  have fly := fun j => frozen_of_row w3 _ j _ _ (hA).hl
  have z0y : C < w3.heap.size := by have := (hA).lo.2.2.2.2.2; omega
  have z1y : C + 1 < w3.heap.size := by have := (hA).lo.2.2.2.2.2; omega
  have z3y : C + 3 < w3.heap.size := by have := (hA).lo.2.2.2.2.2; omega
  have z5y : C + 5 < w3.heap.size := by have := (hA).lo.2.2.2.2.2; omega
  have z6y : C + 6 < w3.heap.size := by have := (hA).lo.2.2.2.2.2; omega
  have zky : kb < w3.heap.size := by have := (hA).lo.2.2.2.2.2; have := (hA).lo.2.2.1; omega
  have HA := Lib.hid (And.intro hA (And.intro hI1 hI2))
  have cr3 := fun j => cell_of_row w3 _ j _ _ _ hrow
  have fr3 := fun j => frozen_of_row w3 _ j _ _ hrow
  have zr3 := (Array.getElem?_eq_some_iff.1 hrow).1
  clear hA hI1 hI2 hrow
  go_wp2_with fail
  refine (HX.out rv n _ ⟨s1, s2, ys, HA.out.1, HA.out.2.1, HA.out.2.2⟩ (by omega)).mono ?_
  intro e w4 hp
  obtain ⟨iX, rv4, n4, rfl, hm4, hn4⟩ := SaysMid.call HM.out HW.out hp
  clear cky cly cay cby csy cny fly z0y z1y z3y z5y z6y zky
  clear hp cr3 fr3 zr3 HA HM
  obtain ⟨_, ⟨r4, a4, b4, hrow⟩, _, _, _⟩ := id hm4
  have cr4 := fun j => cell_of_row w4 _ j _ _ _ hrow
  have fr4 := fun j => frozen_of_row w4 _ j _ _ hrow
  have zr4 := (Array.getElem?_eq_some_iff.1 hrow).1
  have HM := Lib.hid (hm4.set HW.out 1 (by decide) iX)
  have HN4 := Lib.hid hn4
  clear hrow hm4 hn4
  go_upto_region 18 with fail
  clear cr4 fr4 zr4
  generalize w4.setCell ⟨w.heap.size, 1, none⟩ (.int .i64 iX) = w5 at HM ⊢
  obtain ⟨⟨s1, s2, ys, hA, hI1, hI2⟩, ⟨r3, a3, b3, hrow⟩, _, _, _⟩ := id HM.out
  have cky := fun j => cell_of_row w5 _ j _ _ _ (hA).hk
  have cly := fun j => cell_of_row w5 _ j _ _ _ (hA).hl
  have cay := fun j => cell_of_row w5 _ j _ _ _ (hA).ha
  have cby := fun j => cell_of_row w5 _ j _ _ _ (hA).hb
  have csy := fun j => cell_of_row w5 _ j _ _ _ (hA).hs
  simp only [sayV] at csy
  have cny := fun j => cell_of_row w5 _ j _ _ _ (hA).st.know.head
  have fly := fun j => frozen_of_row w5 _ j _ _ (hA).hl
  have z0y : C < w5.heap.size := by have := (hA).lo.2.2.2.2.2; omega
  have z1y : C + 1 < w5.heap.size := by have := (hA).lo.2.2.2.2.2; omega
  have z3y : C + 3 < w5.heap.size := by have := (hA).lo.2.2.2.2.2; omega
  have z5y : C + 5 < w5.heap.size := by have := (hA).lo.2.2.2.2.2; omega
  have z6y : C + 6 < w5.heap.size := by have := (hA).lo.2.2.2.2.2; omega
  have zky : kb < w5.heap.size := by have := (hA).lo.2.2.2.2.2; have := (hA).lo.2.2.1; omega
  have HA := Lib.hid (And.intro hA (And.intro hI1 hI2))
  have cr3 := fun j => cell_of_row w5 _ j _ _ _ hrow
  have fr3 := fun j => frozen_of_row w5 _ j _ _ hrow
  have zr3 := (Array.getElem?_eq_some_iff.1 hrow).1
  clear hA hI1 hI2 hrow
  go_wp2_with fail
  refine (HY.out rv4 n4 _ ⟨s1, s2, ys, HA.out.1, HA.out.2.1, HA.out.2.2⟩ (by exact HN4.out)).mono ?_
  intro e w6 hp
  obtain ⟨iY, rv6, n6, rfl, hm4, hn4⟩ := SaysMid.call HM.out HW.out hp
  clear cky cly cay cby csy cny fly z0y z1y z3y z5y z6y zky
  clear hp cr3 fr3 zr3 HA HM
  obtain ⟨_, ⟨r4, a4, b4, hrow⟩, _, _, _⟩ := id hm4
  have cr4 := fun j => cell_of_row w6 _ j _ _ _ hrow
  have fr4 := fun j => frozen_of_row w6 _ j _ _ hrow
  have zr4 := (Array.getElem?_eq_some_iff.1 hrow).1
  have HM := Lib.hid (hm4.set HW.out 2 (by decide) iY)
  have HN6 := Lib.hid hn4
  clear hrow hm4 hn4
  go_upto_region 20 with fail
  clear cr4 fr4 zr4
  refine wp_forget (fun wx => Hid (∃ (rvx : Value) (nx : Nat), SaysMid C B pb mb kb sb v gv lv L G K W rv nt w rvx nx wx ∧ nx ≤ 100000 ∧ nx + 1 ≤ n + (D + E + 1))) (Lib.hid ⟨_, _, HM.out, by have := HT.out; have := HN4.out; have := HN6.out; have := HDD.out; omega, by have := HT.out; have := HN4.out; have := HN6.out; have := HDD.out; omega⟩) ?_
  clear HM
  intro wx HM
  obtain ⟨rvx, nx, hmid, hnx⟩ := HM.out
  clear HM
  have HM := Lib.hid hmid
  have HNX := Lib.hid hnx
  clear hmid hnx
  obtain ⟨⟨s1, s2, ys, hA, hI1, hI2⟩, hst, hkp, hfr, hno⟩ := HM.out
  obtain ⟨r0, a0, b0, hrow⟩ := hst
  obtain ⟨ar, cr, hrv, _, _⟩ := own_view hA.row
  subst hrv
  have HA := Lib.hid hA
  have HRW := Lib.hid hrow
  have ckx := fun j => cell_of_row wx _ j _ _ _ (hA).hk
  have clx := fun j => cell_of_row wx _ j _ _ _ (hA).hl
  have cax := fun j => cell_of_row wx _ j _ _ _ (hA).ha
  have cbx := fun j => cell_of_row wx _ j _ _ _ (hA).hb
  have csx := fun j => cell_of_row wx _ j _ _ _ (hA).hs
  simp only [sayV] at csx
  have cnx := fun j => cell_of_row wx _ j _ _ _ (hA).st.know.head
  have flx := fun j => frozen_of_row wx _ j _ _ (hA).hl
  have z0x : C < wx.heap.size := by have := (hA).lo.2.2.2.2.2; omega
  have z1x : C + 1 < wx.heap.size := by have := (hA).lo.2.2.2.2.2; omega
  have z3x : C + 3 < wx.heap.size := by have := (hA).lo.2.2.2.2.2; omega
  have z5x : C + 5 < wx.heap.size := by have := (hA).lo.2.2.2.2.2; omega
  have z6x : C + 6 < wx.heap.size := by have := (hA).lo.2.2.2.2.2; omega
  have zkx : kb < wx.heap.size := by have := (hA).lo.2.2.2.2.2; have := (hA).lo.2.2.1; omega
  have HK := Lib.hid (And.intro hkp (And.intro hfr (And.intro hno (And.intro hI1 hI2))))
  have lrow := (Array.getElem?_eq_some_iff.1 hrow).1
  clear hA hrow hkp hfr hno hI1 hI2 HM
  go_upto_region 24 with (refine wpList_updateG rfl _ _ _ rfl (keys_int Try.underlying44) Try.underlying136 (C + 2) s1 nt (.int .i64 (nx : Int)) rfl rfl rfl HA.out.m1 fun ob hM' => ?_)
  have HA5 := Lib.hid (HA.out.put1 hM')
  have HR5 := Lib.hid ((setB_other (w := wx) (ob := ob) (show w.heap.size ≠ C + 2 by have := HW.out; omega)).trans HRW.out)
  have hk5 : Keeps ((C + 1) :: (C + 2) :: (C + 4) :: rowB rv) w (setB wx (C + 2) ob) := by
    have h1 := HK.out.1
    exact ⟨h1.os, h1.tape, h1.output, by simpa [setB] using h1.size, fun k hk hx => (setB_other (fun e => hx (by rw [e]; simp))).trans (h1.block k hk hx)⟩
  have HK5 := Lib.hid hk5
  have hz5 : wx.heap.size = (setB wx (C + 2) ob).heap.size := by simp [setB]
  have HZ5 := Lib.hid hz5
  clear ckx clx cax cbx csx cnx flx z0x z1x z3x z5x z6x zkx
  clear lrow hM' hk5 hz5
  generalize setB wx (C + 2) ob = w5 at HA5 HR5 HK5 HZ5 ⊢
  have ck5 := fun j => cell_of_row w5 _ j _ _ _ (HA5.out).hk
  have cl5 := fun j => cell_of_row w5 _ j _ _ _ (HA5.out).hl
  have ca5 := fun j => cell_of_row w5 _ j _ _ _ (HA5.out).ha
  have cb5 := fun j => cell_of_row w5 _ j _ _ _ (HA5.out).hb
  have cs5 := fun j => cell_of_row w5 _ j _ _ _ (HA5.out).hs
  simp only [sayV] at cs5
  have cn5 := fun j => cell_of_row w5 _ j _ _ _ (HA5.out).st.know.head
  have fl5 := fun j => frozen_of_row w5 _ j _ _ (HA5.out).hl
  have z05 : C < w5.heap.size := by have := (HA5.out).lo.2.2.2.2.2; omega
  have z15 : C + 1 < w5.heap.size := by have := (HA5.out).lo.2.2.2.2.2; omega
  have z35 : C + 3 < w5.heap.size := by have := (HA5.out).lo.2.2.2.2.2; omega
  have z55 : C + 5 < w5.heap.size := by have := (HA5.out).lo.2.2.2.2.2; omega
  have z65 : C + 6 < w5.heap.size := by have := (HA5.out).lo.2.2.2.2.2; omega
  have zk5 : kb < w5.heap.size := by have := (HA5.out).lo.2.2.2.2.2; have := (HA5.out).lo.2.2.1; omega
  have cr5 := fun j => cell_of_row w5 _ j _ _ _ HR5.out
  have lr5 := (Array.getElem?_eq_some_iff.1 HR5.out).1
  obtain ⟨ti0, hi, hz0, hz1, hz2⟩ := info_parts info_step
  go_wp2_with (at_builtin; refine unHd ?_)
  unfold Hd2
  have e6 : Ext w5 (w5.alloc (.cells #[.int .i64 r0, .int .i64 a0, .int .i64 b0, .int .i64 nt] 141)) := (Ext.refl _).alloc _
  refine wpList_app5 (C + 7) 93 141 ti0 _ 4 32 Try.underlying93 hi hz0 hz1 hz2 rfl (by decide) rfl _ _ rfl _ nx _ rfl (own_ext HA5.out.row e6) (Nat.le_trans HA5.out.lo.2.2.2.2.2 e6.size) w5.heap.size 1 1 #[.int .i64 r0, .int .i64 a0, .int .i64 b0, .int .i64 nt] (by decide) rfl (heap_new rfl) rfl (by simp [Value.oneCell']) (by unfold maxLen; have := HNX.out.1; omega) (by have := HNX.out.1; omega) ?_
  intro v2 w2 hown2 hg2 hr2
  replace hg2 : (w5.alloc (.cells #[.int .i64 r0, .int .i64 a0, .int .i64 b0, .int .i64 nt] 141)).grownBy w2 (Value.slice ar nx cr).ownBlock := hg2
  replace hr2 : ∀ k ∈ rowB v2, k ∈ rowB (.slice ar nx cr) ∨ (w5.alloc (.cells #[.int .i64 r0, .int .i64 a0, .int .i64 b0, .int .i64 nt] 141)).heap.size ≤ k := hr2
  have blk : ∀ k, k < w5.heap.size → k ∉ rowB (.slice ar nx cr) → w2.heap[k]? = w5.heap[k]? := fun k hk hn => (hg2.block k (Nat.lt_of_lt_of_le hk e6.size) (by
    intro e
    apply hn
    unfold rowB
    first | (rw [e]; simp) | (rw [← e]; simp))).trans (e6.block k hk)
  obtain ⟨g2, cap3, rfl⟩ : ∃ g2 cap3, v2 = .slice (some ⟨g2, 0, none⟩) (nx + 1) cap3 := by
    rcases hown2.2 with ⟨_, h0⟩ | ⟨g2, cap2, _, h0, _⟩
    · omega
    · exact ⟨g2, cap2, h0⟩
  have hrl := row_lo HA5.out.row
  have n1 : ∀ k, k < C + 7 → k ∉ rowB (.slice ar nx cr) := fun k hk hm => by have := hrl k hm; omega
  have hl2 := (blk (C + 1) z15 (n1 _ (by omega))).trans HA5.out.hl
  have hsz : w5.heap.size ≤ w2.heap.size := Nat.le_trans e6.size hg2.size
  have HA7 := Lib.hid (HA5.out.app blk hsz hown2)
  have HF7 : Hid (∀ g ∈ rowB (.slice (some ⟨g2, 0, none⟩) (nx + 1) cap3), g ∈ rowB rv ∨ w.heap.size ≤ g) := Lib.hid (fun g hg => by
    rcases hr2 g hg with e | e
    · exact HK.out.2.1 g e
    · have := e6.size; have := HK5.out.size; exact .inr (by omega))
  have HK7 : Hid (Keeps ((C + 1) :: (C + 2) :: (C + 4) :: rowB rv) w (w2.setCell ⟨C + 1, 0, none⟩ (.slice (some ⟨g2, 0, none⟩) (nx + 1) cap3))) := Lib.hid (by
    have k5 := HK5.out
    refine Keeps.setCell (X := (C + 1) :: (C + 2) :: (C + 4) :: rowB rv) (a := w) (b := w2) ⟨(hg2.os.trans e6.os).trans k5.os, (hg2.tape.trans e6.tape).trans k5.tape, (hg2.output.trans e6.output).trans k5.output, Nat.le_trans k5.size hsz, fun k hk hx => ?_⟩ (.inl (.head _)) 0 _
    refine (blk k (Nat.lt_of_lt_of_le hk k5.size) fun hm => hx ?_).trans (k5.block k hk hx)
    rcases HK.out.2.1 k hm with e | e
    · simp [e]
    · omega)
  have cl2 := fun j => cell_of_row w2 _ j _ _ _ hl2
  have fl2 := fun j => frozen_of_row w2 _ j _ _ hl2
  have z2 : C + 1 < w2.heap.size := (Array.getElem?_eq_some_iff.1 hl2).1
  clear ck5 cl5 ca5 cb5 cs5 cn5 fl5 z05 z15 z35 z55 z65 zk5
  clear cr5 lr5 hown2 hg2 hr2 blk hrl n1 hl2 hsz e6
  go_upto_region 25 with fail
  generalize w2.setCell ⟨C + 1, 0, none⟩ (.slice (some ⟨g2, 0, none⟩) (nx + 1) cap3) = w7 at HA7 HK7 ⊢
  clear cl2 fl2 z2
  have ck7 := fun j => cell_of_row w7 _ j _ _ _ (HA7.out).hk
  have cl7 := fun j => cell_of_row w7 _ j _ _ _ (HA7.out).hl
  have ca7 := fun j => cell_of_row w7 _ j _ _ _ (HA7.out).ha
  have cb7 := fun j => cell_of_row w7 _ j _ _ _ (HA7.out).hb
  have cs7 := fun j => cell_of_row w7 _ j _ _ _ (HA7.out).hs
  simp only [sayV] at cs7
  have cn7 := fun j => cell_of_row w7 _ j _ _ _ (HA7.out).st.know.head
  have fl7 := fun j => frozen_of_row w7 _ j _ _ (HA7.out).hl
  have z07 : C < w7.heap.size := by have := (HA7.out).lo.2.2.2.2.2; omega
  have z17 : C + 1 < w7.heap.size := by have := (HA7.out).lo.2.2.2.2.2; omega
  have z37 : C + 3 < w7.heap.size := by have := (HA7.out).lo.2.2.2.2.2; omega
  have z57 : C + 5 < w7.heap.size := by have := (HA7.out).lo.2.2.2.2.2; omega
  have z67 : C + 6 < w7.heap.size := by have := (HA7.out).lo.2.2.2.2.2; omega
  have zk7 : kb < w7.heap.size := by have := (HA7.out).lo.2.2.2.2.2; have := (HA7.out).lo.2.2.1; omega
  have hl7 := look1 HA7.out nt false
  have hlg : lookG (putM s1 nt (.int .i64 (nx : Int))) nt (.int .i64 0) false = .int .i64 (nx : Int) := by
    unfold lookG
    rw [getM_put, if_pos rfl]
    rfl
  rw [hlg] at hl7
  clear hlg
  go_wp2_with fail
  refine bodyPost_ret (results_tmp2 rfl _ _ _) rfl ?_
  exact ⟨_, _, nx + 1, rfl, ⟨_, _, _, HA7.out, by rw [← HNT.out]; exact HK.out.2.2.2.1.put HT.out.1 HD.out, HK.out.2.2.2.2⟩, HK7.out, HF7.out, HNX.out.2⟩

set_option maxRecDepth 100000 in
set_option maxHeartbeats 8000000 in
theorem sa_bfail (C B pb mb kb sb : Nat) (v gv lv : Value) (L G K : List Tt) (W : List (Int × Int)) (S1 S2 : List (Int × Value)) (rv : Value) (n : Nat) (xs : List Value) (t : Tt) (w : World) (h : SaysAt C B pb mb kb sb v gv lv L G K W S1 S2 rv n xs w) (hA : InvA L K S1) (hB : InvB L K S2) (ht : t ∈ L) (hn : n ≤ 60000) (h1 : ∃ i1 : Int, lookG S1 (idT L t : Int) (.int .i64 0) true = .tuple #[.int .i64 i1, .bool false]) (h2 : lookG S2 (idT L t : Int) (.bool false) false = .bool false) (h3 : lookG (seenL L K W) (idT L t : Int) (wyV (0, 0)) true = .tuple #[.agg #[.int .i64 0, .int .i64 0], .bool false]) (a b : Int) (ha : (0 : Int) < a) (hb : (0 : Int) < b) (hM : ∀ w', Ext w w' → Calls Try.prog 70 #[.pointer (some ⟨kb, 0, none⟩), .int .i64 (idT L t)] w' fun e w'' => e = .returned (.tuple #[.int .i64 a, .int .i64 b, .bool false, .bool true]) ∧ Ext w' w'') (hd : derK K t = false) (D E : Nat) (hD : D + E ≤ 30000) (hX : ∀ rv' n' w', SaysInv C B pb mb kb sb v gv lv L G K W rv' n' w' → n' ≤ n → Calls Try.prog 69 #[.int .i64 a, .pointer (some ⟨C + 3, 0, none⟩), .pointer (some ⟨C + 5, 0, none⟩), .pointer (some ⟨C, 0, none⟩), .pointer (some ⟨C + 6, 0, none⟩), .pointer (some ⟨C + 1, 0, none⟩)] w' (SaysPost C B pb mb kb sb v gv lv L G K W true D rv' n' w')) (hY : ∀ rv' n' w', SaysInv C B pb mb kb sb v gv lv L G K W rv' n' w' → n' ≤ n + D → Calls Try.prog 69 #[.int .i64 b, .pointer (some ⟨C + 3, 0, none⟩), .pointer (some ⟨C + 5, 0, none⟩), .pointer (some ⟨C, 0, none⟩), .pointer (some ⟨C + 6, 0, none⟩), .pointer (some ⟨C + 1, 0, none⟩)] w' (SaysPost C B pb mb kb sb v gv lv L G K W false E rv' n' w')) :
    Calls Try.prog 69 #[.int .i64 (idT L t), .pointer (some ⟨C + 3, 0, none⟩), .pointer (some ⟨C + 5, 0, none⟩), .pointer (some ⟨C, 0, none⟩), .pointer (some ⟨C + 6, 0, none⟩), .pointer (some ⟨C + 1, 0, none⟩)] w (SaysPost C B pb mb kb sb v gv lv L G K W false (D + E + 1) rv n w) := by
  have HI := Lib.hid (show SaysInv C B pb mb kb sb v gv lv L G K W rv n w from ⟨S1, S2, xs, h, hA, hB⟩)
  have HH := Lib.hid h
  have HT := Lib.hid (And.intro ht hn)
  obtain ⟨i1, h1⟩ : ∃ i1 : Int, lookG S1 (idT L t : Int) (.int .i64 0) true = .tuple #[.int .i64 i1, .bool false] := h1
  have HL1 := Lib.hid (fun w' (e : Ext w w') => by
    have h0 := look1 (h.ext e) (idT L t : Int) true
    rw [h1] at h0
    exact h0)
  have HL2 := Lib.hid (fun w' (e : Ext w w') => by
    have h0 := look2 (h.ext e) (idT L t : Int) false
    rw [h2] at h0
    exact h0)
  have HL3 := Lib.hid (fun w' (e : Ext w w') => by
    have h0 := look_seen (h.ext e).st.know (idT L t : Int)
    rw [h3] at h0
    exact h0)
  have hl1 := HL1.out _ (Ext.refl w)
  have HW := Lib.hid h.lo.2.2.2.2.2
  generalize hnt : (idT L t : Int) = nt at HL1 HL2 HL3 hl1 ⊢
  have HNT := Lib.hid hnt
  have ck := fun j => cell_of_row w _ j _ _ _ (h).hk
  have cl := fun j => cell_of_row w _ j _ _ _ (h).hl
  have ca := fun j => cell_of_row w _ j _ _ _ (h).ha
  have cb := fun j => cell_of_row w _ j _ _ _ (h).hb
  have cs := fun j => cell_of_row w _ j _ _ _ (h).hs
  simp only [sayV] at cs
  have cn := fun j => cell_of_row w _ j _ _ _ (h).st.know.head
  have fl := fun j => frozen_of_row w _ j _ _ (h).hl
  have z0 : C < w.heap.size := by have := (h).lo.2.2.2.2.2; omega
  have z1 : C + 1 < w.heap.size := by have := (h).lo.2.2.2.2.2; omega
  have z3 : C + 3 < w.heap.size := by have := (h).lo.2.2.2.2.2; omega
  have z5 : C + 5 < w.heap.size := by have := (h).lo.2.2.2.2.2; omega
  have z6 : C + 6 < w.heap.size := by have := (h).lo.2.2.2.2.2; omega
  have zk : kb < w.heap.size := by have := (h).lo.2.2.2.2.2; have := (h).lo.2.2.1; omega
  rw [hnt] at hM
  have HMK := Lib.hid hM
  clear hM
  have HD := Lib.hid hd
  have HX := Lib.hid hX
  have HY := Lib.hid hY
  have HDD := Lib.hid hD
  clear hd hX hY hD
  clear hnt h hA hB ht hn h1 h2 h3
  go_enter Try.func69, Try.ntmps69
  go_upto_region 5 with fail
  have e1 : Ext w (w.alloc (.cells #[.int .i64 0, .int .i64 0, .int .i64 0, .int .i64 nt] 141)) := (Ext.refl w).alloc _
  have HR1 := Lib.hid (heap_new (w := w) (o := .cells #[.int .i64 0, .int .i64 0, .int .i64 0, .int .i64 nt] 141) rfl)
  have HE1 := Lib.hid e1
  clear e1 hl1
  clear ck cl ca cb cs cn fl z0 z1 z3 z5 z6 zk
  generalize hw1 : w.alloc (.cells #[.int .i64 0, .int .i64 0, .int .i64 0, .int .i64 nt] 141) = w1 at HR1 HE1 ⊢
  clear hw1
  have hl2 := HL2.out _ HE1.out
  have hl3 := HL3.out _ HE1.out
  have ck := fun j => cell_of_row w1 _ j _ _ _ ((HH.out.ext HE1.out)).hk
  have cl := fun j => cell_of_row w1 _ j _ _ _ ((HH.out.ext HE1.out)).hl
  have ca := fun j => cell_of_row w1 _ j _ _ _ ((HH.out.ext HE1.out)).ha
  have cb := fun j => cell_of_row w1 _ j _ _ _ ((HH.out.ext HE1.out)).hb
  have cs := fun j => cell_of_row w1 _ j _ _ _ ((HH.out.ext HE1.out)).hs
  simp only [sayV] at cs
  have cn := fun j => cell_of_row w1 _ j _ _ _ ((HH.out.ext HE1.out)).st.know.head
  have fl := fun j => frozen_of_row w1 _ j _ _ ((HH.out.ext HE1.out)).hl
  have z0 : C < w1.heap.size := by have := ((HH.out.ext HE1.out)).lo.2.2.2.2.2; omega
  have z1 : C + 1 < w1.heap.size := by have := ((HH.out.ext HE1.out)).lo.2.2.2.2.2; omega
  have z3 : C + 3 < w1.heap.size := by have := ((HH.out.ext HE1.out)).lo.2.2.2.2.2; omega
  have z5 : C + 5 < w1.heap.size := by have := ((HH.out.ext HE1.out)).lo.2.2.2.2.2; omega
  have z6 : C + 6 < w1.heap.size := by have := ((HH.out.ext HE1.out)).lo.2.2.2.2.2; omega
  have zk : kb < w1.heap.size := by have := ((HH.out.ext HE1.out)).lo.2.2.2.2.2; have := ((HH.out.ext HE1.out)).lo.2.2.1; omega
  have cr := fun j => cell_of_row w1 _ j _ _ _ HR1.out
  have fr := fun j => frozen_of_row w1 _ j _ _ HR1.out
  have zr : w.heap.size < w1.heap.size := (Array.getElem?_eq_some_iff.1 HR1.out).1
  go_wp2_with fail
  refine (HMK.out _ (HE1.out.alloc (.cells #[.int .i64 0, .int .i64 0] 91))).mono ?_
  rintro e w2 ⟨rfl, hx2⟩
  have e2 := (HE1.out.alloc (.cells #[.int .i64 0, .int .i64 0] 91)).trans hx2
  have hr2 := heap_ext HR1.out (((Ext.refl w1).alloc (.cells #[.int .i64 0, .int .i64 0] 91)).trans hx2)
  have HM := Lib.hid (SaysMid.start HI.out HW.out e2 hr2)
  clear ck cl ca cb cs cn fl z0 z1 z3 z5 z6 zk
  clear cr fr zr hl2 hl3 hx2 e2
  have cr2 := fun j => cell_of_row w2 _ j _ _ _ hr2
  have fr2 := fun j => frozen_of_row w2 _ j _ _ hr2
  have zr2 := (Array.getElem?_eq_some_iff.1 hr2).1
  clear hr2
  go_upto_region 16 with fail
  replace HM := Lib.hid (HM.out.set HW.out 0 (by decide) 5)
  clear cr2 fr2 zr2
  generalize w2.setCell ⟨w.heap.size, 0, none⟩ (.int .i64 5) = w3 at HM ⊢
  obtain ⟨⟨s1, s2, ys, hA, hI1, hI2⟩, ⟨r3, a3, b3, hrow⟩, _, _, _⟩ := id HM.out
  have cky := fun j => cell_of_row w3 _ j _ _ _ (hA).hk
  have cly := fun j => cell_of_row w3 _ j _ _ _ (hA).hl
  have cay := fun j => cell_of_row w3 _ j _ _ _ (hA).ha
  have cby := fun j => cell_of_row w3 _ j _ _ _ (hA).hb
  have csy := fun j => cell_of_row w3 _ j _ _ _ (hA).hs
  simp only [sayV] at csy
  have cny := fun j => cell_of_row w3 _ j _ _ _ (hA).st.know.head
  have fly := fun j => frozen_of_row w3 _ j _ _ (hA).hl
  have z0y : C < w3.heap.size := by have := (hA).lo.2.2.2.2.2; omega
  have z1y : C + 1 < w3.heap.size := by have := (hA).lo.2.2.2.2.2; omega
  have z3y : C + 3 < w3.heap.size := by have := (hA).lo.2.2.2.2.2; omega
  have z5y : C + 5 < w3.heap.size := by have := (hA).lo.2.2.2.2.2; omega
  have z6y : C + 6 < w3.heap.size := by have := (hA).lo.2.2.2.2.2; omega
  have zky : kb < w3.heap.size := by have := (hA).lo.2.2.2.2.2; have := (hA).lo.2.2.1; omega
  have HA := Lib.hid (And.intro hA (And.intro hI1 hI2))
  have cr3 := fun j => cell_of_row w3 _ j _ _ _ hrow
  have fr3 := fun j => frozen_of_row w3 _ j _ _ hrow
  have zr3 := (Array.getElem?_eq_some_iff.1 hrow).1
  clear hA hI1 hI2 hrow
  go_wp2_with fail
  refine (HX.out rv n _ ⟨s1, s2, ys, HA.out.1, HA.out.2.1, HA.out.2.2⟩ (by omega)).mono ?_
  intro e w4 hp
  obtain ⟨iX, rv4, n4, rfl, hm4, hn4⟩ := SaysMid.call HM.out HW.out hp
  clear cky cly cay cby csy cny fly z0y z1y z3y z5y z6y zky
  clear hp cr3 fr3 zr3 HA HM
  obtain ⟨_, ⟨r4, a4, b4, hrow⟩, _, _, _⟩ := id hm4
  have cr4 := fun j => cell_of_row w4 _ j _ _ _ hrow
  have fr4 := fun j => frozen_of_row w4 _ j _ _ hrow
  have zr4 := (Array.getElem?_eq_some_iff.1 hrow).1
  have HM := Lib.hid (hm4.set HW.out 1 (by decide) iX)
  have HN4 := Lib.hid hn4
  clear hrow hm4 hn4
  go_upto_region 18 with fail
  clear cr4 fr4 zr4
  generalize w4.setCell ⟨w.heap.size, 1, none⟩ (.int .i64 iX) = w5 at HM ⊢
  obtain ⟨⟨s1, s2, ys, hA, hI1, hI2⟩, ⟨r3, a3, b3, hrow⟩, _, _, _⟩ := id HM.out
  have cky := fun j => cell_of_row w5 _ j _ _ _ (hA).hk
  have cly := fun j => cell_of_row w5 _ j _ _ _ (hA).hl
  have cay := fun j => cell_of_row w5 _ j _ _ _ (hA).ha
  have cby := fun j => cell_of_row w5 _ j _ _ _ (hA).hb
  have csy := fun j => cell_of_row w5 _ j _ _ _ (hA).hs
  simp only [sayV] at csy
  have cny := fun j => cell_of_row w5 _ j _ _ _ (hA).st.know.head
  have fly := fun j => frozen_of_row w5 _ j _ _ (hA).hl
  have z0y : C < w5.heap.size := by have := (hA).lo.2.2.2.2.2; omega
  have z1y : C + 1 < w5.heap.size := by have := (hA).lo.2.2.2.2.2; omega
  have z3y : C + 3 < w5.heap.size := by have := (hA).lo.2.2.2.2.2; omega
  have z5y : C + 5 < w5.heap.size := by have := (hA).lo.2.2.2.2.2; omega
  have z6y : C + 6 < w5.heap.size := by have := (hA).lo.2.2.2.2.2; omega
  have zky : kb < w5.heap.size := by have := (hA).lo.2.2.2.2.2; have := (hA).lo.2.2.1; omega
  have HA := Lib.hid (And.intro hA (And.intro hI1 hI2))
  have cr3 := fun j => cell_of_row w5 _ j _ _ _ hrow
  have fr3 := fun j => frozen_of_row w5 _ j _ _ hrow
  have zr3 := (Array.getElem?_eq_some_iff.1 hrow).1
  clear hA hI1 hI2 hrow
  go_wp2_with fail
  refine (HY.out rv4 n4 _ ⟨s1, s2, ys, HA.out.1, HA.out.2.1, HA.out.2.2⟩ (by exact HN4.out)).mono ?_
  intro e w6 hp
  obtain ⟨iY, rv6, n6, rfl, hm4, hn4⟩ := SaysMid.call HM.out HW.out hp
  clear cky cly cay cby csy cny fly z0y z1y z3y z5y z6y zky
  clear hp cr3 fr3 zr3 HA HM
  obtain ⟨_, ⟨r4, a4, b4, hrow⟩, _, _, _⟩ := id hm4
  have cr4 := fun j => cell_of_row w6 _ j _ _ _ hrow
  have fr4 := fun j => frozen_of_row w6 _ j _ _ hrow
  have zr4 := (Array.getElem?_eq_some_iff.1 hrow).1
  have HM := Lib.hid (hm4.set HW.out 2 (by decide) iY)
  have HN6 := Lib.hid hn4
  clear hrow hm4 hn4
  go_upto_region 20 with fail
  clear cr4 fr4 zr4
  refine wp_forget (fun wx => Hid (∃ (rvx : Value) (nx : Nat), SaysMid C B pb mb kb sb v gv lv L G K W rv nt w rvx nx wx ∧ nx ≤ 100000 ∧ nx + 1 ≤ n + (D + E + 1))) (Lib.hid ⟨_, _, HM.out, by have := HT.out; have := HN4.out; have := HN6.out; have := HDD.out; omega, by have := HT.out; have := HN4.out; have := HN6.out; have := HDD.out; omega⟩) ?_
  clear HM
  intro wx HM
  obtain ⟨rvx, nx, hmid, hnx⟩ := HM.out
  clear HM
  have HM := Lib.hid hmid
  have HNX := Lib.hid hnx
  clear hmid hnx
  obtain ⟨⟨s1, s2, ys, hA, hI1, hI2⟩, hst, hkp, hfr, hno⟩ := HM.out
  have HA := Lib.hid hA
  have ckx := fun j => cell_of_row wx _ j _ _ _ (hA).hk
  have clx := fun j => cell_of_row wx _ j _ _ _ (hA).hl
  have cax := fun j => cell_of_row wx _ j _ _ _ (hA).ha
  have cbx := fun j => cell_of_row wx _ j _ _ _ (hA).hb
  have csx := fun j => cell_of_row wx _ j _ _ _ (hA).hs
  simp only [sayV] at csx
  have cnx := fun j => cell_of_row wx _ j _ _ _ (hA).st.know.head
  have flx := fun j => frozen_of_row wx _ j _ _ (hA).hl
  have z0x : C < wx.heap.size := by have := (hA).lo.2.2.2.2.2; omega
  have z1x : C + 1 < wx.heap.size := by have := (hA).lo.2.2.2.2.2; omega
  have z3x : C + 3 < wx.heap.size := by have := (hA).lo.2.2.2.2.2; omega
  have z5x : C + 5 < wx.heap.size := by have := (hA).lo.2.2.2.2.2; omega
  have z6x : C + 6 < wx.heap.size := by have := (hA).lo.2.2.2.2.2; omega
  have zkx : kb < wx.heap.size := by have := (hA).lo.2.2.2.2.2; have := (hA).lo.2.2.1; omega
  have HK := Lib.hid (And.intro hkp (And.intro hfr (And.intro hno (And.intro hI1 hI2))))
  clear hA hst hkp hfr hno hI1 hI2 HM
  go_upto_region 22 with (refine wpList_updateG rfl _ _ _ rfl (keys_int Try.underlying44) Try.underlying137 (C + 4) s2 nt (.bool true) rfl rfl rfl HA.out.m2 fun ob hM' => ?_)
  have HA5 := Lib.hid (HA.out.put2 hM')
  have hk5 : Keeps ((C + 1) :: (C + 2) :: (C + 4) :: rowB rv) w (setB wx (C + 4) ob) := by
    have h1 := HK.out.1
    exact ⟨h1.os, h1.tape, h1.output, by simpa [setB] using h1.size, fun k hk hx => (setB_other (fun e => hx (by rw [e]; simp))).trans (h1.block k hk hx)⟩
  have HK5 := Lib.hid hk5
  clear ckx clx cax cbx csx cnx flx z0x z1x z3x z5x z6x zkx
  clear hM' hk5
  generalize setB wx (C + 4) ob = w5 at HA5 HK5 ⊢
  go_wp2_with fail
  refine bodyPost_ret (results_tmp2 rfl _ _ _) rfl ?_
  exact ⟨_, _, nx, rfl, ⟨_, _, _, HA5.out, HK.out.2.2.2.1, by rw [← HNT.out]; exact HK.out.2.2.2.2.put HT.out.1 HD.out⟩, HK5.out, HK.out.2.1, by have := HNX.out.2; omega⟩
end Go.Proofs.Ytfibbhmmiemcoaa

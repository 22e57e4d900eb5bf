/-
  The walk of Add. No condition.
-/
import Derived.Test.YtfibbhmmiemcoaaML32
set_option linter.all false
namespace Go.Proofs.Ytfibbhmmiemcoaa
open Go.RowKit
attribute [local go_sem] ExtOf.cell ExtOf.frozen ExtOf.lt ExtOf.le
attribute [local go_sem high] ExtOf.cell2 ExtOf.frozen2 ExtOf.lt2 ExtOf.cell3 ExtOf.frozen3 ExtOf.lt3

/-- Behind Add. -/
def AddPost (B pb mb kb sb : Nat) (v gv lv : Value) (L G K : List Tt) (t : Tt) (w w' : World) : Prop :=
  ∃ gv' lv' K' W', StAt B pb mb kb sb v gv' lv' L (addT G t) K' W' w' ∧ Keeps (kb :: sb :: (rowB gv ++ rowB lv)) w w' ∧ (∀ g ∈ rowB gv' ++ rowB lv', g ∈ rowB gv ++ rowB lv ∨ w.heap.size ≤ g) ∧ (∀ u, u ∈ K' ↔ u ∈ K ∨ u ∈ visT t) ∧ ∀ u ∈ K', ∀ d ∈ downT u, d ∈ K'

theorem mem_ids {L G : List Tt} {t : Tt} (ht : t ∈ L) (hG : ∀ u ∈ G, u ∈ L) : decide ((idT L t : Int) ∈ G.map fun u => (idT L u : Int)) = decide (t ∈ G) := by
  rw [decide_eq_decide, List.mem_map]
  constructor
  · rintro ⟨u, hu, e⟩
    rw [← idT_injI (hG u hu) ht e]; exact hu
  · exact fun h => ⟨t, h, rfl⟩

theorem add_end {B pb mb kb sb : Nat} {v gv lv gv' : Value} {L G K : List Tt} {t : Tt} {w w1 w2 : World} {W : List (Int × Int)} (h1 : StAt B pb mb kb sb v gv' lv L (addT G t) K W w1) (k1 : Keeps (kb :: sb :: (rowB gv ++ rowB lv)) w w1) (f1 : ∀ g ∈ rowB gv', g ∈ rowB gv ∨ w.heap.size ≤ g)
    (hl : ∀ g ∈ rowB lv, g < w.heap.size) (h2 : SeesPost B pb mb kb sb v gv' lv L (addT G t) K t w1 w2) : AddPost B pb mb kb sb v gv lv L G K t w w2 := by
  obtain ⟨lv2, K2, W2, s, k2, f2, m, c⟩ := h2
  have hs := k1.size
  refine ⟨gv', lv2, K2, W2, s, ⟨k2.os.trans k1.os, k2.tape.trans k1.tape, k2.output.trans k1.output, Nat.le_trans hs k2.size, fun k hk hx => ?_⟩, fun g hg => ?_, m, c⟩
  · refine (k2.block k (Nat.lt_of_lt_of_le hk hs) fun hm => hx ?_).trans (k1.block k hk hx)
    simp only [List.mem_cons, List.mem_append] at hm ⊢
    rcases hm with e | e | e
    · exact .inl e
    · exact .inr (.inl e)
    · exact .inr (.inr (.inr e))
  · simp only [List.mem_append] at hg ⊢
    rcases hg with h | h
    · exact (f1 g h).imp .inl id
    · rcases f2 g h with h | h
      · exact .inl (.inr h)
      · exact .inr (Nat.le_trans hs h)

theorem given_end {B pb mb kb sb : Nat} {v gv gv' lv : Value} {L G K : List Tt} {t : Tt} {W : List (Int × Int)} {w1 w2 : World} (h : StAt B pb mb kb sb v gv lv L G K W w1) (ht : t ∈ L) (c : ∀ k, k < w1.heap.size → k ∉ rowB gv → w2.heap[k]? = w1.heap[k]?) (hos : w2.os = w1.os ∧ w2.tape = w1.tape ∧ w2.output = w1.output ∧ w1.heap.size ≤ w2.heap.size)
    (o : w2.ownsRow B 44 1 gv' (G.length + 1) (G.map (fun t => Value.int .i64 (idT L t)) ++ [.int .i64 (idT L t)])) (hr : ∀ g ∈ rowB gv', g ∈ rowB gv ∨ w1.heap.size ≤ g) :
    StAt B pb mb kb sb v gv' lv L (G ++ [t]) K W (w2.setCell ⟨kb, 1, none⟩ gv') ∧ Keeps (kb :: sb :: (rowB gv ++ rowB lv)) w1 (w2.setCell ⟨kb, 1, none⟩ gv') := by
  have lo := h.know.lo
  have lg := row_lo h.know.given
  have ll := row_lo h.know.list
  have lv' := row_lo h.pool.row
  have lkb := (Array.getElem?_eq_some_iff.1 h.know.head).1
  have ngv : ∀ k, k < B → k ∉ rowB gv := fun k hk hm => by have := lg k hm; omega
  have hb2 := (c kb lkb (ngv kb lo.1)).trans h.know.head
  have oth : ∀ k, k ≠ kb → (w2.setCell ⟨kb, 1, none⟩ gv').heap[k]? = w2.heap[k]? := fun k hk => cell_other hk
  have hsz : B ≤ (w2.setCell ⟨kb, 1, none⟩ gv').heap.size := by have := hos.2.2.2; simp; omega
  have lp := h.pool.lo
  have hne := h.ne
  refine ⟨⟨⟨?_, ?_, ?_, lp.1, lp.2.1, lp.2.2.1, hsz⟩, ⟨setCell_row hb2 gv', ?_, ?_, ?_, ⟨lo.1, lo.2.1, lo.2.2.1, hsz⟩, ?_, h.know.len⟩, h.ne, ?_, h.ok, h.KL, ?_, h.nd, h.way⟩, ?_⟩
  · exact (oth pb hne.1).trans ((c pb (Array.getElem?_eq_some_iff.1 h.pool.head).1 (ngv pb lp.1)).trans h.pool.head)
  · exact own_at h.pool.row fun k hk => (oth k (by have := lv' k hk; omega)).trans (c k (row_lt h.pool.row k hk) (h.dv k hk).1)
  · exact h.pool.map.same ((oth mb hne.2.2.1).trans (c mb h.pool.map.lt (ngv mb lp.2.1)))
  · have := own_at o (w' := w2.setCell ⟨kb, 1, none⟩ gv') fun k hk => oth k (by have := row_lo o k hk; omega)
    simpa using this
  · exact own_at h.know.list fun k hk => (oth k (by have := ll k hk; omega)).trans (c k (row_lt h.know.list k hk) (fun hm => h.know.dis k hm hk))
  · exact h.know.map.same ((oth sb (Ne.symm lo.2.2.1)).trans (c sb h.know.map.lt (ngv sb lo.2.1)))
  · intro g hg hm
    rcases hr g hg with e | e
    · exact h.know.dis g e hm
    · have := row_lt h.know.list g hm; omega
  · intro g hg
    refine ⟨fun hm => ?_, (h.dv g hg).2⟩
    rcases hr g hm with e | e
    · exact (h.dv g hg).1 e
    · have := row_lt h.pool.row g hg; omega
  · intro u hu
    rcases List.mem_append.1 hu with e | e
    · exact h.GL u e
    · rw [List.mem_singleton.1 e]; exact ht
  · have k2 : Keeps (kb :: sb :: (rowB gv ++ rowB lv)) w1 w2 := ⟨hos.1, hos.2.1, hos.2.2.1, hos.2.2.2, fun k hk hx => c k hk (fun hm => hx (by simp [hm]))⟩
    exact Keeps.setCell k2 (.inl (.head _)) 1 _

set_option maxRecDepth 100000 in
set_option maxHeartbeats 8000000 in
theorem du_addA (B pb mb kb sb : Nat) (v gv lv : Value) (L G K : List Tt) (W : List (Int × Int)) (t : Tt) (w : World) (hS : StAt B pb mb kb sb v gv lv L G K W w)
    (hcl : ∀ u ∈ K, ∀ d ∈ downT u, d ∈ K) (ht : t ∈ L) (hg : t ∈ G) (hlen : K.length + (visT t).length ≤ 60000) (hL : L.length ≤ 60000) :
    Calls Try.prog 13 #[.pointer (some ⟨kb, 0, none⟩), .int .i64 (idT L t)] w fun e w' => e = .returned (.int .i64 0) ∧ AddPost B pb mb kb sb v gv lv L G K t w w' := by
  obtain ⟨j, hj1, hj2⟩ := idT_mem ht
  have hct : decide ((idT L t : Int) ∈ G.map fun u => (idT L u : Int)) = true := by rw [mem_ids ht hS.GL]; simpa using hg
  have HND := Lib.hid (fun w' (e : Ext w w') => by
    have h := te_node B pb mb v L j t w' (hS.pool.ext e) (by omega) hj2
    rw [← hj1] at h
    exact h)
  have HCT := Lib.hid (fun w' (e : Ext w w') => by
    have h := sl_containsT B gv (G.map fun u => (idT L u : Int)) (idT L t) w' (by have := own_ext hS.know.given e; simpa [Function.comp_def] using this)
    rw [hct] at h
    exact h)
  have HNO := Lib.hid (fun w' (e : Ext w w') => du_note B pb mb kb sb v gv lv L G K W t w' (hS.ext e) hcl ht hlen hL)
  have HS := Lib.hid hS
  have HG := Lib.hid hg
  have hb := hS.know.head
  have lb : kb < w.heap.size := (Array.getElem?_eq_some_iff.1 hb).1
  have hcb := fun j => cell_of_row w _ j _ _ _ hb
  clear hcl ht hlen hL hj1 hj2 hct hS hb hg
  generalize hnt : (idT L t : Int) = nt at HND HCT HNO ⊢
  clear hnt
  unfold ndV at HND
  go_enter Try.func13, Try.ntmps13
  go_wp2_with fail
  refine (HND.out _ (Ext.refl _)).mono ?_
  rintro e w1 ⟨rfl, hx1⟩
  obtain ⟨y1, rfl⟩ := ext_of hx1
  clear hx1
  go_wp2_with fail
  refine (HCT.out _ (y1.ext.alloc _)).mono ?_
  rintro e w2 ⟨rfl, rfl⟩
  go_wp2_with fail
  refine (HNO.out _ (y1.ext.alloc _)).mono ?_
  rintro e w3 ⟨rfl, hp⟩
  have hx := y1.ext.alloc (.cells #[.int .i64 (ndT L t).k, .int .i64 (ndT L t).f, .int .i64 (ndT L t).t, .int .u64 (ndT L t).n, .string (ndT L t).s, .int .i64 (ndT L t).a, .int .i64 (ndT L t).b] 85)
  have ha : addT G t = G := if_pos HG.out
  have HE : Hid (AddPost B pb mb kb sb v gv lv L G K t w w3) := Lib.hid (add_end (gv' := gv) (by rw [ha]; exact HS.out.ext hx) ((Keeps.refl _ w).ext hx) (fun g hg => .inl hg) (row_lt HS.out.know.list) (by rw [ha]; exact hp))
  clear hp hx ha
  go_wp2_with fail
  go_ret
  exact ⟨rfl, HE.out⟩
set_option maxRecDepth 100000 in
set_option maxHeartbeats 8000000 in
theorem du_addB (B pb mb kb sb : Nat) (v gv lv : Value) (L G K : List Tt) (W : List (Int × Int)) (t : Tt) (w : World) (hS : StAt B pb mb kb sb v gv lv L G K W w)
    (hcl : ∀ u ∈ K, ∀ d ∈ downT u, d ∈ K) (ht : t ∈ L) (hg : t ∉ G) (hGl : G.length ≤ 60000) (hlen : K.length + (visT t).length ≤ 60000) (hL : L.length ≤ 60000) :
    Calls Try.prog 13 #[.pointer (some ⟨kb, 0, none⟩), .int .i64 (idT L t)] w fun e w' => e = .returned (.int .i64 0) ∧ AddPost B pb mb kb sb v gv lv L G K t w w' := by
  obtain ⟨j, hj1, hj2⟩ := idT_mem ht
  have hct : decide ((idT L t : Int) ∈ G.map fun u => (idT L u : Int)) = false := by rw [mem_ids ht hS.GL]; simpa using hg
  have HND := Lib.hid (fun w' (e : Ext w w') => by
    have h := te_node B pb mb v L j t w' (hS.pool.ext e) (by omega) hj2
    rw [← hj1] at h
    exact h)
  have HCT := Lib.hid (fun w' (e : Ext w w') => by
    have h := sl_containsT B gv (G.map fun u => (idT L u : Int)) (idT L t) w' (by have := own_ext hS.know.given e; simpa [Function.comp_def] using this)
    rw [hct] at h
    exact h)
  obtain ⟨ti0, hi, hz0, hz1, hz2⟩ := info_parts info_term
  have HNO := Lib.hid (fun gv' w' (h : StAt B pb mb kb sb v gv' lv L (G ++ [t]) K W w') => du_note B pb mb kb sb v gv' lv L (G ++ [t]) K W t w' h hcl ht hlen hL)
  have HGL := Lib.hid (And.intro hGl ht)
  have hBx := hS.know.lo.2.2.2
  have HB := Lib.hid hBx
  obtain ⟨a, cap, hgv, _, _⟩ := own_view hS.know.given
  have HS := Lib.hid hS
  have HG := Lib.hid hg
  have hb := hS.know.head
  have lb : kb < w.heap.size := (Array.getElem?_eq_some_iff.1 hb).1
  have hcb := fun j => cell_of_row w _ j _ _ _ hb
  clear hcl ht hlen hL hj1 hj2 hct hS hb hg hGl hBx
  generalize hnt : (idT L t : Int) = nt at HND HCT HNO ⊢
  have HNT := Lib.hid hnt
  clear hnt
  subst hgv
  unfold ndV at HND
  go_enter Try.func13, Try.ntmps13
  go_wp2_with fail
  refine (HND.out _ (Ext.refl _)).mono ?_
  rintro e w1 ⟨rfl, hx1⟩
  obtain ⟨y1, rfl⟩ := ext_of hx1
  clear hx1
  go_wp2_with fail
  refine (HCT.out _ (y1.ext.alloc _)).mono ?_
  rintro e w2 ⟨rfl, rfl⟩
  have hx := y1.ext.alloc (.cells #[.int .i64 (ndT L t).k, .int .i64 (ndT L t).f, .int .i64 (ndT L t).t, .int .u64 (ndT L t).n, .string (ndT L t).s, .int .i64 (ndT L t).a, .int .i64 (ndT L t).b] 85)
  have HS1 := Lib.hid (HS.out.ext hx)
  have HX1 := Lib.hid hx
  clear hx hcb lb
  go_upto_region 7 with fail
  generalize hw1 : y1.val.alloc (.cells #[.int .i64 (ndT L t).k, .int .i64 (ndT L t).f, .int .i64 (ndT L t).t, .int .u64 (ndT L t).n, .string (ndT L t).s, .int .i64 (ndT L t).a, .int .i64 (ndT L t).b] 85) = w1 at HS1 HX1 ⊢
  clear hw1
  have hb := HS1.out.know.head
  have lb : kb < w1.heap.size := (Array.getElem?_eq_some_iff.1 hb).1
  have hcb := fun j => cell_of_row w1 _ j _ _ _ hb
  have hfb := fun j => frozen_of_row w1 _ j _ _ hb
  have HH := Lib.hid hb
  have HO := Lib.hid HS1.out.know.given
  have HLL := Lib.hid (show True ∧ True from ⟨trivial, trivial⟩)
  clear hb
  go_wp2_with (at_builtin; refine unHd ?_)
  unfold Hd2
  have e2 : Ext w1 (w1.alloc (.cells #[.int .i64 nt] 44)) := (Ext.refl _).alloc _
  refine wpList_app5 B 76 44 ti0 _ 1 8 Try.underlying76 hi hz0 hz1 hz2 rfl (by decide) rfl _ _ rfl _ G.length _ rfl (own_ext HO.out e2) (Nat.le_trans HB.out (Nat.le_trans HX1.out.size e2.size)) w1.heap.size 1 1 #[.int .i64 nt] (by decide) rfl (heap_new rfl) rfl (by simp [Value.oneCell']) (by unfold maxLen; have := HGL.out.1; omega) (by have := HGL.out.1; omega) ?_
  intro v2 w2 hown2 hg2 hr2
  obtain ⟨g2, cap3, rfl⟩ : ∃ g2 cap3, v2 = .slice (some ⟨g2, 0, none⟩) (G.length + 1) cap3 := by
    rcases hown2.2 with ⟨_, h0⟩ | ⟨g2, cap2, _, h0, _⟩
    · omega
    · exact ⟨g2, cap2, h0⟩
  replace hg2 : (w1.alloc (.cells #[.int .i64 nt] 44)).grownBy w2 (Value.slice a G.length cap).ownBlock := hg2
  replace hr2 : ∀ k ∈ rowB (.slice (some ⟨g2, 0, none⟩) (G.length + 1) cap3), k ∈ rowB (.slice a G.length cap) ∨ (w1.alloc (.cells #[.int .i64 nt] 44)).heap.size ≤ k := hr2
  have blk : ∀ k, k < w1.heap.size → k ∉ rowB (.slice a G.length cap) → w2.heap[k]? = w1.heap[k]? := fun k hk hn => (hg2.block k (Nat.lt_of_lt_of_le hk e2.size) (by
    intro e
    apply hn
    unfold rowB
    first | (rw [e]; simp) | (rw [← e]; simp))).trans (e2.block k hk)
  have hkb : kb ∉ rowB (.slice a G.length cap) := fun h => by have := row_lo HO.out kb h; have := HS1.out.know.lo; omega
  have hb2 := (blk kb lb hkb).trans HH.out
  have HBLK := Lib.hid blk
  have HOW := Lib.hid hown2
  have HG2 := Lib.hid hg2
  have HR2 := Lib.hid hr2
  have hcb2 := fun j => cell_of_row w2 _ j _ _ _ hb2
  have hfb2 := fun j => frozen_of_row w2 _ j _ _ hb2
  have HH2 := Lib.hid hb2
  clear hcb hfb hb2 blk hown2 hg2 hr2 hkb
  have HOS := Lib.hid (show w2.os = w1.os ∧ w2.tape = w1.tape ∧ w2.output = w1.output ∧ w1.heap.size ≤ w2.heap.size from ⟨HG2.out.os.trans e2.os, HG2.out.tape.trans e2.tape, HG2.out.output.trans e2.output, Nat.le_trans e2.size HG2.out.size⟩)
  have HGE := Lib.hid (given_end HS1.out HGL.out.2 HBLK.out HOS.out (by rw [HNT.out]; exact HOW.out) (fun g hg => (HR2.out g hg).imp id fun h => Nat.le_trans e2.size h))
  go_wp2_with fail
  refine (HNO.out _ _ HGE.out.1).mono ?_
  rintro e w3 ⟨rfl, hp⟩
  have ha : addT G t = G ++ [t] := if_neg HG.out
  have HE : Hid (AddPost B pb mb kb sb v (.slice a G.length cap) lv L G K t w w3) := Lib.hid (add_end (gv' := .slice (some ⟨g2, 0, none⟩) (G.length + 1) cap3) (by rw [ha]; exact HGE.out.1) ((show Keeps _ w w1 from (Keeps.refl _ w).ext HX1.out).trans HGE.out.2) (fun g hg => (HR2.out g hg).imp id fun h => Nat.le_trans HX1.out.size (Nat.le_trans e2.size h)) (row_lt HS.out.know.list) (by rw [ha]; exact hp))
  clear hp ha
  go_wp2_with fail
  go_ret
  exact ⟨rfl, HE.out⟩

/-- Add gives a term that the pool has. -/
theorem du_add (B pb mb kb sb : Nat) (v gv lv : Value) (L G K : List Tt) (W : List (Int × Int)) (t : Tt) (w : World) (hS : StAt B pb mb kb sb v gv lv L G K W w)
    (hcl : ∀ u ∈ K, ∀ d ∈ downT u, d ∈ K) (ht : t ∈ L) (hlen : K.length + (visT t).length ≤ 60000) (hL : L.length ≤ 60000) (hG : G.length ≤ 60000) :
    Calls Try.prog 13 #[.pointer (some ⟨kb, 0, none⟩), .int .i64 (idT L t)] w fun e w' => e = .returned (.int .i64 0) ∧ AddPost B pb mb kb sb v gv lv L G K t w w' := by
  by_cases hg : t ∈ G
  · exact du_addA B pb mb kb sb v gv lv L G K W t w hS hcl ht hg hlen hL
  · exact du_addB B pb mb kb sb v gv lv L G K W t w hS hcl ht hg hG hlen hL
end Go.Proofs.Ytfibbhmmiemcoaa

/-
  The walk of made: what a term is made of. No condition.
-/
namespace Go.Proofs.Ytfibbhmmiemcoaa
open Go.RowKit
attribute [local go_sem] ExtOf.cell ExtOf.frozen ExtOf.lt ExtOf.le
attribute [local go_sem high] ExtOf.cell2 ExtOf.frozen2 ExtOf.lt2 ExtOf.cell3 ExtOf.frozen3 ExtOf.lt3

theorem results_tmp4 {fn : Func} {t u v x : Tmp} (h : fn.results = #[.tmp t, .tmp u, .tmp v, .tmp x]) (tmps : Array Value) (P : Program) (w : World) :
    (results fn tmps).run P w = .ok (.tuple #[tmps.getD t undef, tmps.getD u undef, tmps.getD v undef, tmps.getD x undef]) w := by
  simp [results, h, go_sem]
/-- What a term is made of: two terms' numbers, is it free, can it be made. -/
structure Mk where
  a : Int
  b : Int
  free : Bool
  ok : Bool
def mkT (L K : List Tt) : Tt → Mk
  | .name _ => ⟨0, 0, true, true⟩
  | .num _ => ⟨0, 0, true, true⟩
  | .data _ => ⟨0, 0, true, true⟩
  | .pair a b => ⟨idT L a, idT L b, false, true⟩
  | .hash a => ⟨idT L a, 0, false, true⟩
  | .key _ => ⟨0, 0, false, false⟩
  | .sign n a => ⟨idT L a, idT L (.key n), false, decide (Tt.key n ∈ K)⟩
  | .prom f _ a => ⟨idT L a, idT L (.key f), false, decide (Tt.key f ∈ K)⟩
  | .fake _ t a => ⟨idT L a, idT L (.key t), false, decide (Tt.key t ∈ K)⟩
def Mk.v (m : Mk) : Value := .tuple #[.int .i64 m.a, .int .i64 m.b, .bool m.free, .bool m.ok]

theorem key_look {L K : List Tt} {W : List (Int × Int)} (hl : W.length = K.length) (hKL : ∀ u ∈ K, u ∈ L) (hn : K.Nodup) {t : Tt} (ht : t ∈ L) : ∃ x y : Int, lookG (seenL L K W) (idT L t) (wyV (0, 0)) true = .tuple #[.agg #[.int .i64 x, .int .i64 y], .bool (decide (t ∈ K))] := by
  by_cases h : t ∈ K
  · obtain ⟨p, hp⟩ := getM_in hl hKL hn h
    refine ⟨p.1, p.2, ?_⟩
    unfold lookG
    rw [hp]
    simp [h, wyV]
  · refine ⟨0, 0, ?_⟩
    unfold lookG
    rw [getM_not ht hKL h]
    simp [h, wyV]

set_option maxRecDepth 100000 in
set_option maxHeartbeats 6400000 in
theorem du_made_name (B pb mb kb sb : Nat) (v gv lv : Value) (L G K : List Tt) (W : List (Int × Int)) (n : Int) (w : World) (hS : StAt B pb mb kb sb v gv lv L G K W w) (ht : (.name n) ∈ L) (hL : L.length ≤ 60000) :
    Calls Try.prog 70 #[.pointer (some ⟨kb, 0, none⟩), .int .i64 (idT L (.name n))] w fun e w' => e = .returned (mkT L K (.name n)).v ∧ Ext w w' := by
  obtain ⟨j, hj1, hj2⟩ := idT_mem ht
  have HND := Lib.hid (fun w' (e : Ext w w') => by
    have h := te_node B pb mb v L j (.name n) w' (hS.pool.ext e) (by omega) hj2
    rw [← hj1] at h
    exact h)
  have HS := Lib.hid hS
  have HLL := Lib.hid hL
  have hb := hS.know.head
  have lb : kb < w.heap.size := (Array.getElem?_eq_some_iff.1 hb).1
  have hcb := fun j => cell_of_row w _ j _ _ _ hb
  clear hj1 hj2 hS hb ht hL
  generalize hnt : (idT L (.name n) : Int) = nt at HND ⊢
  clear hnt
  unfold ndV at HND
  simp only [ndT] at HND
  unfold mkT Mk.v
  go_enter Try.func70, Try.ntmps70
  go_wp2_with fail
  refine (HND.out _ (Ext.refl _)).mono ?_
  rintro e w1 ⟨rfl, hx1⟩
  obtain ⟨y1, rfl⟩ := ext_of hx1
  have HX1 := Lib.hid hx1
  clear hx1
  go_wp2_with fail
  refine bodyPost_ret (results_tmp4 rfl _ _ _) rfl ?_
  exact ⟨rfl, HX1.out.alloc _⟩

set_option maxRecDepth 100000 in
set_option maxHeartbeats 6400000 in
theorem du_made_num (B pb mb kb sb : Nat) (v gv lv : Value) (L G K : List Tt) (W : List (Int × Int)) (n : Int) (w : World) (hS : StAt B pb mb kb sb v gv lv L G K W w) (ht : (.num n) ∈ L) (hL : L.length ≤ 60000) :
    Calls Try.prog 70 #[.pointer (some ⟨kb, 0, none⟩), .int .i64 (idT L (.num n))] w fun e w' => e = .returned (mkT L K (.num n)).v ∧ Ext w w' := by
  obtain ⟨j, hj1, hj2⟩ := idT_mem ht
  have HND := Lib.hid (fun w' (e : Ext w w') => by
    have h := te_node B pb mb v L j (.num n) w' (hS.pool.ext e) (by omega) hj2
    rw [← hj1] at h
    exact h)
  have HS := Lib.hid hS
  have HLL := Lib.hid hL
  have hb := hS.know.head
  have lb : kb < w.heap.size := (Array.getElem?_eq_some_iff.1 hb).1
  have hcb := fun j => cell_of_row w _ j _ _ _ hb
  clear hj1 hj2 hS hb ht hL
  generalize hnt : (idT L (.num n) : Int) = nt at HND ⊢
  clear hnt
  unfold ndV at HND
  simp only [ndT] at HND
  unfold mkT Mk.v
  go_enter Try.func70, Try.ntmps70
  go_wp2_with fail
  refine (HND.out _ (Ext.refl _)).mono ?_
  rintro e w1 ⟨rfl, hx1⟩
  obtain ⟨y1, rfl⟩ := ext_of hx1
  have HX1 := Lib.hid hx1
  clear hx1
  go_wp2_with fail
  refine bodyPost_ret (results_tmp4 rfl _ _ _) rfl ?_
  exact ⟨rfl, HX1.out.alloc _⟩

set_option maxRecDepth 100000 in
set_option maxHeartbeats 6400000 in
theorem du_made_data (B pb mb kb sb : Nat) (v gv lv : Value) (L G K : List Tt) (W : List (Int × Int)) (s : ByteArray) (w : World) (hS : StAt B pb mb kb sb v gv lv L G K W w) (ht : (.data s) ∈ L) (hL : L.length ≤ 60000) :
    Calls Try.prog 70 #[.pointer (some ⟨kb, 0, none⟩), .int .i64 (idT L (.data s))] w fun e w' => e = .returned (mkT L K (.data s)).v ∧ Ext w w' := by
  obtain ⟨j, hj1, hj2⟩ := idT_mem ht
  have HND := Lib.hid (fun w' (e : Ext w w') => by
    have h := te_node B pb mb v L j (.data s) w' (hS.pool.ext e) (by omega) hj2
    rw [← hj1] at h
    exact h)
  have HS := Lib.hid hS
  have HLL := Lib.hid hL
  have hb := hS.know.head
  have lb : kb < w.heap.size := (Array.getElem?_eq_some_iff.1 hb).1
  have hcb := fun j => cell_of_row w _ j _ _ _ hb
  clear hj1 hj2 hS hb ht hL
  generalize hnt : (idT L (.data s) : Int) = nt at HND ⊢
  clear hnt
  unfold ndV at HND
  simp only [ndT] at HND
  unfold mkT Mk.v
  go_enter Try.func70, Try.ntmps70
  go_wp2_with fail
  refine (HND.out _ (Ext.refl _)).mono ?_
  rintro e w1 ⟨rfl, hx1⟩
  obtain ⟨y1, rfl⟩ := ext_of hx1
  have HX1 := Lib.hid hx1
  clear hx1
  go_wp2_with fail
  refine bodyPost_ret (results_tmp4 rfl _ _ _) rfl ?_
  exact ⟨rfl, HX1.out.alloc _⟩

set_option maxRecDepth 100000 in
set_option maxHeartbeats 6400000 in
theorem du_made_key (B pb mb kb sb : Nat) (v gv lv : Value) (L G K : List Tt) (W : List (Int × Int)) (n : Int) (w : World) (hS : StAt B pb mb kb sb v gv lv L G K W w) (ht : (.key n) ∈ L) (hL : L.length ≤ 60000) :
    Calls Try.prog 70 #[.pointer (some ⟨kb, 0, none⟩), .int .i64 (idT L (.key n))] w fun e w' => e = .returned (mkT L K (.key n)).v ∧ Ext w w' := by
  obtain ⟨j, hj1, hj2⟩ := idT_mem ht
  have HND := Lib.hid (fun w' (e : Ext w w') => by
    have h := te_node B pb mb v L j (.key n) w' (hS.pool.ext e) (by omega) hj2
    rw [← hj1] at h
    exact h)
  have HS := Lib.hid hS
  have HLL := Lib.hid hL
  have hb := hS.know.head
  have lb : kb < w.heap.size := (Array.getElem?_eq_some_iff.1 hb).1
  have hcb := fun j => cell_of_row w _ j _ _ _ hb
  clear hj1 hj2 hS hb ht hL
  generalize hnt : (idT L (.key n) : Int) = nt at HND ⊢
  clear hnt
  unfold ndV at HND
  simp only [ndT] at HND
  unfold mkT Mk.v
  go_enter Try.func70, Try.ntmps70
  go_wp2_with fail
  refine (HND.out _ (Ext.refl _)).mono ?_
  rintro e w1 ⟨rfl, hx1⟩
  obtain ⟨y1, rfl⟩ := ext_of hx1
  have HX1 := Lib.hid hx1
  clear hx1
  go_wp2_with fail
  refine bodyPost_ret (results_tmp4 rfl _ _ _) rfl ?_
  exact ⟨rfl, HX1.out.alloc _⟩

set_option maxRecDepth 100000 in
set_option maxHeartbeats 6400000 in
theorem du_made_hash (B pb mb kb sb : Nat) (v gv lv : Value) (L G K : List Tt) (W : List (Int × Int)) (a : Tt) (w : World) (hS : StAt B pb mb kb sb v gv lv L G K W w) (ht : (.hash a) ∈ L) (hL : L.length ≤ 60000) :
    Calls Try.prog 70 #[.pointer (some ⟨kb, 0, none⟩), .int .i64 (idT L (.hash a))] w fun e w' => e = .returned (mkT L K (.hash a)).v ∧ Ext w w' := by
  obtain ⟨j, hj1, hj2⟩ := idT_mem ht
  have HND := Lib.hid (fun w' (e : Ext w w') => by
    have h := te_node B pb mb v L j (.hash a) w' (hS.pool.ext e) (by omega) hj2
    rw [← hj1] at h
    exact h)
  have HS := Lib.hid hS
  have HLL := Lib.hid hL
  have hb := hS.know.head
  have lb : kb < w.heap.size := (Array.getElem?_eq_some_iff.1 hb).1
  have hcb := fun j => cell_of_row w _ j _ _ _ hb
  clear hj1 hj2 hS hb ht hL
  generalize hnt : (idT L (.hash a) : Int) = nt at HND ⊢
  clear hnt
  unfold ndV at HND
  simp only [ndT] at HND
  unfold mkT Mk.v
  go_enter Try.func70, Try.ntmps70
  go_wp2_with fail
  refine (HND.out _ (Ext.refl _)).mono ?_
  rintro e w1 ⟨rfl, hx1⟩
  obtain ⟨y1, rfl⟩ := ext_of hx1
  have HX1 := Lib.hid hx1
  clear hx1
  go_wp2_with fail
  refine bodyPost_ret (results_tmp4 rfl _ _ _) rfl ?_
  exact ⟨rfl, HX1.out.alloc _⟩

set_option maxRecDepth 100000 in
set_option maxHeartbeats 6400000 in
theorem du_made_pair (B pb mb kb sb : Nat) (v gv lv : Value) (L G K : List Tt) (W : List (Int × Int)) (a b : Tt) (w : World) (hS : StAt B pb mb kb sb v gv lv L G K W w) (ht : (.pair a b) ∈ L) (hL : L.length ≤ 60000) :
    Calls Try.prog 70 #[.pointer (some ⟨kb, 0, none⟩), .int .i64 (idT L (.pair a b))] w fun e w' => e = .returned (mkT L K (.pair a b)).v ∧ Ext w w' := by
  obtain ⟨j, hj1, hj2⟩ := idT_mem ht
  have HND := Lib.hid (fun w' (e : Ext w w') => by
    have h := te_node B pb mb v L j (.pair a b) w' (hS.pool.ext e) (by omega) hj2
    rw [← hj1] at h
    exact h)
  have HS := Lib.hid hS
  have HLL := Lib.hid hL
  have hb := hS.know.head
  have lb : kb < w.heap.size := (Array.getElem?_eq_some_iff.1 hb).1
  have hcb := fun j => cell_of_row w _ j _ _ _ hb
  clear hj1 hj2 hS hb ht hL
  generalize hnt : (idT L (.pair a b) : Int) = nt at HND ⊢
  clear hnt
  unfold ndV at HND
  simp only [ndT] at HND
  unfold mkT Mk.v
  go_enter Try.func70, Try.ntmps70
  go_wp2_with fail
  refine (HND.out _ (Ext.refl _)).mono ?_
  rintro e w1 ⟨rfl, hx1⟩
  obtain ⟨y1, rfl⟩ := ext_of hx1
  have HX1 := Lib.hid hx1
  clear hx1
  go_wp2_with fail
  refine wp_region_ext (by kernel_rfl) (by kernel_rfl) ?_
  repeat (go_big_quiet_step (fail))
  refine wpQuiet_nil ?_
  intro _ hx'
  obtain ⟨z, rfl⟩ := hx'
  go_wp2_with fail
  refine bodyPost_ret (results_tmp4 rfl _ _ _) rfl ?_
  exact ⟨rfl, (HX1.out.alloc _).val z⟩

set_option maxRecDepth 100000 in
set_option maxHeartbeats 6400000 in
theorem du_made_sign (B pb mb kb sb : Nat) (v gv lv : Value) (L G K : List Tt) (W : List (Int × Int)) (n : Int) (a : Tt) (w : World) (hS : StAt B pb mb kb sb v gv lv L G K W w) (ht : (.sign n a) ∈ L) (hL : L.length ≤ 60000) :
    Calls Try.prog 70 #[.pointer (some ⟨kb, 0, none⟩), .int .i64 (idT L (.sign n a))] w fun e w' => e = .returned (mkT L K (.sign n a)).v ∧ Ext w w' := by
  obtain ⟨j, hj1, hj2⟩ := idT_mem ht
  have HND := Lib.hid (fun w' (e : Ext w w') => by
    have h := te_node B pb mb v L j (.sign n a) w' (hS.pool.ext e) (by omega) hj2
    rw [← hj1] at h
    exact h)
  have HS := Lib.hid hS
  have HLL := Lib.hid hL
  have hb := hS.know.head
  have lb : kb < w.heap.size := (Array.getElem?_eq_some_iff.1 hb).1
  have hcb := fun j => cell_of_row w _ j _ _ _ hb
  clear hj1 hj2 hS hb ht hL
  generalize hnt : (idT L (.sign n a) : Int) = nt at HND ⊢
  clear hnt
  unfold ndV at HND
  simp only [ndT] at HND
  obtain ⟨kk, hkk⟩ : ∃ kk, decide (Tt.key n ∈ K) = kk := ⟨_, rfl⟩
  have hmk : (mkT L K (.sign n a)).v = .tuple #[.int .i64 (idT L a), .int .i64 (idT L (.key n)), .bool false, .bool kk] := by rw [← hkk]; rfl
  rw [hmk]
  have HKK := Lib.hid hkk
  clear hkk hmk
  go_enter Try.func70, Try.ntmps70
  go_wp2_with fail
  refine (HND.out _ (Ext.refl _)).mono ?_
  rintro e w1 ⟨rfl, hx1⟩
  obtain ⟨y1, rfl⟩ := ext_of hx1
  have HX1 := Lib.hid hx1
  clear hx1
  go_wp2_with fail
  have hkr := look_t HS.out.ok (t := .key n) (by simp [kidsT])
  have HHAS := Lib.hid (fun w' (e : Ext w w') => te_has B pb mb v L (ndT L (.key n)) _ _ hkr w' (HS.out.pool.ext e))
  simp only [ndV, ndT] at HHAS
  have e1 := HX1.out.alloc (.cells #[.int .i64 7, .int .i64 n, .int .i64 0, .int .u64 0, .string { data := #[] }, .int .i64 (idT L a), .int .i64 0] 85)
  have HE1 := Lib.hid e1
  clear hkr e1
  refine (HHAS.out _ HE1.out).mono ?_
  rintro e w2 ⟨rfl, hx2⟩
  have HX2 := Lib.hid (HE1.out.trans hx2)
  have hr2 := heap_ext (heap_new (w := y1.val) (o := .cells #[.int .i64 7, .int .i64 n, .int .i64 0, .int .u64 0, .string { data := #[] }, .int .i64 (idT L a), .int .i64 0] 85) rfl) hx2
  have lr2 := (Array.getElem?_eq_some_iff.1 hr2).1
  have hcr2 := fun j => cell_of_row w2 _ j _ _ _ hr2
  clear hx2 hr2 HND HHAS
  by_cases hkL : Tt.key n ∈ L
  · obtain ⟨x, y, hxy⟩ := key_look HS.out.know.len HS.out.KL HS.out.nd hkL
    have HSE := Lib.hid (fun w' (e : Ext w w') => du_sees B kb sb pb gv lv L G K W (idT L (.key n)) (.bool true) _ w' (HS.out.know.ext e) x y hxy)
    clear hxy
    have hd : decide (Tt.key n ∈ L) = true := by simpa using hkL
    rw [hd]
    rw [HKK.out] at HSE
    clear hkL hd
    go_wp2_with fail
    refine wp_region_ext (by kernel_rfl) (by kernel_rfl) ?_
    repeat (go_big_quiet_step ((go_at_call 82; exact calls_ext (HSE.out _ (HX2.out.trans (ExtOf.ext _))))))
    refine wpQuiet_nil ?_
    intro _ hx'
    obtain ⟨z, rfl⟩ := hx'
    go_wp2_with fail
    refine bodyPost_ret (results_tmp4 rfl _ _ _) rfl ?_
    exact ⟨rfl, HX2.out.val z⟩
  · have hd : decide (Tt.key n ∈ L) = false := by simpa using hkL
    have hk : decide (Tt.key n ∈ K) = false := by simpa using fun h => hkL (HS.out.KL _ h)
    rw [HKK.out] at hk
    rw [hd]
    clear hkL hd
    have HKF := Lib.hid hk
    clear hk
    go_wp2_with fail
    refine wp_region_ext (by kernel_rfl) (by kernel_rfl) ?_
    repeat (go_big_quiet_step (fail))
    refine wpQuiet_nil ?_
    intro _ hx'
    obtain ⟨z, rfl⟩ := hx'
    go_wp2_with fail
    refine bodyPost_ret (results_tmp4 rfl _ _ _) rfl ?_
    exact ⟨by rw [HKF.out]; rfl, HX2.out.val z⟩

set_option maxRecDepth 100000 in
set_option maxHeartbeats 6400000 in
theorem du_made_prom (B pb mb kb sb : Nat) (v gv lv : Value) (L G K : List Tt) (W : List (Int × Int)) (f t : Int) (a : Tt) (w : World) (hS : StAt B pb mb kb sb v gv lv L G K W w) (ht : (.prom f t a) ∈ L) (hL : L.length ≤ 60000) :
    Calls Try.prog 70 #[.pointer (some ⟨kb, 0, none⟩), .int .i64 (idT L (.prom f t a))] w fun e w' => e = .returned (mkT L K (.prom f t a)).v ∧ Ext w w' := by
  obtain ⟨j, hj1, hj2⟩ := idT_mem ht
  have HND := Lib.hid (fun w' (e : Ext w w') => by
    have h := te_node B pb mb v L j (.prom f t a) w' (hS.pool.ext e) (by omega) hj2
    rw [← hj1] at h
    exact h)
  have HS := Lib.hid hS
  have HLL := Lib.hid hL
  have hb := hS.know.head
  have lb : kb < w.heap.size := (Array.getElem?_eq_some_iff.1 hb).1
  have hcb := fun j => cell_of_row w _ j _ _ _ hb
  clear hj1 hj2 hS hb ht hL
  generalize hnt : (idT L (.prom f t a) : Int) = nt at HND ⊢
  clear hnt
  unfold ndV at HND
  simp only [ndT] at HND
  obtain ⟨kk, hkk⟩ : ∃ kk, decide (Tt.key f ∈ K) = kk := ⟨_, rfl⟩
  have hmk : (mkT L K (.prom f t a)).v = .tuple #[.int .i64 (idT L a), .int .i64 (idT L (.key f)), .bool false, .bool kk] := by rw [← hkk]; rfl
  rw [hmk]
  have HKK := Lib.hid hkk
  clear hkk hmk
  go_enter Try.func70, Try.ntmps70
  go_wp2_with fail
  refine (HND.out _ (Ext.refl _)).mono ?_
  rintro e w1 ⟨rfl, hx1⟩
  obtain ⟨y1, rfl⟩ := ext_of hx1
  have HX1 := Lib.hid hx1
  clear hx1
  go_wp2_with fail
  have hkr := look_t HS.out.ok (t := .key f) (by simp [kidsT])
  have HHAS := Lib.hid (fun w' (e : Ext w w') => te_has B pb mb v L (ndT L (.key f)) _ _ hkr w' (HS.out.pool.ext e))
  simp only [ndV, ndT] at HHAS
  have e1 := HX1.out.alloc (.cells #[.int .i64 8, .int .i64 f, .int .i64 t, .int .u64 0, .string { data := #[] }, .int .i64 (idT L a), .int .i64 0] 85)
  have HE1 := Lib.hid e1
  clear hkr e1
  refine (HHAS.out _ HE1.out).mono ?_
  rintro e w2 ⟨rfl, hx2⟩
  have HX2 := Lib.hid (HE1.out.trans hx2)
  have hr2 := heap_ext (heap_new (w := y1.val) (o := .cells #[.int .i64 8, .int .i64 f, .int .i64 t, .int .u64 0, .string { data := #[] }, .int .i64 (idT L a), .int .i64 0] 85) rfl) hx2
  have lr2 := (Array.getElem?_eq_some_iff.1 hr2).1
  have hcr2 := fun j => cell_of_row w2 _ j _ _ _ hr2
  clear hx2 hr2 HND HHAS
  by_cases hkL : Tt.key f ∈ L
  · obtain ⟨x, y, hxy⟩ := key_look HS.out.know.len HS.out.KL HS.out.nd hkL
    have HSE := Lib.hid (fun w' (e : Ext w w') => du_sees B kb sb pb gv lv L G K W (idT L (.key f)) (.bool true) _ w' (HS.out.know.ext e) x y hxy)
    clear hxy
    have hd : decide (Tt.key f ∈ L) = true := by simpa using hkL
    rw [hd]
    rw [HKK.out] at HSE
    clear hkL hd
    go_wp2_with fail
    refine wp_region_ext (by kernel_rfl) (by kernel_rfl) ?_
    repeat (go_big_quiet_step ((go_at_call 82; exact calls_ext (HSE.out _ (HX2.out.trans (ExtOf.ext _))))))
    refine wpQuiet_nil ?_
    intro _ hx'
    obtain ⟨z, rfl⟩ := hx'
    go_wp2_with fail
    refine bodyPost_ret (results_tmp4 rfl _ _ _) rfl ?_
    exact ⟨rfl, HX2.out.val z⟩
  · have hd : decide (Tt.key f ∈ L) = false := by simpa using hkL
    have hk : decide (Tt.key f ∈ K) = false := by simpa using fun h => hkL (HS.out.KL _ h)
    rw [HKK.out] at hk
    rw [hd]
    clear hkL hd
    have HKF := Lib.hid hk
    clear hk
    go_wp2_with fail
    refine wp_region_ext (by kernel_rfl) (by kernel_rfl) ?_
    repeat (go_big_quiet_step (fail))
    refine wpQuiet_nil ?_
    intro _ hx'
    obtain ⟨z, rfl⟩ := hx'
    go_wp2_with fail
    refine bodyPost_ret (results_tmp4 rfl _ _ _) rfl ?_
    exact ⟨by rw [HKF.out]; rfl, HX2.out.val z⟩

set_option maxRecDepth 100000 in
set_option maxHeartbeats 6400000 in
theorem du_made_fake (B pb mb kb sb : Nat) (v gv lv : Value) (L G K : List Tt) (W : List (Int × Int)) (f t : Int) (a : Tt) (w : World) (hS : StAt B pb mb kb sb v gv lv L G K W w) (ht : (.fake f t a) ∈ L) (hL : L.length ≤ 60000) :
    Calls Try.prog 70 #[.pointer (some ⟨kb, 0, none⟩), .int .i64 (idT L (.fake f t a))] w fun e w' => e = .returned (mkT L K (.fake f t a)).v ∧ Ext w w' := by
  obtain ⟨j, hj1, hj2⟩ := idT_mem ht
  have HND := Lib.hid (fun w' (e : Ext w w') => by
    have h := te_node B pb mb v L j (.fake f t a) w' (hS.pool.ext e) (by omega) hj2
    rw [← hj1] at h
    exact h)
  have HS := Lib.hid hS
  have HLL := Lib.hid hL
  have hb := hS.know.head
  have lb : kb < w.heap.size := (Array.getElem?_eq_some_iff.1 hb).1
  have hcb := fun j => cell_of_row w _ j _ _ _ hb
  clear hj1 hj2 hS hb ht hL
  generalize hnt : (idT L (.fake f t a) : Int) = nt at HND ⊢
  clear hnt
  unfold ndV at HND
  simp only [ndT] at HND
  obtain ⟨kk, hkk⟩ : ∃ kk, decide (Tt.key t ∈ K) = kk := ⟨_, rfl⟩
  have hmk : (mkT L K (.fake f t a)).v = .tuple #[.int .i64 (idT L a), .int .i64 (idT L (.key t)), .bool false, .bool kk] := by rw [← hkk]; rfl
  rw [hmk]
  have HKK := Lib.hid hkk
  clear hkk hmk
  go_enter Try.func70, Try.ntmps70
  go_wp2_with fail
  refine (HND.out _ (Ext.refl _)).mono ?_
  rintro e w1 ⟨rfl, hx1⟩
  obtain ⟨y1, rfl⟩ := ext_of hx1
  have HX1 := Lib.hid hx1
  clear hx1
  go_wp2_with fail
  have hkr := look_t HS.out.ok (t := .key t) (by simp [kidsT])
  have HHAS := Lib.hid (fun w' (e : Ext w w') => te_has B pb mb v L (ndT L (.key t)) _ _ hkr w' (HS.out.pool.ext e))
  simp only [ndV, ndT] at HHAS
  have e1 := HX1.out.alloc (.cells #[.int .i64 9, .int .i64 f, .int .i64 t, .int .u64 0, .string { data := #[] }, .int .i64 (idT L a), .int .i64 0] 85)
  have HE1 := Lib.hid e1
  clear hkr e1
  refine (HHAS.out _ HE1.out).mono ?_
  rintro e w2 ⟨rfl, hx2⟩
  have HX2 := Lib.hid (HE1.out.trans hx2)
  have hr2 := heap_ext (heap_new (w := y1.val) (o := .cells #[.int .i64 9, .int .i64 f, .int .i64 t, .int .u64 0, .string { data := #[] }, .int .i64 (idT L a), .int .i64 0] 85) rfl) hx2
  have lr2 := (Array.getElem?_eq_some_iff.1 hr2).1
  have hcr2 := fun j => cell_of_row w2 _ j _ _ _ hr2
  clear hx2 hr2 HND HHAS
  by_cases hkL : Tt.key t ∈ L
  · obtain ⟨x, y, hxy⟩ := key_look HS.out.know.len HS.out.KL HS.out.nd hkL
    have HSE := Lib.hid (fun w' (e : Ext w w') => du_sees B kb sb pb gv lv L G K W (idT L (.key t)) (.bool true) _ w' (HS.out.know.ext e) x y hxy)
    clear hxy
    have hd : decide (Tt.key t ∈ L) = true := by simpa using hkL
    rw [hd]
    rw [HKK.out] at HSE
    clear hkL hd
    go_wp2_with fail
    refine wp_region_ext (by kernel_rfl) (by kernel_rfl) ?_
    repeat (go_big_quiet_step ((go_at_call 82; exact calls_ext (HSE.out _ (HX2.out.trans (ExtOf.ext _))))))
    refine wpQuiet_nil ?_
    intro _ hx'
    obtain ⟨z, rfl⟩ := hx'
    go_wp2_with fail
    refine bodyPost_ret (results_tmp4 rfl _ _ _) rfl ?_
    exact ⟨rfl, HX2.out.val z⟩
  · have hd : decide (Tt.key t ∈ L) = false := by simpa using hkL
    have hk : decide (Tt.key t ∈ K) = false := by simpa using fun h => hkL (HS.out.KL _ h)
    rw [HKK.out] at hk
    rw [hd]
    clear hkL hd
    have HKF := Lib.hid hk
    clear hk
    go_wp2_with fail
    refine wp_region_ext (by kernel_rfl) (by kernel_rfl) ?_
    repeat (go_big_quiet_step (fail))
    refine wpQuiet_nil ?_
    intro _ hx'
    obtain ⟨z, rfl⟩ := hx'
    go_wp2_with fail
    refine bodyPost_ret (results_tmp4 rfl _ _ _) rfl ?_
    exact ⟨by rw [HKF.out]; rfl, HX2.out.val z⟩

theorem du_made (B pb mb kb sb : Nat) (v gv lv : Value) (L G K : List Tt) (W : List (Int × Int)) (t : Tt) (w : World) (hS : StAt B pb mb kb sb v gv lv L G K W w) (ht : t ∈ L) (hL : L.length ≤ 60000) :
    Calls Try.prog 70 #[.pointer (some ⟨kb, 0, none⟩), .int .i64 (idT L t)] w fun e w' => e = .returned (mkT L K t).v ∧ Ext w w' := by
  cases t with
  | name n => exact du_made_name B pb mb kb sb v gv lv L G K W n w hS ht hL
  | num n => exact du_made_num B pb mb kb sb v gv lv L G K W n w hS ht hL
  | data n => exact du_made_data B pb mb kb sb v gv lv L G K W n w hS ht hL
  | key n => exact du_made_key B pb mb kb sb v gv lv L G K W n w hS ht hL
  | hash a => exact du_made_hash B pb mb kb sb v gv lv L G K W a w hS ht hL
  | pair a b => exact du_made_pair B pb mb kb sb v gv lv L G K W a b w hS ht hL
  | sign n a => exact du_made_sign B pb mb kb sb v gv lv L G K W n a w hS ht hL
  | prom f t a => exact du_made_prom B pb mb kb sb v gv lv L G K W f t a w hS ht hL
  | fake f t a => exact du_made_fake B pb mb kb sb v gv lv L G K W f t a w hS ht hL
end Go.Proofs.Ytfibbhmmiemcoaa

/-
  The walk of sees: a term is noted, and all that it shows. No condition.
-/
import Derived.Test.YtfibbhmmiemcoaaML31
set_option linter.all false
namespace Go.Proofs.Ytfibbhmmiemcoaa
open Go.RowKit
attribute [local go_sem] ExtOf.cell ExtOf.frozen ExtOf.lt ExtOf.le
attribute [local go_sem high] ExtOf.cell2 ExtOf.frozen2 ExtOf.lt2 ExtOf.cell3 ExtOf.frozen3 ExtOf.lt3 ExtOf.cellX ExtOf.frozenX ExtOf.cellX' ExtOf.frozenX' ExtOf.cellN ExtOf.frozenN

set_option maxRecDepth 100000 in
set_option maxHeartbeats 3200000 in
theorem du_sees_old (B kb sb pb : Nat) (gv lv : Value) (L G K : List Tt) (W : List (Int × Int)) (n r f : Int) (w : World) (hK : KnowAt B kb sb pb gv lv L G K W w) (x y : Int) (hl : lookG (seenL L K W) n (wyV (0, 0)) true = .tuple #[.agg #[.int .i64 x, .int .i64 y], .bool true]) :
    Calls Try.prog 32 #[.pointer (some ⟨kb, 0, none⟩), .int .i64 n, .agg #[.int .i64 r, .int .i64 f]] w fun e w' => e = .returned (.tuple #[]) ∧ Ext w w' := by
  have HLK := Lib.hid (fun w' (e : Ext w w') => by
    have h := look_seen (hK.ext e) n
    rw [hl] at h
    exact h)
  have hb := hK.head
  have lb : kb < w.heap.size := (Array.getElem?_eq_some_iff.1 hb).1
  have hcb := fun j => cell_of_row w _ j _ _ _ hb
  clear hK hb hl
  go_enter Try.func32, Try.ntmps32
  go_upto_region 1 with fail
  have hk := HLK.out _ (((Ext.refl w).alloc (.cells #[.pointer (some ⟨kb, 0, none⟩)] 42)).alloc (.cells #[.int .i64 r, .int .i64 f] 91))
  go_wp2_with fail
  exact ⟨rfl, .tuple #[], by simp [results, go_sem], rfl, (((Ext.refl _).alloc _).alloc _).alloc _⟩

/-- The pool in a pointer's place. -/
theorem pool_row {B pb mb : Nat} {v : Value} {L : List Tt} {w w' : World} (h : PoolAt B pb mb v L w) (e : Ext w w') : PoolAt B pb mb v L w' := h.ext e

/-- Behind sees: what is known now. -/
def SeesPost (B pb mb kb sb : Nat) (v gv lv : Value) (L G K : List Tt) (t : Tt) (w w' : World) : Prop :=
  ∃ lv' K' W', StAt B pb mb kb sb v gv lv' L G K' W' w' ∧ Keeps (kb :: sb :: rowB lv) w w' ∧ (∀ g ∈ rowB lv', g ∈ rowB lv ∨ w.heap.size ≤ g) ∧ (∀ u, u ∈ K' ↔ u ∈ K ∨ u ∈ visT t) ∧ ∀ u ∈ K', ∀ d ∈ downT u, d ∈ K'
/-- Two steps, one behind the other. -/
theorem keeps_two {kb sb : Nat} {lv lv' lv2 : Value} {w a b : World} (h : Keeps (kb :: sb :: rowB lv) w a) (hf : ∀ g ∈ rowB lv', g ∈ rowB lv ∨ w.heap.size ≤ g) (h2 : Keeps (kb :: sb :: rowB lv') a b) (hf2 : ∀ g ∈ rowB lv2, g ∈ rowB lv' ∨ a.heap.size ≤ g) :
    Keeps (kb :: sb :: rowB lv) w b ∧ ∀ g ∈ rowB lv2, g ∈ rowB lv ∨ w.heap.size ≤ g := by
  refine ⟨⟨h2.os.trans h.os, h2.tape.trans h.tape, h2.output.trans h.output, Nat.le_trans h.size h2.size, fun k hk hx => (h2.block k (Nat.lt_of_lt_of_le hk h.size) (fresh_out hx hk hf)).trans (h.block k hk hx)⟩, fun g hg => ?_⟩
  rcases hf2 g hg with e | e
  · exact hf g e
  · exact .inr (Nat.le_trans h.size e)

/-- Between the rounds: what is known; the cell of k. -/
def SeesSt (B pb mb kb sb : Nat) (v gv lv : Value) (L G K' : List Tt) (w wx : World) : Prop :=
  ∃ lv' W', StAt B pb mb kb sb v gv lv' L G K' W' wx ∧ Keeps (kb :: sb :: rowB lv) w wx ∧ (∀ g ∈ rowB lv', g ∈ rowB lv ∨ w.heap.size ≤ g) ∧
    wx.heap[w.heap.size]? = some (.cells #[.pointer (some ⟨kb, 0, none⟩)] 42 (0, 0)) ∧ w.heap.size ∉ kb :: sb :: rowB lv'
theorem sees_start {B pb mb kb sb : Nat} {v gv lv : Value} {L G K : List Tt} {W : List (Int × Int)} {t : Tt} {w wx : World} (hS : StAt B pb mb kb sb v gv lv L G K W w) (ht : t ∈ L) (hn : t ∉ K) (hk : Known B kb sb pb gv lv L G (K ++ [t]) (W ++ [(0, 0)]) w wx)
    (hc : wx.heap[w.heap.size]? = some (.cells #[.pointer (some ⟨kb, 0, none⟩)] 42 (0, 0))) (ho : ∀ lv' g, g ∈ rowB lv' → wx.ownsRow B 44 1 lv' (K.length + 1) ((K ++ [t]).map fun t => .int .i64 (idT L t)) → g ≠ w.heap.size) : SeesSt B pb mb kb sb v gv lv L G (K ++ [t]) w wx := by
  have nd := addT_nodup hS.nd t
  rw [show addT K t = K ++ [t] from if_neg hn] at nd
  obtain ⟨lv', h1, h2, h3⟩ := hS.note hk (fun x hx => by
    rcases List.mem_append.1 hx with h | h
    · exact hS.KL x h
    · rw [List.mem_singleton.1 h]; exact ht) nd (way_given hS.know.len hS.way)
  refine ⟨lv', _, h1, h2, h3, hc, ?_⟩
  have hl := hS.know.lo
  have lk := (Array.getElem?_eq_some_iff.1 hS.know.head).1
  have ls := hS.know.map.lt
  simp only [List.mem_cons, not_or]
  exact ⟨by omega, by omega, fun hm => ho lv' _ hm (by have := h1.know.list; simpa using this) rfl⟩

set_option maxRecDepth 100000 in
set_option maxHeartbeats 16000000 in
theorem du_sees_new (B pb mb kb sb : Nat) (v gv lv : Value) (L G K : List Tt) (W : List (Int × Int)) (t : Tt) (w : World) (hS : StAt B pb mb kb sb v gv lv L G K W w)
    (hcl : ∀ u ∈ K, ∀ d ∈ downT u, d ∈ K) (ht : t ∈ L) (hn : t ∉ K) (hlen : K.length + (visT t).length ≤ 60000) (hL : L.length ≤ 60000) :
    Calls Try.prog 32 #[.pointer (some ⟨kb, 0, none⟩), .int .i64 (idT L t), .agg #[.int .i64 0, .int .i64 0]] w fun e w' => e = .returned (.tuple #[]) ∧ SeesPost B pb mb kb sb v gv lv L G K t w w' := by
  obtain ⟨ti0, hi, hz0, hz1, hz2⟩ := info_parts info_term
  have hK := hS.know
  have hKL := hS.KL
  have hlg : lookG (seenL L K W) (idT L t) (wyV (0, 0)) true = .tuple #[.agg #[.int .i64 0, .int .i64 0], .bool false] := by
    unfold lookG
    rw [getM_not ht hKL hn]
    rfl
  have HLK := Lib.hid (fun w' (e : Ext w w') => by
    have h := look_seen (hK.ext e) (idT L t)
    rw [hlg] at h
    exact h)
  have hb := hK.head
  have lb : kb < w.heap.size := (Array.getElem?_eq_some_iff.1 hb).1
  have hcb := fun j => cell_of_row w _ j _ _ _ hb
  obtain ⟨a, cap, hlv, _, _⟩ := own_view hK.list
  have HS := Lib.hid hS
  have HK := Lib.hid hK
  have hz : K.length ≤ 60000 := by omega
  have HA := Lib.hid (And.intro hKL (And.intro ht (And.intro hn (And.intro hz (And.intro hcl (And.intro hlen hL))))))
  have hadd := Lib.hid (seenL_add (p := (0, 0)) hK.len ht hKL hn)
  clear hS hK hb hcl hKL ht hn hlen hlg hz hL
  generalize hnt : (idT L t : Int) = nt at HLK hadd ⊢
  have HNT := Lib.hid hnt
  clear hnt
  go_enter Try.func32, Try.ntmps32
  go_upto_region 1 with fail
  have hk := HLK.out _ (((Ext.refl w).alloc (.cells #[.pointer (some ⟨kb, 0, none⟩)] 42)).alloc (.cells #[.int .i64 0, .int .i64 0] 91))
  go_upto_region 3 with fail
  have hx1 := (((Ext.refl w).alloc (.cells #[.pointer (some ⟨kb, 0, none⟩)] 42)).alloc (.cells #[.int .i64 0, .int .i64 0] 91)).alloc (.cells #[.int .i64 0, .int .i64 0] 91)
  have HK1 := Lib.hid (HK.out.ext hx1)
  have HX1 := Lib.hid hx1
  have HC11 := Lib.hid (heap_ext (heap_new (w := w) (o := .cells #[.pointer (some ⟨kb, 0, none⟩)] 42) rfl) (((Ext.refl _).alloc (.cells #[.int .i64 0, .int .i64 0] 91)).alloc (.cells #[.int .i64 0, .int .i64 0] 91)))
  have HC51 : Hid ((((w.alloc (.cells #[.pointer (some ⟨kb, 0, none⟩)] 42)).alloc (.cells #[.int .i64 0, .int .i64 0] 91)).alloc (.cells #[.int .i64 0, .int .i64 0] 91)).heap[w.heap.size + 1]? = some (.cells #[.int .i64 0, .int .i64 0] 91 (0, 0))) := Lib.hid (heap_ext (heap_new (by simp)) ((Ext.refl _).alloc _))
  clear hcb hk lb hx1 HLK
  have hc1w : Hid (w.heap.size = w.heap.size) := Lib.hid rfl
  generalize hw1 : ((w.alloc (.cells #[.pointer (some ⟨kb, 0, none⟩)] 42)).alloc (.cells #[.int .i64 0, .int .i64 0] 91)).alloc (.cells #[.int .i64 0, .int .i64 0] 91) = w1 at HK1 HC11 HC51 HX1 ⊢
  clear hw1 hc1w
  have hb := HK1.out.head
  have lb : kb < w1.heap.size := (Array.getElem?_eq_some_iff.1 hb).1
  have hcb := fun j => cell_of_row w1 _ j _ _ _ hb
  have lc : w.heap.size < w1.heap.size := (Array.getElem?_eq_some_iff.1 HC11.out).1
  have hcc := fun j => cell_of_row w1 _ j _ _ _ HC11.out
  have lc5 : w.heap.size + 1 < w1.heap.size := (Array.getElem?_eq_some_iff.1 HC51.out).1
  have hcc5 := fun j => cell_of_row w1 _ j _ _ _ HC51.out
  go_cut [] (fun wx => Hid (NoteMid B kb sb pb w.heap.size w.heap.size gv lv L G K t t (0, 0) W 42 w wx))
  case first =>
    clear hb
    refine wp_region_late (af := ?af1) [true, true, true, true, true, true, false] [false, false, false, false, false, false, true] 90 (Ext w1) (by kernel_rfl) rfl (by kernel_rfl) (fun _ _ h e => Ext.trans h e) (Ext.refl w1).drew ?q ?r
    case q =>
      intro w' hw'
      obtain ⟨y, rfl⟩ := ext_of hw'
      simp only [pickT, if_true, if_false, Bool.false_eq_true]
      repeat (go_big_quiet_step (fail))
      exact rfl
    case r =>
      simp only [pickN, if_true, if_false, Bool.false_eq_true]
      intro y1
      have e1 : Ext w1 y1.val := (Ext.refl _).drew.val y1
      refine wpList_updateG rfl _ _ _ rfl (keys_int Try.underlying44) Try.underlying75 sb _ nt (wyV (0, 0)) rfl rfl rfl (HK1.out.map.ext e1) fun ob hM' => ?_
      rw [hadd.out] at hM'
      have hlo := HK1.out.lo
      have hlw := HK.out.lo
      try refine ⟨fun h => absurd h (by decide), ?_⟩
      intro y3
      go_wp2_with fail
      go_meet
      refine Lib.hid ⟨heap_ext ((setB_other hlo.2.2.1).trans (heap_ext HK1.out.head e1)) y3.ext, own_ext (own_same (own_ext HK1.out.given e1) (fun k hk _ => setB_other (by omega))) y3.ext, own_ext (own_same (own_ext HK1.out.list e1) (fun k hk _ => setB_other (by omega))) y3.ext, hM'.ext y3.ext, heap_ext ((setB_other (by omega)).trans (heap_ext HC11.out e1)) y3.ext, ?_⟩
      have h1 := (Keeps.refl (kb :: sb :: rowB lv) w).ext (HX1.out.trans e1)
      have h2 : Keeps (kb :: sb :: rowB lv) w (setB y1.val sb ob) := ⟨h1.os, h1.tape, h1.output, by simpa [setB] using h1.size, fun k hk hx => (setB_other (fun e => hx (by rw [e]; simp))).trans (h1.block k hk hx)⟩
      exact h2.ext y3.ext
  case rest =>
    have hM := hcut.out
    obtain ⟨h1, h2, h3, h4, h5, h6⟩ := hM
    have HM := hcut
    clear hcut
    clear hb hcb lb hcc lc lc5 hcc5 HC11 HC51 HX1
    have hcb := fun j => cell_of_row wc _ j _ _ _ h1
    have lb : kb < wc.heap.size := (Array.getElem?_eq_some_iff.1 h1).1
    have lc : w.heap.size < wc.heap.size := (Array.getElem?_eq_some_iff.1 h5).1
    have hcc := fun j => cell_of_row wc _ j _ _ _ h5
    have lo := HK.out.lo
    have hdis := HK.out.dis
    have hlen := HK.out.len
    have hlr := row_lo HK.out.list
    have hlt := row_lt HK.out.list
    have hgr : ∀ g ∈ rowB gv, g < wc.heap.size := row_lt h2
    have hBx : B ≤ wc.heap.size := Nat.le_trans lo.2.2.2 h6.size
    have HEND := Lib.hid (fun v' w5 w6 c5 o5 hr e6 => note_end (v' := v') (w5 := w5) (w6 := w6) lo hdis hlen hlr hgr HM.out c5 o5 hr e6)
    have HH := Lib.hid h1
    have HH5 := Lib.hid h5
    have HB := Lib.hid (And.intro lo.1 (And.intro hBx HA.out.2.2.2.1))
    have HNL := Lib.hid (show w.heap.size ∉ rowB lv from fun h => by have := hlt _ h; omega)
    have HNK := Lib.hid (show kb < w.heap.size ∧ sb < w.heap.size from ⟨by omega, by omega⟩)
    have HO := Lib.hid h3
    clear h1 h2 h3 h4 h5 h6 lo hdis hlen hlr hgr hBx HM hlt HK1 hadd
    subst hlv
    go_upto_region 5 with fail
    go_cut [8] (fun at_ wx => at_ = .int .i64 (K.length : Int) ∧ Hid (SeesSt B pb mb kb sb v gv (.slice a K.length cap) L G (K ++ [t]) w wx))
    case first =>
      have HSN := Lib.hid (fun wx hk hc => sees_start (wx := wx) HS.out HA.out.2.1 HA.out.2.2.1 hk hc (fun lv' g hg ho => by
        rcases ho.2 with ⟨_, h0⟩ | ⟨g', cap', cur', h0, _, hh, _⟩
        · omega
        · subst h0
          simp [rowB, Value.ownBlock] at hg
          rintro rfl
          rw [hg, hh] at hc
          cases hc))
      rcases HO.out.2 with ⟨hv, hn⟩ | ⟨g, cap2, cur, hv, hbg, hg, hnc, hcm, hcs, htk⟩
      · obtain rfl : K = [] := List.length_eq_zero_iff.1 hn
        simp only [Value.slice.injEq] at hv
        obtain ⟨rfl, _, rfl⟩ := hv
        refine wp_region_late (af := ?af2) [true, true, true, true, true, true, false, false, false, false, false] [false, false, false, false, false, false, false, false, true, true, true] 90 (fun w' => wc.grownBy w' none) (by kernel_rfl) rfl (by kernel_rfl) (fun _ _ h e => non_extK h e) (non_ofK (Ext.refl wc).drew) ?q ?r
        case q =>
          intro w' hw'
          obtain ⟨y, rfl⟩ : ∃ y : ExtOf wc, w' = y.val := ⟨⟨w', ext_grown hw'⟩, rfl⟩
          simp only [pickT, if_true, if_false, Bool.false_eq_true]
          repeat (go_big_quiet_step (fail))
          exact rfl
        case r =>
          simp only [pickN, if_true, if_false, Bool.false_eq_true]
          intro x1
          have e1 : Ext wc x1.val := (Ext.refl _).drew.val x1
          go_wp2_with fail
          first | refine ⟨fun _ => non_ofK (e1.alloc _), ?_⟩ | refine ⟨non_ofK (e1.alloc _), ?_⟩
          intro x2
          have e2 : Ext wc x2.val := (e1.alloc _).val x2
          go_wp2_with (at_builtin; refine unHd ?_)
          unfold Hd2
          refine wpList_app5 B 76 44 ti0 _ 1 8 Try.underlying76 hi hz0 hz1 hz2 rfl (by decide) rfl _ _ rfl _ 0 _ rfl (own_ext HO.out e2) (Nat.le_trans HB.out.2.1 e2.size) x1.val.heap.size 1 1 #[.int .i64 nt] (by decide) rfl (heap_ext (heap_new rfl) x2.ext) rfl (by simp [Value.oneCell']) (by unfold maxLen; have := HB.out.2.2; omega) (by have := HB.out.2.2; omega) ?_
          intro v2 w2 hown2 hg2 hr2
          obtain ⟨g2, cap3, rfl⟩ : ∃ g2 cap3, v2 = .slice (some ⟨g2, 0, none⟩) (0 + 1) cap3 := by
            rcases hown2.2 with ⟨_, h0⟩ | ⟨g2, cap2, _, h0, _⟩
            · omega
            · exact ⟨g2, cap2, h0⟩
          have c2' : wc.grownBy w2 none := but_trans (non_ofK (e2)) hg2
          first | refine ⟨fun _ => c2', ?_⟩ | refine ⟨c2', ?_⟩
          intro x3
          go_wp2_with fail
          try refine ⟨fun h => absurd h (by decide), ?_⟩
          intro x4
          go_wp2_with fail
          try refine ⟨fun h => absurd h (by decide), ?_⟩
          intro x5
          have c5 : wc.grownBy x5.val none := non_extK c2' ((x3.ext.trans x4.ext).trans x5.ext)
          have hb5 : x5.val.heap[kb]? = some (.cells #[.pointer (some ⟨pb, 0, none⟩), gv, .map (some sb), .slice none 0 0] 78 (0, 0)) := (c5.block kb lb (by simp)).trans HH.out
          have hcc5 : x5.val.heap[w.heap.size]? = some (.cells #[.pointer (some ⟨kb, 0, none⟩)] 42 (0, 0)) := (c5.block _ lc (by simp)).trans HH5.out
          have o5 := own_ext hown2 ((x3.ext.trans x4.ext).trans x5.ext)
          have hr5 : ∀ k ∈ rowB (.slice (some ⟨g2, 0, none⟩) (0 + 1) cap3), k ∈ rowB (.slice none 0 0) ∨ wc.heap.size ≤ k := fun k hk => (hr2 k hk).imp id (fun h => by have := e2.size; omega)
          have hcb5 := fun j => cell_of_row x5.val _ j _ _ _ hb5
          have hfb5 := fun j => frozen_of_row x5.val _ j _ _ hb5
          generalize x5.val = w5 at c5 hb5 o5 hcb5 hfb5 hcc5 ⊢
          have HO5 := Lib.hid o5
          have HR5 := Lib.hid hr5
          have HC5 := Lib.hid hcc5
          clear hb5 o5 hr5 hr2 hg2 hown2 hcc5
          go_wp2_with fail
          try refine ⟨fun h => absurd h (by decide), ?_⟩
          intro x6
          go_wp2_with fail
          go_meet
          refine ⟨rfl, HSN.out x6.val (HEND.out _ w5 x6.val c5 (by rw [HNT.out]; exact HO5.out) HR5.out x6.ext) (heap_ext ((cell_other (by have := HNK.out.1; omega)).trans HC5.out) x6.ext)⟩
      · simp only [Value.slice.injEq, true_and] at hv
        obtain ⟨rfl, rfl⟩ := hv
        have lg : g < wc.heap.size := (Array.getElem?_eq_some_iff.1 hg).1
        have hkg : kb < g := by have := HB.out.1; omega
        have hne : ¬ w.heap.size = g := fun e => HNL.out (by simp [rowB, Value.ownBlock, e])
        clear hg hnc hcm hcs htk
        refine wp_region_late (af := ?af3) [true, true, true, true, true, true, false, false, false, false, false] [false, false, false, false, false, false, false, false, true, true, true] 90 (fun w' => wc.grownBy w' (some g)) (by kernel_rfl) rfl (by kernel_rfl) (fun _ _ h e => but_ext h e) (but_ext (but_refl g wc) (Ext.refl wc).drew) ?q ?r
        case q =>
          intro w' hw'
          obtain ⟨y, rfl⟩ : ∃ y : ButOf g wc, w' = y.val := ⟨⟨w', hw'⟩, rfl⟩
          simp only [pickT, if_true, if_false, Bool.false_eq_true]
          repeat (go_big_quiet_step (fail))
          exact rfl
        case r =>
          simp only [pickN, if_true, if_false, Bool.false_eq_true]
          intro x1
          have e1 : Ext wc x1.val := (Ext.refl _).drew.val x1
          go_wp2_with fail
          first | refine ⟨fun _ => but_ext (but_refl g wc) (e1.alloc _), ?_⟩ | refine ⟨but_ext (but_refl g wc) (e1.alloc _), ?_⟩
          intro x2
          have e2 : Ext wc x2.val := (e1.alloc _).val x2
          go_wp2_with (at_builtin; refine unHd ?_)
          unfold Hd2
          refine wpList_app5 B 76 44 ti0 _ 1 8 Try.underlying76 hi hz0 hz1 hz2 rfl (by decide) rfl _ _ rfl _ K.length _ rfl (own_ext HO.out e2) (Nat.le_trans HB.out.2.1 e2.size) x1.val.heap.size 1 1 #[.int .i64 nt] (by decide) rfl (heap_ext (heap_new rfl) x2.ext) rfl (by simp [Value.oneCell']) (by unfold maxLen; have := HB.out.2.2; omega) (by have := HB.out.2.2; omega) ?_
          intro v2 w2 hown2 hg2 hr2
          obtain ⟨g2, cap3, rfl⟩ : ∃ g2 cap3, v2 = .slice (some ⟨g2, 0, none⟩) (K.length + 1) cap3 := by
            rcases hown2.2 with ⟨_, h0⟩ | ⟨g2, cap2, _, h0, _⟩
            · omega
            · exact ⟨g2, cap2, h0⟩
          have c2' : wc.grownBy w2 (some g) := but_trans (but_ext (but_refl g wc) (e2)) hg2
          first | refine ⟨fun _ => c2', ?_⟩ | refine ⟨c2', ?_⟩
          intro x3
          go_wp2_with fail
          try refine ⟨fun h => absurd h (by decide), ?_⟩
          intro x4
          go_wp2_with fail
          try refine ⟨fun h => absurd h (by decide), ?_⟩
          intro x5
          have c5 : wc.grownBy x5.val (some g) := but_ext c2' ((x3.ext.trans x4.ext).trans x5.ext)
          have hb5 : x5.val.heap[kb]? = some (.cells #[.pointer (some ⟨pb, 0, none⟩), gv, .map (some sb), .slice (some ⟨g, 0, none⟩) K.length cap] 78 (0, 0)) := (c5.block kb lb (by simp; omega)).trans HH.out
          have hcc5 : x5.val.heap[w.heap.size]? = some (.cells #[.pointer (some ⟨kb, 0, none⟩)] 42 (0, 0)) := (c5.block _ lc (by simp; omega)).trans HH5.out
          have o5 := own_ext hown2 ((x3.ext.trans x4.ext).trans x5.ext)
          have hr5 : ∀ k ∈ rowB (.slice (some ⟨g2, 0, none⟩) (K.length + 1) cap3), k ∈ rowB (.slice (some ⟨g, 0, none⟩) K.length cap) ∨ wc.heap.size ≤ k := fun k hk => (hr2 k hk).imp id (fun h => by have := e2.size; omega)
          have hcb5 := fun j => cell_of_row x5.val _ j _ _ _ hb5
          have hfb5 := fun j => frozen_of_row x5.val _ j _ _ hb5
          generalize x5.val = w5 at c5 hb5 o5 hcb5 hfb5 hcc5 ⊢
          have HO5 := Lib.hid o5
          have HR5 := Lib.hid hr5
          have HC5 := Lib.hid hcc5
          clear hb5 o5 hr5 hr2 hg2 hown2 hcc5
          go_wp2_with fail
          try refine ⟨fun h => absurd h (by decide), ?_⟩
          intro x6
          go_wp2_with fail
          go_meet
          refine ⟨rfl, HSN.out x6.val (HEND.out _ w5 x6.val c5 (by rw [HNT.out]; exact HO5.out) HR5.out x6.ext) (heap_ext ((cell_other (by have := HNK.out.1; omega)).trans HC5.out) x6.ext)⟩
    case rest =>
      obtain ⟨rfl, HST⟩ := hcut
      clear hcb lb lc hcc HEND HH HH5 HB HNL HO
      have hcl := HA.out.2.2.2.2.1
      have hvis := HA.out.2.2.2.2.2.1
      have hsee : Seeing K t (K ++ [t]) K.length := seeing_start HS.out.nd hcl HA.out.2.2.1
      have HVIS := Lib.hid hvis
      have HSEE := Lib.hid hsee
      clear hcl hvis hsee
      go_wp2_with fail
      go_loopg [8] (K.length + (visT t).length) (fun g at_ wr => ∃ (i : Nat) (K' : List Tt), at_ = .int .i64 (i : Int) ∧ i + g = K.length + (visT t).length + K.length ∧ K.length ≤ i ∧ Hid (Seeing K t K' i) ∧ Hid (SeesSt B pb mb kb sb v gv (.slice a K.length cap) L G K' w wr))
      case atStart => exact ⟨K.length, K ++ [t], rfl, by omega, Nat.le_refl _, HSEE, HST⟩
      case round =>
        obtain ⟨i, K', rfl, hig, hKi, HSE, HSS⟩ := hrel
        obtain ⟨lv', W', hS', hk', hf', hc', hn'⟩ := HSS.out
        have hsl := seeing_len HSE.out
        have hle := HSE.out.le
        obtain ⟨a', cap', hv', hm', hvw⟩ := own_view hS'.know.list
        subst hv'
        have hb := hS'.know.head
        have lb : kb < wr.heap.size := (Array.getElem?_eq_some_iff.1 hb).1
        have hcb := fun j => cell_of_row wr _ j _ _ _ hb
        have lc : w.heap.size < wr.heap.size := (Array.getElem?_eq_some_iff.1 hc').1
        have hcc := fun j => cell_of_row wr _ j _ _ _ hc'
        have HS' := Lib.hid hS'
        have HR := Lib.hid (And.intro hk' (And.intro hf' (And.intro hc' hn')))
        have HI := Lib.hid (And.intro hig (And.intro hKi (And.intro hsl (And.intro hle HVIS.out))))
        have hm2 : K'.length ≤ 100000 := by have := HVIS.out; omega
        have HM2 := Lib.hid hm2
        clear hS' hb hk' hf' hc' hn' hsl hle hig hKi HSS hm2 hm'
        by_cases h1 : i < K'.length
        · obtain ⟨g, rfl, hg, lg, hcell⟩ := hvw (by omega)
          obtain ⟨u, hu⟩ : ∃ u, K'[i]? = some u := ⟨_, List.getElem?_eq_getElem h1⟩
          have hcu := hcell i (.int .i64 (idT L u)) (by simp [hu])
          have i1 : (i : Int) < (K'.length : Int) := by omega
          have HU := Lib.hid hu
          have huL : u ∈ L := HS'.out.KL u (List.mem_of_getElem? hu)
          obtain ⟨j, hj1, hj2⟩ := idT_mem huL
          have HUL := Lib.hid huL
          have HND := Lib.hid (fun w' (e : Ext wr w') => by
            have h := te_node B pb mb v L j u w' (HS'.out.pool.ext e) (by have := HA.out.2.2.2.2.2.2; omega) hj2
            rw [← hj1] at h
            exact h)
          have lb1 := lb
          have HLT := Lib.hid h1
          clear hu huL hj1 hj2 hcell h1 hvw
          go_upto_region 9 with fail
          generalize hnu : (idT L u : Int) = nu at hcu HND ⊢
          have HNU := Lib.hid hnu
          clear hnu
          have hx1 := (Ext.refl wr).alloc (.cells #[.int .i64 nu] 44)
          have HC2 := Lib.hid (heap_new (w := wr) (o := .cells #[.int .i64 nu] 44) rfl)
          have HX1 := Lib.hid hx1
          have hb1 := heap_ext HS'.out.know.head hx1
          have hc1 := heap_ext HR.out.2.2.1 hx1
          have HC1 := Lib.hid hc1
          clear hx1 hcb hcc hcu lb lc lb1 lg
          generalize hw1 : wr.alloc (.cells #[.int .i64 nu] 44) = w1 at HC2 HX1 hb1 hc1 HC1 ⊢
          clear hw1
          have lb : kb < w1.heap.size := (Array.getElem?_eq_some_iff.1 hb1).1
          have hcb := fun j => cell_of_row w1 _ j _ _ _ hb1
          have lc : w.heap.size < w1.heap.size := (Array.getElem?_eq_some_iff.1 hc1).1
          have hcc := fun j => cell_of_row w1 _ j _ _ _ hc1
          have lu : wr.heap.size < w1.heap.size := (Array.getElem?_eq_some_iff.1 HC2.out).1
          have hcu := fun j => cell_of_row w1 _ j _ _ _ HC2.out
          have HNQ : ∀ w0, Ext w1 w0 → Calls Try.prog 30 #[.pointer (some ⟨pb, 0, none⟩), .int .i64 nu] w0 fun e w' => e = .returned (.tuple #[ndV (ndT L u), .bool true]) ∧ Ext w0 w' := fun w0 e0 => HND.out _ (HX1.out.trans e0)
          have HNQ := Lib.hid HNQ
          clear hb1 hc1
          unfold ndV at HNQ
          refine wp_region_mixF (af := ?af) #[.int .i64 0, .int .i64 0, .int .i64 0, .int .u64 0, .string { data := #[] }, .int .i64 0, .int .i64 0] 85 [true, true, true, true, true, true, true, true, true, false, false, false] [false, false, false, false, false, false, false, false, false, false, false, true] 90 0 (C := Ext w1) (by kernel_rfl) rfl (by kernel_rfl) (fun _ _ h e => Ext.trans h e) (Ext.refl _).drew ?q ?r
          case q =>
            intro w' hw'
            obtain ⟨y, rfl⟩ := ext_of hw'
            simp only [pickT, if_true, if_false, Bool.false_eq_true]
            repeat (go_big_quiet_step ((go_at_call 30; exact calls_ext (HNQ.out _ (y.ext.trans (ExtOf.ext _))))))
            exact rfl
          case r =>
            simp only [restL, if_true, if_false, Bool.false_eq_true]
            refine ⟨fun a w => by simp [go_sem], ?_⟩
            intro x2 gT hgT hzT
            have e2 : Ext w1 x2.val := (Ext.refl _).drew.val x2
            intro x3
            go_wp2_with (refine wpList_store_row rfl 85 _ _ rfl gT _ rfl rfl 85 _ (heap_ext hzT x3.ext) (info_nd (ndT L u)) rfl (by simp [Value.oneCell']) ?_)
            refine ⟨(e2.val x3).setRow hgT _, ?_⟩
            refine ⟨_, .inl ⟨rfl, fun w _ => ⟨rfl, rfl⟩⟩, ?_⟩
            intro x4
            have hr4 : x4.val.heap[gT]? = some (.cells #[.int .i64 (ndT L u).k, .int .i64 (ndT L u).f, .int .i64 (ndT L u).t, .int .u64 (ndT L u).n, .string (ndT L u).s, .int .i64 (ndT L u).a, .int .i64 (ndT L u).b] 85 (0, 0)) := heap_ext (setRow_heap _ _ _ _ _ _ (heap_ext hzT x3.ext)) x4.ext
            have e4 : Ext w1 x4.val := ((e2.val x3).setRow hgT _).val x4
            generalize x4.val = w4 at hr4 e4 ⊢
            have HX4 := Lib.hid (HX1.out.trans e4)
            have HC14 := Lib.hid (heap_ext HC1.out e4)
            have HC24 := Lib.hid (heap_ext HC2.out e4)
            have HR4 := Lib.hid hr4
            have HGT := Lib.hid (Nat.le_trans HX1.out.size hgT)
            have lT := (Array.getElem?_eq_some_iff.1 hr4).1
            have hcT := fun j => cell_of_row w4 _ j _ _ _ hr4
            have HS4 := Lib.hid (HS'.out.ext HX4.out)
            clear hcb hcc hcu lb lc lu hr4 e4 e2 hzT hgT x4 x3 x2 HNQ HND HC1 HC2 HX1 i1
            have HN24 : Hid (wr.heap.size ∉ kb :: sb :: rowB (.slice (some ⟨g, 0, none⟩) K'.length cap')) := Lib.hid (by
              have h1 := (Array.getElem?_eq_some_iff.1 HS'.out.know.head).1
              have h2 := HS'.out.know.map.lt
              have h3 := row_lt HS'.out.know.list
              simp only [List.mem_cons, not_or]
              exact ⟨by omega, by omega, fun hm => by have := h3 _ hm; omega⟩)
            have HNT4 : Hid (gT ∉ kb :: sb :: rowB (.slice (some ⟨g, 0, none⟩) K'.length cap')) := Lib.hid (by
              have h0 := HGT.out
              have h1 := (Array.getElem?_eq_some_iff.1 HS'.out.know.head).1
              have h2 := HS'.out.know.map.lt
              have h3 := row_lt HS'.out.know.list
              simp only [List.mem_cons, not_or]
              exact ⟨by omega, by omega, fun hm => by have := h3 _ hm; omega⟩)
            -- the closure, in this world
            have HSH := Lib.hid (fun (d : Tt) (rule : Int) (hd : d ∈ L) (hr : rule ≠ 0) => by
              have h := du_shown B pb mb kb sb w.heap.size wr.heap.size v gv (.slice (some ⟨g, 0, none⟩) K'.length cap') L G K' W' d u i rule 42 w4 HS4.out HC14.out (by rw [HNU.out]; exact HC24.out) HR.out.2.2.2 HN24.out hd HU.out hr HM2.out
              exact h)
            have HKD := Lib.hid (HS'.out.ok.kids u HUL.out)
            have HST1 := Lib.hid (seeing_step HSE.out HU.out HI.out.2.1)
            have HEND := Lib.hid (fun (lv2 : Value) (K2 : List Tt) (W2 : List (Int × Int)) (w5 : World) (hS2 : StAt B pb mb kb sb v gv lv2 L G K2 W2 w5) (hk2 : Keeps (kb :: sb :: rowB (.slice (some ⟨g, 0, none⟩) K'.length cap')) w4 w5) (hf2 : ∀ x ∈ rowB lv2, x ∈ rowB (.slice (some ⟨g, 0, none⟩) K'.length cap') ∨ w4.heap.size ≤ x) (hc2 : w5.heap[w.heap.size]? = some (.cells #[.pointer (some ⟨kb, 0, none⟩)] 42 (0, 0))) (hn2 : w.heap.size ∉ kb :: sb :: rowB lv2) => by
              have h := keeps_two (HR.out.1.ext HX4.out) HR.out.2.1 hk2 hf2
              exact (⟨lv2, W2, hS2, h.1, h.2, hc2, hn2⟩ : SeesSt B pb mb kb sb v gv (.slice a K.length cap) L G K2 w w5))
            have hwi : wrap64 ((i : Int) + 1) = (i : Int) + 1 := by
              have := HI.out
              have := HVIS.out
              unfold wrap64; omega
            cases u
            case name =>
              simp only [ndT] at hcT
              go_wp2_with fail
              go_roundg (gk - 1)
              case rel =>
                refine ⟨i + 1, K', by simp [hwi], by have := HI.out; have := HLT.out; omega, by have := HI.out; omega, ?_, Lib.hid (HEND.out _ K' W' _ HS4.out (Keeps.refl _ _) (fun x hx => .inl hx) HC14.out HR.out.2.2.2)⟩
                have := HST1.out
                exact Lib.hid this
              case measure => have := HI.out; have := HLT.out; omega
            case num =>
              simp only [ndT] at hcT
              go_wp2_with fail
              go_roundg (gk - 1)
              case rel =>
                refine ⟨i + 1, K', by simp [hwi], by have := HI.out; have := HLT.out; omega, by have := HI.out; omega, ?_, Lib.hid (HEND.out _ K' W' _ HS4.out (Keeps.refl _ _) (fun x hx => .inl hx) HC14.out HR.out.2.2.2)⟩
                have := HST1.out
                exact Lib.hid this
              case measure => have := HI.out; have := HLT.out; omega
            case data =>
              simp only [ndT] at hcT
              go_wp2_with fail
              go_roundg (gk - 1)
              case rel =>
                refine ⟨i + 1, K', by simp [hwi], by have := HI.out; have := HLT.out; omega, by have := HI.out; omega, ?_, Lib.hid (HEND.out _ K' W' _ HS4.out (Keeps.refl _ _) (fun x hx => .inl hx) HC14.out HR.out.2.2.2)⟩
                have := HST1.out
                exact Lib.hid this
              case measure => have := HI.out; have := HLT.out; omega
            case hash =>
              simp only [ndT] at hcT
              go_wp2_with fail
              go_roundg (gk - 1)
              case rel =>
                refine ⟨i + 1, K', by simp [hwi], by have := HI.out; have := HLT.out; omega, by have := HI.out; omega, ?_, Lib.hid (HEND.out _ K' W' _ HS4.out (Keeps.refl _ _) (fun x hx => .inl hx) HC14.out HR.out.2.2.2)⟩
                have := HST1.out
                exact Lib.hid this
              case measure => have := HI.out; have := HLT.out; omega
            case key =>
              simp only [ndT] at hcT
              go_wp2_with fail
              go_roundg (gk - 1)
              case rel =>
                refine ⟨i + 1, K', by simp [hwi], by have := HI.out; have := HLT.out; omega, by have := HI.out; omega, ?_, Lib.hid (HEND.out _ K' W' _ HS4.out (Keeps.refl _ _) (fun x hx => .inl hx) HC14.out HR.out.2.2.2)⟩
                have := HST1.out
                exact Lib.hid this
              case measure => have := HI.out; have := HLT.out; omega
            case pair =>
              rename_i d1 d2
              simp only [ndT] at hcT
              go_wp2_with fail
              refine (HSH.out d1 1 (HKD.out d1 (by simp [kidsT])) (by decide)).mono ?_
              rintro e w5 ⟨rfl, lv2, W2, s1, s2, s3, s4, s5, s6, s7, s8⟩
              have hT5 := (s2.block gT lT HNT4.out).trans HR4.out
              simp only [ndT] at hT5
              have HSH2 := Lib.hid (fun (hlen : (addT K' d1).length ≤ 100000) => du_shown B pb mb kb sb w.heap.size wr.heap.size v gv lv2 L G (addT K' d1) W2 d2 (.pair d1 d2) i 2 42 w5 s1 s4 s5 s6 s7 (HKD.out d2 (by simp [kidsT])) (by
                obtain ⟨M, hM⟩ := addT_pre K' d1
                rw [← hM, List.getElem?_append_left (List.getElem?_eq_some_iff.1 HU.out).1]
                exact HU.out) (by decide) hlen)
              have hal : (addT K' d1).length ≤ 100000 := by
                have h1 := (show_foldl (downT (Tt.pair d1 d2)) K' HSE.out.nodup).2.1
                have h2 := seeing_len HST1.out
                have h3 := HVIS.out
                have h4 : (addT K' d1).length ≤ (showT K' (.pair d1 d2)).length := (addT_pre (addT K' d1) d2).length_le
                omega
              have HK25 := Lib.hid (And.intro s2 s3)
              have lT5 := (Array.getElem?_eq_some_iff.1 hT5).1
              clear hcT lT s1 s2 s3 s4 s5 s6 s7 s8
              have hcT := fun j => cell_of_row w5 _ j _ _ _ hT5
              clear hT5
              have HSH3 := Lib.hid (HSH2.out hal)
              clear HSH2 hal
              go_wp2_with fail
              refine HSH3.out.mono ?_
              rintro e w6 ⟨rfl, lv3, W3, s1, s2, s3, s4, s5, s6, s7, s8⟩
              have hkk := keeps_two HK25.out.1 HK25.out.2 s2 s3
              have HG6 := Lib.hid (HEND.out lv3 _ W3 w6 s1 hkk.1 hkk.2 s4 s6)
              clear s1 s2 s3 s4 s5 s6 s7 s8 hkk
              go_wp2_with fail
              go_roundg (gk - 1)
              case rel =>
                refine ⟨i + 1, addT (addT K' d1) d2, by simp [hwi], by have := HI.out; have := HLT.out; omega, by have := HI.out; omega, ?_, Lib.hid HG6.out⟩
                have := HST1.out
                exact Lib.hid this
              case measure => have := HI.out; have := HLT.out; omega
            case sign =>
              rename_i kid
              simp only [ndT] at hcT
              go_wp2_with fail
              refine (HSH.out kid 3 (HKD.out kid (by simp [kidsT])) (by decide)).mono ?_
              rintro e w5 ⟨rfl, lv2, W2, s1, s2, s3, s4, s5, s6, s7, s8⟩
              have HG5 := Lib.hid (HEND.out lv2 _ W2 w5 s1 s2 s3 s4 s6)
              clear s1 s2 s3 s4 s5 s6 s7 s8
              go_wp2_with fail
              go_roundg (gk - 1)
              case rel =>
                refine ⟨i + 1, addT K' kid, by simp [hwi], by have := HI.out; have := HLT.out; omega, by have := HI.out; omega, ?_, Lib.hid HG5.out⟩
                have := HST1.out
                exact Lib.hid this
              case measure => have := HI.out; have := HLT.out; omega
            case prom =>
              rename_i kid
              simp only [ndT] at hcT
              go_wp2_with fail
              refine (HSH.out kid 3 (HKD.out kid (by simp [kidsT])) (by decide)).mono ?_
              rintro e w5 ⟨rfl, lv2, W2, s1, s2, s3, s4, s5, s6, s7, s8⟩
              have HG5 := Lib.hid (HEND.out lv2 _ W2 w5 s1 s2 s3 s4 s6)
              clear s1 s2 s3 s4 s5 s6 s7 s8
              go_wp2_with fail
              go_roundg (gk - 1)
              case rel =>
                refine ⟨i + 1, addT K' kid, by simp [hwi], by have := HI.out; have := HLT.out; omega, by have := HI.out; omega, ?_, Lib.hid HG5.out⟩
                have := HST1.out
                exact Lib.hid this
              case measure => have := HI.out; have := HLT.out; omega
            case fake =>
              rename_i kid
              simp only [ndT] at hcT
              go_wp2_with fail
              refine (HSH.out kid 3 (HKD.out kid (by simp [kidsT])) (by decide)).mono ?_
              rintro e w5 ⟨rfl, lv2, W2, s1, s2, s3, s4, s5, s6, s7, s8⟩
              have HG5 := Lib.hid (HEND.out lv2 _ W2 w5 s1 s2 s3 s4 s6)
              clear s1 s2 s3 s4 s5 s6 s7 s8
              go_wp2_with fail
              go_roundg (gk - 1)
              case rel =>
                refine ⟨i + 1, addT K' kid, by simp [hwi], by have := HI.out; have := HLT.out; omega, by have := HI.out; omega, ?_, Lib.hid HG5.out⟩
                have := HST1.out
                exact Lib.hid this
              case measure => have := HI.out; have := HLT.out; omega
        · have i1 : ¬ (i : Int) < (K'.length : Int) := by omega
          clear hvw
          go_wp2_with fail
          refine ⟨rfl, .tuple #[], by simp [results, go_sem], rfl, ?_⟩
          obtain rfl : i = K'.length := by have := HI.out.2.2.2.1; omega
          obtain ⟨e1, e2, e3⟩ := seeing_end HSE.out
          exact ⟨_, K', W', HS'.out, HR.out.1, HR.out.2.1, e3, e2⟩
end Go.Proofs.Ytfibbhmmiemcoaa

/-
  The walks of slices.Index, slices.Contains over terms, of Add. No condition.
-/
namespace Go.Proofs.Ytfibbhmmiemcoaa
open Go.RowKit
attribute [local go_sem] ExtOf.cell ExtOf.frozen ExtOf.lt ExtOf.le
attribute [local go_sem high] ExtOf.cell2 ExtOf.frozen2 ExtOf.lt2 ExtOf.cell3 ExtOf.frozen3 ExtOf.lt3

set_option maxRecDepth 100000 in
set_option maxHeartbeats 1600000 in
theorem sl_indexT (B : Nat) (v : Value) (N : List Int) (x : Int) (w : World) (hR : w.ownsRow B 44 1 v N.length (N.map fun n => .int .i64 n)) :
    Calls Try.prog 66 #[v, .int .i64 x] w fun e w' => ∃ n : Int, e = .returned (.int .i64 n) ∧ decide (0 ≤ n) = decide (x ∈ N) ∧ w' = w := by
  obtain ⟨a, cap, rfl, hm, hvw⟩ := own_view hR
  have HV := Lib.hid hvw
  clear hvw hR
  unfold maxLen at hm
  go_enter Try.func66, Try.ntmps66
  go_wp2_with fail
  go_loopg [8] N.length (fun g ii wr => ∃ (n : Nat), ii = .int .i64 (n : Int) ∧ n + g = N.length ∧ wr = w ∧ Hid (∀ (j : Nat) z, j < n → N[j]? = some z → z ≠ x))
  case atStart => exact ⟨0, rfl, by omega, rfl, Lib.hid fun _ _ h => by omega⟩
  case round =>
    obtain ⟨n, rfl, hg, rfl, HN⟩ := hrel
    by_cases hlt : n < N.length
    · obtain ⟨g, rfl, hb, hgl, hcell⟩ := HV.out (by omega)
      obtain ⟨y, hy⟩ : ∃ y, N[n]? = some y := ⟨_, List.getElem?_eq_getElem hlt⟩
      have hc := hcell n (.int .i64 y) (by simp [hy])
      have HX := Lib.hid hy
      clear hy hcell
      have hlt' : (n : Int) < (N.length : Int) := by omega
      by_cases he : x = y
      · go_wp2_with fail
        go_ret
        refine ⟨n, rfl, ?_, rfl⟩
        rw [decide_eq_decide]
        exact ⟨fun _ => he ▸ List.mem_of_getElem? HX.out, fun _ => by omega⟩
      · go_wp2_with fail
        go_roundg (gk - 1)
        case rel =>
          refine ⟨n + 1, rfl, by omega, rfl, Lib.hid fun j u hj hu => ?_⟩
          by_cases hjn : j = n
          · subst hjn
            rw [HX.out, Option.some.injEq] at hu
            rw [← hu]
            exact fun h => he h.symm
          · exact HN.out j u (by omega) hu
        case measure => omega
    · have hge : (N.length : Int) ≤ (n : Int) := by omega
      go_wp2_with fail
      go_ret
      refine ⟨-1, rfl, ?_, rfl⟩
      rw [decide_eq_decide]
      refine ⟨fun h => by omega, fun h => ?_⟩
      obtain ⟨j, hj, hje⟩ := List.getElem_of_mem h
      exact absurd hje (HN.out j _ (by omega) (List.getElem?_eq_getElem hj))

set_option maxRecDepth 100000 in
set_option maxHeartbeats 800000 in
theorem sl_containsT (B : Nat) (v : Value) (N : List Int) (x : Int) (w : World) (hR : w.ownsRow B 44 1 v N.length (N.map fun n => .int .i64 n)) :
    Calls Try.prog 31 #[v, .int .i64 x] w fun e w' => e = .returned (.bool (decide (x ∈ N))) ∧ w' = w := by
  have HR := Lib.hid hR
  clear hR
  go_enter Try.func31, Try.ntmps31
  go_wp2_with fail
  refine (sl_indexT B v N x _ HR.out).mono ?_
  rintro e w1 ⟨n, rfl, hn, rfl⟩
  have HN := Lib.hid hn
  clear hn
  go_wp2_with fail
  go_ret
  exact ⟨by rw [HN.out]; rfl, rfl⟩

/-- sees, whether the term was seen or not. -/
theorem du_note (B pb mb kb sb : Nat) (v gv lv : Value) (L G K : List Tt) (W : List (Int × Int)) (t : Tt) (w : World) (hS : StAt B pb mb kb sb v gv lv L G K W w)
    (hcl : ∀ u ∈ K, ∀ d ∈ downT u, d ∈ K) (ht : t ∈ L) (hlen : K.length + (visT t).length ≤ 60000) (hL : L.length ≤ 60000) :
    Calls Try.prog 32 #[.pointer (some ⟨kb, 0, none⟩), .int .i64 (idT L t), .agg #[.int .i64 0, .int .i64 0]] w fun e w' => e = .returned (.tuple #[]) ∧ SeesPost B pb mb kb sb v gv lv L G K t w w' := by
  by_cases hm : t ∈ K
  · obtain ⟨p, hp⟩ := getM_in hS.know.len hS.KL hS.nd hm
    have hl : lookG (seenL L K W) (idT L t) (wyV (0, 0)) true = .tuple #[.agg #[.int .i64 p.1, .int .i64 p.2], .bool true] := by
      unfold lookG; rw [hp]; rfl
    refine (du_sees_old B kb sb pb gv lv L G K W (idT L t) 0 0 w hS.know _ _ hl).mono ?_
    rintro e w' ⟨rfl, hx⟩
    exact ⟨rfl, lv, K, W, hS.ext hx, (Keeps.refl _ w).ext hx, fun g hg => .inl hg, fun u => ⟨.inl, fun h => h.elim id fun h => closed_vis hcl hm u h⟩, hcl⟩
  · exact du_sees_new B pb mb kb sb v gv lv L G K W t w hS hcl ht hm hlen hL
end Go.Proofs.Ytfibbhmmiemcoaa

/-
  What the law knows while it goes; plain laws of it. No condition.
-/
import Derived.Test.YtfibbhmmiemcoaaML37
set_option linter.all false
namespace Go.Proofs.Ytfibbhmmiemcoaa
open Go.RowKit

theorem vis_len : ∀ t : Tt, (visT t).length ≤ sizeT t
  | .name _ => Nat.le_refl _
  | .num _ => Nat.le_refl _
  | .data _ => Nat.le_refl _
  | .key _ => Nat.le_refl _
  | .hash a => by simp [visT, sizeT]
  | .pair a b => by have := vis_len a; have := vis_len b; simp [visT, sizeT]; omega
  | .sign _ a => by have := vis_len a; simp [visT, sizeT]; omega
  | .prom _ _ a => by have := vis_len a; simp [visT, sizeT]; omega
  | .fake _ _ a => by have := vis_len a; simp [visT, sizeT]; omega

section
variable {B pb mb kb sb : Nat} {v gv lv : Value} {L G K : List Tt} {W : List (Int × Int)} {w w' : World}
theorem seenL_pre {L' : List Tt} (h : L <+: L') (hK : ∀ u ∈ K, u ∈ L) : seenL L' K W = seenL L K W := by
  unfold seenL
  refine List.map_congr_left fun p hp => ?_
  rw [idT_pre h (hK _ (List.of_mem_zip hp).1)]
/-- The pool has grown. -/
theorem StAt.grow {L' : List Tt} (h : StAt B pb mb kb sb v gv lv L G K W w) (hp : Pooled B pb mb v L' w w') (ok : PoolOk L') (pre : L <+: L') :
    ∃ v', StAt B pb mb kb sb v' gv lv L' G K W w' ∧ Keeps (pb :: mb :: rowB v) w w' ∧ ∀ g ∈ rowB v', g ∈ rowB v ∨ w.heap.size ≤ g := by
  obtain ⟨v', h1, h2, h3⟩ := hp
  have lk := h.know.lo
  have lp := h.pool.lo
  have rv := row_lo h.pool.row
  have rg := row_lo h.know.given
  have rl := row_lo h.know.list
  have hne := h.ne
  have nk : kb ∉ pb :: mb :: rowB v := by
    simp only [List.mem_cons, not_or]
    exact ⟨fun e => hne.1 e.symm, fun e => hne.2.2.1 e.symm, fun hm => by have := rv _ hm; omega⟩
  have ns : sb ∉ pb :: mb :: rowB v := by
    simp only [List.mem_cons, not_or]
    exact ⟨fun e => hne.2.1 e.symm, fun e => hne.2.2.2 e.symm, fun hm => by have := rv _ hm; omega⟩
  have ng : ∀ g ∈ rowB gv, g ∉ pb :: mb :: rowB v := fun g hg => by
    simp only [List.mem_cons, not_or]
    exact ⟨fun e => by have := rg g hg; omega, fun e => by have := rg g hg; omega, fun hm => (h.dv g hm).1 hg⟩
  have nl : ∀ g ∈ rowB lv, g ∉ pb :: mb :: rowB v := fun g hg => by
    simp only [List.mem_cons, not_or]
    exact ⟨fun e => by have := rl g hg; omega, fun e => by have := rl g hg; omega, fun hm => (h.dv g hm).2 hg⟩
  have eg : (G.map fun t => Value.int .i64 (idT L' t)) = G.map fun t => Value.int .i64 (idT L t) := List.map_congr_left fun u hu => by rw [idT_pre pre (h.GL u hu)]
  have el : (K.map fun t => Value.int .i64 (idT L' t)) = K.map fun t => Value.int .i64 (idT L t) := List.map_congr_left fun u hu => by rw [idT_pre pre (h.KL u hu)]
  refine ⟨v', ⟨h1, ⟨(h2.block _ (Array.getElem?_eq_some_iff.1 h.know.head).1 nk).trans h.know.head, ?_, ?_, ?_, ⟨lk.1, lk.2.1, lk.2.2.1, Nat.le_trans lk.2.2.2 h2.size⟩, h.know.dis, h.know.len⟩, h.ne, ?_, ok, fun u hu => pre.subset (h.KL u hu), fun u hu => pre.subset (h.GL u hu), h.nd, ?_⟩, h2, h3⟩
  · rw [eg]; exact own_at h.know.given fun k hk => h2.block k (row_lt h.know.given k hk) (ng k hk)
  · rw [el]; exact own_at h.know.list fun k hk => h2.block k (row_lt h.know.list k hk) (nl k hk)
  · rw [seenL_pre pre h.KL]; exact h.know.map.same (h2.block _ h.know.map.lt ns)
  · intro g hg
    refine ⟨fun hm => ?_, fun hm => ?_⟩
    · rcases h3 g hg with e | e
      · exact (h.dv g e).1 hm
      · have := row_lt h.know.given g hm; omega
    · rcases h3 g hg with e | e
      · exact (h.dv g e).2 hm
      · have := row_lt h.know.list g hm; omega
  · intro i p hi
    rcases h.way i p hi with e | ⟨e, j, u, h1, h2, h3⟩
    · exact .inl e
    · exact .inr ⟨e, j, u, h1, h2, by rw [idT_pre pre (h.KL u (List.mem_of_getElem? h2))]; exact h3⟩
end

/-- What the law knows: so many terms were given; all lies in blocks that are newer than those of the world W1. -/
def LawSt (W1 : World) (pb mb kb sb : Nat) (B : Nat) (GL : List Tt) (N : Nat) (wr : World) : Prop :=
  ∃ v gv lv L G K W, StAt B pb mb kb sb v gv lv L G K W wr ∧ (∀ u ∈ K, ∀ d ∈ downT u, d ∈ K) ∧ (∀ u, u ∈ K ↔ ∃ g ∈ GL, u ∈ visT g) ∧ L.length ≤ 20 * N ∧ K.length ≤ 20 * N ∧ G.length ≤ N ∧ Ext W1 wr ∧ (W1.heap.size ≤ pb ∧ W1.heap.size ≤ mb ∧ W1.heap.size ≤ kb ∧ W1.heap.size ≤ sb)
/-- .. and a term that is in the pool, under its number. -/
def LawT (W1 : World) (pb mb kb sb : Nat) (B : Nat) (GL : List Tt) (N : Nat) (t : Tt) (n : Int) (wr : World) : Prop :=
  ∃ v gv lv L G K W, StAt B pb mb kb sb v gv lv L G K W wr ∧ (∀ u ∈ K, ∀ d ∈ downT u, d ∈ K) ∧ (∀ u, u ∈ K ↔ ∃ g ∈ GL, u ∈ visT g) ∧ L.length ≤ 20 * N + 20 ∧ K.length ≤ 20 * N ∧ G.length ≤ N ∧ Ext W1 wr ∧ (W1.heap.size ≤ pb ∧ W1.heap.size ≤ mb ∧ W1.heap.size ≤ kb ∧ W1.heap.size ≤ sb) ∧ t ∈ L ∧ n = idT L t

section
variable {W1 : World} {pb mb kb sb B N : Nat} {GL : List Tt} {t : Tt} {n : Int} {w w' : World}
theorem LawSt.ext (h : LawSt W1 pb mb kb sb B GL N w) (e : Ext w w') : LawSt W1 pb mb kb sb B GL N w' := by
  obtain ⟨v, gv, lv, L, G, K, W, h1, h2, h3, h4, h5, h6, h7, h8⟩ := h
  exact ⟨v, gv, lv, L, G, K, W, h1.ext e, h2, h3, h4, h5, h6, h7.trans e, h8⟩
theorem LawT.ext (h : LawT W1 pb mb kb sb B GL N t n w) (e : Ext w w') : LawT W1 pb mb kb sb B GL N t n w' := by
  obtain ⟨v, gv, lv, L, G, K, W, h1, h2, h3, h4, h5, h6, h7, h8, h9⟩ := h
  exact ⟨v, gv, lv, L, G, K, W, h1.ext e, h2, h3, h4, h5, h6, h7.trans e, h8, h9⟩
/-- The beginning: a pool, somebody who was given nothing. -/
theorem LawSt.start {wa wb : World} (e1 : Ext W1 wa) (e2 : Ext wa wb) (hp : PoolAt (W1.heap.size + 2) (W1.heap.size + 1) W1.heap.size (.slice none 0 0) [] wa) (hk : KnowAt (wa.heap.size + 2) (wa.heap.size + 1) wa.heap.size (W1.heap.size + 1) (.slice none 0 0) (.slice none 0 0) [] [] [] [] wb) :
    LawSt W1 (W1.heap.size + 1) W1.heap.size (wa.heap.size + 1) wa.heap.size (wa.heap.size + 2) [] 0 wb := by
  have l1 := hp.lo
  have l2 := hk.lo
  have hp' := hp.ext e2
  refine ⟨_, _, _, [], [], [], [], ⟨⟨hp'.head, World.ownsRow_nil _ _ _ _, hp'.map, by omega, by omega, by omega, l2.2.2.2⟩, hk, ⟨by omega, by omega, by omega, by omega⟩, by simp [rowB, Value.ownBlock], ⟨List.nodup_nil, by simp⟩, by simp, by simp, List.nodup_nil, fun i p h => by simp at h⟩, by simp, by simp, by simp, by simp, by simp, e1.trans e2, by omega, by omega, by have := e1.size; omega, e1.size⟩
/-- A term is made. -/
theorem LawSt.grown {v gv lv : Value} {L G K : List Tt} {W : List (Int × Int)} {e : Ending} (hS : StAt B pb mb kb sb v gv lv L G K W w) (h2 : ∀ u ∈ K, ∀ d ∈ downT u, d ∈ K) (h3 : ∀ u, u ∈ K ↔ ∃ g ∈ GL, u ∈ visT g) (h4 : L.length ≤ 20 * N) (h5 : K.length ≤ 20 * N) (h6 : G.length ≤ N) (h7 : Ext W1 w) (h8 : W1.heap.size ≤ pb ∧ W1.heap.size ≤ mb ∧ W1.heap.size ≤ kb ∧ W1.heap.size ≤ sb)
    (hz : sizeT t ≤ 20) (hg : Grown B pb mb v L t w e w') : ∃ n : Int, e = .returned (.tuple #[.int .i64 n, .int .i64 0]) ∧ LawT W1 pb mb kb sb B GL N t n w' := by
  obtain ⟨rfl, hp⟩ := hg
  obtain ⟨ok, m, pre, len⟩ := growT_ok t hS.ok
  obtain ⟨v', s, k, f⟩ := hS.grow hp ok pre
  refine ⟨_, rfl, v', gv, lv, _, G, K, W, s, h2, h3, by omega, h5, h6, keeps_ext' h7 k (fun g hg => ?_), h8, m, rfl⟩
  simp only [List.mem_cons] at hg
  have l1 := hS.pool.lo
  rcases hg with e | e | e
  · omega
  · omega
  · have := row_lo hS.pool.row g e; omega
/-- A term is given. -/
theorem LawT.added {v gv lv : Value} {L G K : List Tt} {W : List (Int × Int)} (hS : StAt B pb mb kb sb v gv lv L G K W w) (h3 : ∀ u, u ∈ K ↔ ∃ g ∈ GL, u ∈ visT g) (h4 : L.length ≤ 20 * N + 20) (h5 : K.length ≤ 20 * N) (h6 : G.length ≤ N) (h7 : Ext W1 w) (h8 : W1.heap.size ≤ pb ∧ W1.heap.size ≤ mb ∧ W1.heap.size ≤ kb ∧ W1.heap.size ≤ sb)
    (hz : sizeT t ≤ 20) (ha : AddPost B pb mb kb sb v gv lv L G K t w w') : LawSt W1 pb mb kb sb B (GL ++ [t]) (N + 1) w' := by
  obtain ⟨gv', lv', K', W', s, k, f, m, c⟩ := ha
  refine ⟨v, gv', lv', L, addT G t, K', W', s, c, fun u => ?_, by omega, ?_, ?_, keeps_ext' h7 k (fun g hg => ?_), h8⟩
  · rw [m, h3]
    constructor
    · rintro (⟨g, hg, hu⟩ | hu)
      · exact ⟨g, by simp [hg], hu⟩
      · exact ⟨t, by simp, hu⟩
    · rintro ⟨g, hg, hu⟩
      rcases List.mem_append.1 hg with h | h
      · exact .inl ⟨g, h, hu⟩
      · rw [List.mem_singleton.1 h] at hu; exact .inr hu
  · have h1 : K'.length ≤ (K ++ visT t).length := nodup_len s.nd fun u hu => List.mem_append.2 ((m u).1 hu)
    have := vis_len t
    simp only [List.length_append] at h1
    omega
  · have : (addT G t).length ≤ G.length + 1 := by
      unfold addT
      split
      · omega
      · simp
    omega
  · simp only [List.mem_cons, List.mem_append] at hg
    have l1 := hS.know.lo
    rcases hg with e | e | e | e
    · omega
    · omega
    · have := row_lo hS.know.given g e; omega
    · have := row_lo hS.know.list g e; omega
theorem LawT.skip (h : LawT W1 pb mb kb sb B GL N t n w) : LawSt W1 pb mb kb sb B GL (N + 1) w := by
  obtain ⟨v, gv, lv, L, G, K, W, h1, h2, h3, h4, h5, h6, h7, h8, _⟩ := h
  exact ⟨v, gv, lv, L, G, K, W, h1, h2, h3, by omega, by omega, by omega, h7, h8⟩
end

/-- The terms that were given are those of the letters heard and the keys of the corrupted; so what is derived is what can be said. -/
theorem derK_can {x : Ex} {l : Lt} {K : List Tt} (hH : ∀ h ∈ x.h, lchk h = 0 ∧ h.c = x.c) (hl : lchk l = 0) (hc : l.c = x.c) (h3 : ∀ u, u ∈ K ↔ ∃ g ∈ givenG x.h x.bad, u ∈ visT g) : derK K (treeL l) = canS x l := by
  rw [← can_canS hH hl hc]
  unfold derK
  congr 1
  funext u
  have := h3 u
  rw [← seenG_iff] at this
  cases hs : seenG (givenG x.h x.bad) u with
  | true => simpa [hs] using this
  | false => simpa [hs] using this
theorem check_letters {x : Ex} (h : checkX x = true) : ∀ l ∈ x.h, lchk l = 0 ∧ l.c = x.c := by
  rw [checkX_eq] at h
  simp only [Bool.and_eq_true] at h
  have := h.2.2.2.2.2
  unfold lettersB at this
  exact (of_decide_eq_true this).1
end Go.Proofs.Ytfibbhmmiemcoaa

/-
  live() runs to true. No condition.
-/
namespace Go.Proofs.Ytfibbhmmiemcoaa
open Go.RowKit

set_option maxRecDepth 1000000 in
theorem live_run : E.isTrue (E.callN Try.prog E.X0 E.FT 200 100 9 [] ⟨0, []⟩) = true := by kernel_rfl

theorem live_any (w : World) : Calls Try.prog 9 #[] w fun e w' => e = .returned (.bool true) ∧ Ext w w' := E.calls_true live_run w
end Go.Proofs.Ytfibbhmmiemcoaa

/-
  The walk of the law ModelCan. No condition.
-/
namespace Go.Proofs.Ytfibbhmmiemcoaa
open Go.RowKit
attribute [local go_sem ↓] eql_lEq eql_sEq eql_eEq eql_oEq neq_lEq neq_sEq neq_eEq neq_oEq eql_vEq neq_vEq eql_nil
attribute [local go_sem] ExtOf.cell ExtOf.frozen ExtOf.lt ExtOf.le
attribute [local go_sem high] ExtOf.cell2 ExtOf.frozen2 ExtOf.lt2 ExtOf.cell3 ExtOf.frozen3 ExtOf.lt3

theorem lt_no {a b : Int} (h : b ≤ a) : (a < b) = False := eq_false (by omega)
attribute [local go_sem] lt_no

theorem la_numE (n : Int) (w : World) : Calls Try.prog 7 #[.int .i64 n] w fun e w' => e = .returned (.int .i64 n) ∧ Ext w w' := (la_num n w).mono fun e w' h => ⟨h.1, h.2 ▸ Ext.refl _⟩
/-- The keys that were given, behind so many rounds. -/
def keysB (x : Ex) (j : Nat) : List Tt := (if 0 < j ∧ x.b0 = true then [.key 0] else []) ++ (if 1 < j ∧ x.b1 = true then [.key 1] else [])
theorem keys_given (x : Ex) : x.h.map treeL ++ keysB x 2 = givenG x.h x.bad := by
  unfold keysB givenG Ex.bad
  simp
theorem key_size (n : Int) : sizeT (.key n) ≤ 20 := by simp [sizeT]
theorem key_vis (n : Int) : (visT (.key n)).length = 1 := rfl

/-- A struct that lies whole in a block, loaded in a region that draws its order. -/
theorem quiet_load_rowK {P : Program} {W : World} {a : Act} {o : Oper} {K : Act → Prop} (ty : TypeId) (x : Operand) (ho : o.op = .load ty x)
    (g : Nat) (hx : a.eval x = .pointer (some ⟨g, 0, none⟩)) (t : TypeId) (cs : Array Value) (fr : Nat × Nat) (d : TypeDesc) (hg : W.heap[g]? = some (.cells cs t fr))
    (hu : P.underlying ty = some d) (hd : (match d with | .struct _ | .array _ _ => true | _ => false) = true) (hi : (P.info? ty).map (·.size) = some cs.size)
    (h : K (a.put o.dst (.agg cs))) : o.quiet P a (fun w'' => ∃ x : ExtOf W, w'' = x.val) K := by
  refine ⟨_, ?_, h⟩
  rintro w ⟨y, rfl⟩
  unfold Oper.quietAt execOp
  simp only [ho, hx, Instr.loadAt, Instr.sureAddr, Sem.run_bind, Sem.run_pure, Result.andThen_ok, run_loadVar_row y.val g t ty cs fr d (heap_ext hg y.ext) hu hd hi]
  exact ⟨rfl, rfl⟩

/-- The law says true. -/
def Trues (w : World) (e : Ending) (w' : World) : Prop := e = .returned (.bool true) ∧ Ext w w'
theorem two_newK {w : World} {A1 A2 : Obj} : ((w.alloc A1).alloc A2).heap[w.heap.size]? = some A1 ∧ ((w.alloc A1).alloc A2).heap[w.heap.size + 1]? = some A2 ∧ Ext w ((w.alloc A1).alloc A2) :=
  ⟨heap_ext (heap_new rfl) ((Ext.refl _).alloc _), heap_new (by simp), ((Ext.refl w).alloc _).alloc _⟩

set_option maxRecDepth 100000 in
set_option maxHeartbeats 16000000 in
theorem can_law (x : Ex) (v : Value) (lk lf lc : Int) (lt : ByteArray) (lb : Bool) (w : World) (hR : Hrd w x v) (hv : v = .slice none 0 0 ∨ ∃ a n c, v = .slice (some a) n c) :
    Calls Try.prog 3 #[.agg (x.arr v), .agg #[.int .i64 lk, .int .i64 lf, .int .u64 lc, .string lt, .bool lb]] w (Trues w) := by
  have HR := Lib.hid hR
  have HVV := Lib.hid hv
  obtain ⟨a, cap, rfl, hm, hvw⟩ := row_view hR
  have HV := Lib.hid hvw
  unfold maxLen at hm
  clear hR hv hvw
  obtain ⟨hl, hlen⟩ : ∃ hl : Int, (x.h.length : Int) = hl := ⟨_, rfl⟩
  obtain ⟨ls, hls⟩ : ∃ ls : Int, (lt.size : Int) = ls := ⟨_, rfl⟩
  have HLEN := Lib.hid (And.intro hlen hls)
  go_enter Try.func3, Try.ntmps3
  go_upto_region 1 with fail
  refine wp_forget (fun w' => Hid (ExAt w' w.heap.size x (.slice a x.h.length cap) ∧ w'.heap[w.heap.size + 1]? = some (.cells #[.int .i64 lk, .int .i64 lf, .int .u64 lc, .string lt, .bool lb] 24 (0, 0)) ∧ Ext w w')) (Lib.hid two_newK) ?_
  intro W1 H1
  have h1 := H1.out.1
  unfold ExAt Ex.arr at h1
  have q1 := fun j => cell_of_row W1 _ j _ _ _ h1
  have l1 : w.heap.size < W1.heap.size := (Array.getElem?_eq_some_iff.1 h1).1
  have q2 := fun j => cell_of_row W1 _ j _ _ _ H1.out.2.1
  have l2 : w.heap.size + 1 < W1.heap.size := (Array.getElem?_eq_some_iff.1 H1.out.2.1).1
  clear h1
  go_wp2_with (first | (refine wpList_load_row rfl 33 _ rfl _ rfl _ _ (0, 0) _ (H1.out.1) Try.underlying33 rfl info_ex ?_) | (refine wpList_load_rowG rfl 33 _ rfl _ rfl _ _ (0, 0) _ (H1.out.1) Try.underlying33 rfl info_ex ?_))
  refine (la_large x _ _ (HR.out.ext H1.out.2.2)).mono ?_
  rintro e w2 ⟨b, rfl, hx⟩
  obtain ⟨y2, rfl⟩ := ext_of hx
  clear hx
  cases b with
  | true =>
    as_aux_lemma =>
      go_wp2_with fail
      refine (live_any _).mono ?_
      rintro e w9 ⟨rfl, hx9⟩
      have HX9 := Lib.hid ((H1.out.2.2.val y2).trans hx9)
      clear hx9
      go_wp2_with fail
      go_ret
      exact ⟨rfl, HX9.out⟩
  | false =>
    by_cases i1 : (12 : Int) < hl
    ·
      as_aux_lemma =>
        go_wp2_with fail
        refine (live_any _).mono ?_
        rintro e w9 ⟨rfl, hx9⟩
        have HX9 := Lib.hid ((H1.out.2.2.val y2).trans hx9)
        clear hx9
        go_wp2_with fail
        go_ret
        exact ⟨rfl, HX9.out⟩
    · by_cases i2 : (64 : Int) < ls
      ·
        as_aux_lemma =>
          go_wp2_with fail
          refine (live_any _).mono ?_
          rintro e w9 ⟨rfl, hx9⟩
          have HX9 := Lib.hid ((H1.out.2.2.val y2).trans hx9)
          clear hx9
          go_wp2_with fail
          go_ret
          exact ⟨rfl, HX9.out⟩
      · have hn : x.h.length ≤ 12 := by omega
        have hlt : lt.size ≤ 64 := by omega
        have HN := Lib.hid (And.intro hn hlt)
        clear hn hlt
        go_wp2_with (first | (refine wpList_load_row rfl 33 _ rfl _ rfl _ _ (0, 0) _ (H1.out.1.ext y2.ext) Try.underlying33 rfl info_ex ?_) | (refine wpList_load_rowG rfl 33 _ rfl _ rfl _ _ (0, 0) _ (H1.out.1.ext y2.ext) Try.underlying33 rfl info_ex ?_))
        refine (la_own x _ _ (HR.out.ext (H1.out.2.2.val y2)) (by have := HN.out.1; omega) HVV.out).mono ?_
        rintro e w3 ⟨v', rfl, hO3, hx3⟩
        have HO3 := Lib.hid hO3
        have HX3 := Lib.hid (y2.ext.trans hx3)
        clear hO3 hx3
        go_wp2_with fail
        refine (mo_check x v' _ w3 HO3.out).mono ?_
        rintro e w4 ⟨rfl, hx4⟩
        obtain ⟨y4, rfl⟩ := ext_of (HX3.out.trans hx4)
        clear hx4 HX3 HO3 w3 y2
        cases hck : checkX x with
        | false =>
          as_aux_lemma =>
            go_wp2_with fail
            refine (live_any _).mono ?_
            rintro e w9 ⟨rfl, hx9⟩
            have HX9 := Lib.hid ((H1.out.2.2.val y4).trans hx9)
            clear hx9
            go_wp2_with fail
            go_ret
            exact ⟨rfl, HX9.out⟩
        | true =>
          have HCK := Lib.hid hck
          clear hck
          go_wp2_with fail
          refine (le_check ⟨lk, lf, lc, lt, lb⟩ _).mono ?_
          rintro e w5 ⟨rfl, hx5⟩
          obtain ⟨y5, rfl⟩ := ext_of (y4.ext.trans hx5)
          clear hx5 y4
          by_cases hcc : lchk ⟨lk, lf, lc, lt, lb⟩ = 0
          · have HCC := Lib.hid hcc
            rw [hcc]
            clear hcc
            go_wp2_with fail
            refine (la_num _ _).mono ?_
            rintro e w6 ⟨rfl, rfl⟩
            by_cases hc : lc = x.c
            · subst hc
              as_aux_lemma =>
                have HY := Lib.hid (H1.out.2.2.val y5)
                have HX := Lib.hid (H1.out.1.ext y5.ext)
                have HLB := Lib.hid (heap_ext H1.out.2.1 y5.ext)
                go_wp2_with fail
                clear H1 q1 q2 l1 l2 i1 i2
                generalize y5.val = WL at HY HX HLB ⊢
                clear y5 W1
                refine (te_new _).mono ?_
                rintro e wa ⟨hxa, rfl, hpa⟩
                have HXA := Lib.hid (And.intro hxa hpa)
                clear hxa hpa
                go_wp2_with fail
                refine (du_new _ _).mono ?_
                rintro e wb ⟨hxb, rfl, hkb⟩
                have HST := Lib.hid (LawSt.start HXA.out.1 hxb HXA.out.2 hkb)
                clear hxb hkb HXA
                generalize hpb : WL.heap.size + 1 = pb at HST ⊢
                generalize hmb : WL.heap.size = mb at HST
                generalize hkb : wa.heap.size + 1 = kb at HST ⊢
                generalize hsb : wa.heap.size = sb at HST
                generalize hB : sb + 2 = B at HST
                clear hpb hmb hkb hsb hB
                try clear wa
                have h1 := HX.out
                unfold ExAt Ex.arr at h1
                have q1 := fun j => cell_of_row WL _ j _ _ _ h1
                have l1 : w.heap.size < WL.heap.size := (Array.getElem?_eq_some_iff.1 h1).1
                have q2 := fun j => cell_of_row WL _ j _ _ _ HLB.out
                have l2 : w.heap.size + 1 < WL.heap.size := (Array.getElem?_eq_some_iff.1 HLB.out).1
                clear h1
                obtain ⟨yb, hyb⟩ : ∃ yb : ExtOf WL, wb = yb.val := by
                  obtain ⟨_, _, _, _, _, _, _, _, _, _, _, _, _, h7, _⟩ := HST.out
                  exact ext_of h7
                subst hyb
                go_wp2_with fail
                go_loopg [7] x.h.length (fun g ii wr => ∃ k : Nat, ii = .int .i64 (k : Int) ∧ k + g = x.h.length ∧ Hid (LawSt WL pb mb kb sb B ((x.h.take k).map treeL) k wr))
                case atStart => exact ⟨0, rfl, by omega, HST⟩
                case round =>
                  obtain ⟨k, rfl, hkg, HS⟩ := hrel
                  clear HST yb
                  obtain ⟨v1, gv, lv, L, G, K, W, s1, s2, s3, s4, s5, s6, s7, s8⟩ := HS.out
                  obtain ⟨y, rfl⟩ := ext_of s7
                  have HK1 := Lib.hid s1
                  have HK2 := Lib.hid (And.intro s2 (And.intro s3 (And.intro s4 (And.intro s5 (And.intro s6 (And.intro s7 s8))))))
                  clear s1 s2 s3 s4 s5 s6 s7 s8
                  have HKG := Lib.hid hkg
                  by_cases hk : k < x.h.length
                  · as_aux_lemma =>
                      obtain ⟨g, off, rfl, hg, hcell⟩ := HV.out (by omega)
                      have hg' := hg (by omega)
                      obtain ⟨lx, hlx⟩ : ∃ lx, x.h[k]? = some lx := ⟨_, List.getElem?_eq_getElem hk⟩
                      obtain ⟨c0, c1, c2, c3, c4⟩ := lt_cellsO (fun j u hj => cell_keep (hcell j u hj) HY.out) hlx
                      have hgl1 : g < WL.heap.size := Nat.lt_of_lt_of_le hg' HY.out.size
                      have i1 : (k : Int) < hl := by have := HLEN.out.1; omega
                      have HLX := Lib.hid hlx
                      have HKK := Lib.hid hk
                      have hwi : wrap64 ((k : Int) + 1) = (k : Int) + 1 := by have := HN.out.1; unfold wrap64; omega
                      clear hcell hg hg' hk hlx
                      go_wp2_with fail
                      have hok := check_letters HCK.out lx (List.mem_of_getElem? HLX.out)
                      refine (le_build lx L B pb mb v1 _ HK1.out.ok HK1.out.pool hok.1 (by have := HK2.out.2.2.1; have := HN.out.1; have := HKK.out; omega)).mono ?_
                      intro e w3 hg3
                      obtain ⟨n3, rfl, hT⟩ := LawSt.grown HK1.out HK2.out.1 HK2.out.2.1 HK2.out.2.2.1 HK2.out.2.2.2.1 HK2.out.2.2.2.2.1 HK2.out.2.2.2.2.2.1 HK2.out.2.2.2.2.2.2 (by have := (size_tree lx).1; omega) hg3
                      have HT := Lib.hid hT
                      clear hT hg3 hok c0 c1 c2 c3 c4 i1
                      go_wp2_with fail
                      refine (la_num _ _).mono ?_
                      rintro e w6 ⟨rfl, rfl⟩
                      go_wp2_with fail
                      obtain ⟨v2, gv2, lv2, L2, G2, K2, W2, t1, t2, t3, t4, t5, t6, t7, t8, t9, t10⟩ := HT.out
                      subst t10
                      have HLX2 := HN.out.1
                      have HKK2 := HKK.out
                      refine (du_add B pb mb kb sb v2 gv2 lv2 L2 G2 K2 W2 (treeL lx) _ t1 t2 t9 (by have := vis_len (treeL lx); have := (size_tree lx).1; omega) (by omega) (by omega)).mono ?_
                      rintro e w4 ⟨rfl, ha⟩
                      have HNX := Lib.hid (LawT.added t1 t3 t4 t5 t6 t7 t8 (by have := (size_tree lx).1; omega) ha)
                      clear ha t1 t2 t3 t4 t5 t6 t7 t8 t9 HLX2 HKK2
                      go_wp2_with fail
                      refine (la_num _ _).mono ?_
                      rintro e w6 ⟨rfl, rfl⟩
                      go_wp2_with fail
                      go_roundg (gk - 1)
                      case rel =>
                        refine ⟨k + 1, by simp [hwi], by have := HKG.out; have := HKK.out; omega, Lib.hid ?_⟩
                        rw [List.take_add_one, HLX.out]
                        simpa using HNX.out
                      case measure => have := HKG.out; have := HKK.out; omega
                  · have hke : k = x.h.length := by omega
                    have i1 : ¬ (k : Int) < hl := by have := HLEN.out.1; omega
                    as_aux_lemma =>
                      go_wp2_with fail
                      subst hke
                      have HS0 : Hid (LawSt WL pb mb kb sb B (x.h.map treeL) x.h.length y.val) := Lib.hid (by have := HS.out; rwa [List.take_length] at this)
                      clear HS HK1 HK2 HKG i1 hk
                      go_loopg [10] 2 (fun g ii wr => ∃ j : Nat, ii = .int .i64 (j : Int) ∧ j + g = 2 ∧ Hid (LawSt WL pb mb kb sb B (x.h.map treeL ++ keysB x j) (x.h.length + j) wr))
                      case atStart => exact ⟨0, rfl, by omega, Lib.hid (by have := HS0.out; simpa [keysB] using this)⟩
                      case round =>
                        obtain ⟨j, rfl, hjg, HS⟩ := hrel
                        clear HS0 y
                        obtain ⟨v1, gv, lv, L, G, K, W, s1, s2, s3, s4, s5, s6, s7, s8⟩ := HS.out
                        obtain ⟨y, rfl⟩ := ext_of s7
                        have HK1 := Lib.hid s1
                        have HK2 := Lib.hid (And.intro s2 (And.intro s3 (And.intro s4 (And.intro s5 (And.intro s6 (And.intro s7 s8))))))
                        clear s1 s2 s3 s4 s5 s6 s7 s8
                        have hj3 : j = 0 ∨ j = 1 ∨ j = 2 := by omega
                        have HJG := Lib.hid hjg
                        rcases hj3 with rfl | rfl | rfl
                        · as_aux_lemma =>
                            go_wp2_with fail
                            refine (te_key 0 (by omega) L B pb mb v1 _ HK1.out.ok HK1.out.pool (by have := HK2.out.2.2.1; have := HN.out.1; omega)).mono ?_
                            intro e w3 hg3
                            obtain ⟨n3, rfl, hT⟩ := LawSt.grown HK1.out HK2.out.1 HK2.out.2.1 HK2.out.2.2.1 HK2.out.2.2.2.1 HK2.out.2.2.2.2.1 HK2.out.2.2.2.2.2.1 HK2.out.2.2.2.2.2.2 (key_size _) hg3
                            have HT := Lib.hid hT
                            obtain ⟨z3, hz3⟩ : ∃ z3 : ExtOf WL, w3 = z3.val := by
                              obtain ⟨_, _, _, _, _, _, _, _, _, _, _, _, _, h7, _⟩ := hT
                              exact ext_of h7
                            subst hz3
                            clear hT hg3
                            go_wp2_with fail
                            refine (la_num _ _).mono ?_
                            rintro e w6 ⟨rfl, rfl⟩
                            cases hbb : x.b0 with
                            | false =>
                              go_wp2_with fail
                              go_roundg (gk - 1)
                              case rel =>
                                refine ⟨1, by simp, by have := HJG.out; omega, Lib.hid ?_⟩
                                have := HT.out.skip
                                rw [show x.h.length + 0 + 1 = x.h.length + 1 by omega] at this
                                unfold keysB at this ⊢
                                simpa [hbb] using this
                              case measure => have := HJG.out; omega
                            | true =>
                              go_wp2_with fail
                              obtain ⟨v2, gv2, lv2, L2, G2, K2, W2, t1, t2, t3, t4, t5, t6, t7, t8, t9, t10⟩ := HT.out
                              subst t10
                              have HN2 := HN.out.1
                              refine (du_add B pb mb kb sb v2 gv2 lv2 L2 G2 K2 W2 (.key 0) _ t1 t2 t9 (by rw [key_vis]; omega) (by omega) (by omega)).mono ?_
                              rintro e w4 ⟨rfl, ha⟩
                              have HNX := Lib.hid (LawT.added t1 t3 t4 t5 t6 t7 t8 (key_size _) ha)
                              clear ha t1 t2 t3 t4 t5 t6 t7 t8 t9 HN2
                              go_wp2_with fail
                              refine (la_num _ _).mono ?_
                              rintro e w6 ⟨rfl, rfl⟩
                              go_wp2_with fail
                              go_roundg (gk - 1)
                              case rel =>
                                refine ⟨1, by simp, by have := HJG.out; omega, Lib.hid ?_⟩
                                have := HNX.out
                                rw [show x.h.length + 0 + 1 = x.h.length + 1 by omega] at this
                                unfold keysB at this ⊢
                                simpa [hbb] using this
                              case measure => have := HJG.out; omega
                        · as_aux_lemma =>
                            go_wp2_with fail
                            refine (te_key 1 (by omega) L B pb mb v1 _ HK1.out.ok HK1.out.pool (by have := HK2.out.2.2.1; have := HN.out.1; omega)).mono ?_
                            intro e w3 hg3
                            obtain ⟨n3, rfl, hT⟩ := LawSt.grown HK1.out HK2.out.1 HK2.out.2.1 HK2.out.2.2.1 HK2.out.2.2.2.1 HK2.out.2.2.2.2.1 HK2.out.2.2.2.2.2.1 HK2.out.2.2.2.2.2.2 (key_size _) hg3
                            have HT := Lib.hid hT
                            obtain ⟨z3, hz3⟩ : ∃ z3 : ExtOf WL, w3 = z3.val := by
                              obtain ⟨_, _, _, _, _, _, _, _, _, _, _, _, _, h7, _⟩ := hT
                              exact ext_of h7
                            subst hz3
                            clear hT hg3
                            go_wp2_with fail
                            refine (la_num _ _).mono ?_
                            rintro e w6 ⟨rfl, rfl⟩
                            cases hbb : x.b1 with
                            | false =>
                              go_wp2_with fail
                              go_roundg (gk - 1)
                              case rel =>
                                refine ⟨2, by simp, by have := HJG.out; omega, Lib.hid ?_⟩
                                have := HT.out.skip
                                rw [show x.h.length + 1 + 1 = x.h.length + 2 by omega] at this
                                unfold keysB at this ⊢
                                simpa [hbb] using this
                              case measure => have := HJG.out; omega
                            | true =>
                              go_wp2_with fail
                              obtain ⟨v2, gv2, lv2, L2, G2, K2, W2, t1, t2, t3, t4, t5, t6, t7, t8, t9, t10⟩ := HT.out
                              subst t10
                              have HN2 := HN.out.1
                              refine (du_add B pb mb kb sb v2 gv2 lv2 L2 G2 K2 W2 (.key 1) _ t1 t2 t9 (by rw [key_vis]; omega) (by omega) (by omega)).mono ?_
                              rintro e w4 ⟨rfl, ha⟩
                              have HNX := Lib.hid (LawT.added t1 t3 t4 t5 t6 t7 t8 (key_size _) ha)
                              clear ha t1 t2 t3 t4 t5 t6 t7 t8 t9 HN2
                              go_wp2_with fail
                              refine (la_num _ _).mono ?_
                              rintro e w6 ⟨rfl, rfl⟩
                              go_wp2_with fail
                              go_roundg (gk - 1)
                              case rel =>
                                refine ⟨2, by simp, by have := HJG.out; omega, Lib.hid ?_⟩
                                have := HNX.out
                                rw [show x.h.length + 1 + 1 = x.h.length + 2 by omega] at this
                                unfold keysB at this ⊢
                                simpa [hbb] using this
                              case measure => have := HJG.out; omega
                        · as_aux_lemma =>
                            clear HS
                            go_wp2_with fail
                            refine (le_build ⟨lk, lf, x.c, lt, lb⟩ L B pb mb v1 _ HK1.out.ok HK1.out.pool HCC.out (by have := HK2.out.2.2.1; have := HN.out.1; omega)).mono ?_
                            intro e w3 hg3
                            obtain ⟨n3, rfl, hT⟩ := LawSt.grown HK1.out HK2.out.1 HK2.out.2.1 HK2.out.2.2.1 HK2.out.2.2.2.1 HK2.out.2.2.2.2.1 HK2.out.2.2.2.2.2.1 HK2.out.2.2.2.2.2.2 (by have := (size_tree ⟨lk, lf, x.c, lt, lb⟩).1; omega) hg3
                            obtain ⟨v2, gv2, lv2, L2, G2, K2, W2, t1, t2, t3, t4, t5, t6, t7, t8, t9, t10⟩ := hT
                            have hder : derK K2 (treeL ⟨lk, lf, x.c, lt, lb⟩) = canS x ⟨lk, lf, x.c, lt, lb⟩ := derK_can (check_letters HCK.out) HCC.out rfl (by rw [← keys_given]; exact t3)
                            have hdv := fun w' (e : Ext w3 w') => du_derives B pb mb kb sb v2 gv2 lv2 L2 G2 K2 W2 (treeL ⟨lk, lf, x.c, lt, lb⟩) w' (t1.ext e) t9 (by have := HN.out.1; omega) (by
                              have h1 := (size_tree ⟨lk, lf, x.c, lt, lb⟩).1
                              have h2 := HN.out.1
                              have h3 : sizeT (treeL ⟨lk, lf, x.c, lt, lb⟩) * (K2.length + 1) ≤ 16 * 300 := Nat.mul_le_mul h1 (by omega)
                              omega)
                            rw [hder, ← t10] at hdv
                            have hcan := fun v' w' (h : Hrd w' x v') => mo_can x v' ⟨lk, lf, x.c, lt, lb⟩ w' h
                            generalize canS x ⟨lk, lf, x.c, lt, lb⟩ = cs at hdv hcan
                            have HDV := Lib.hid hdv
                            have HCAN := Lib.hid hcan
                            obtain ⟨z3, rfl⟩ := ext_of t7
                            clear hder hdv hcan t1 t2 t3 t4 t5 t6 t7 t8 t9 t10 hg3 HK1 HK2 v2 gv2 lv2 L2 G2 K2 W2 v1 gv lv L G K W y HJG hjg
                            go_wp2_with fail
                            refine wp_region_mixE (af := ?af) [true, true, true, true, true, true, true, true, false, true, false, false, false, false, false, false, false] 133 (by kernel_rfl) rfl (by kernel_rfl) ?q ?r
                            case q =>
                              intro x0
                              simp only [pickT, if_true, if_false, Bool.false_eq_true]
                              iterate 7 (go_big_quiet_step ((first | (go_at_call 7; exact calls_ext (la_numE _ _)) | (go_at_call 15; exact calls_ext (HDV.out _ (x0.ext.trans (ExtOf.ext _)))))))
                              (go_big_quiet_want; refine quiet_load_rowK 33 _ rfl _ rfl _ _ (0, 0) _ ((HX.out.ext z3.ext).ext x0.ext) Try.underlying33 rfl info_ex ?_; go_big_quiet_on; simp only [Act.put, List.setIfInBounds_toArray, List.set_cons_succ, List.set_cons_zero])
                              go_big_quiet_step (fail)
                              exact rfl
                            case r =>
                              simp only [pickF, if_true, if_false, Bool.false_eq_true]
                              intro x1
                              have e1 : Ext z3.val x1.val := (Ext.refl _).drew.val x1
                              have E1 := Lib.hid e1
                              generalize x1.val = wa at E1 ⊢
                              clear e1 x1
                              go_wp2_with fail
                              refine (la_own x _ _ (HR.out.ext (HY.out.trans (z3.ext.trans E1.out))) (by have := HN.out.1; omega) HVV.out).mono ?_
                              rintro e wb ⟨v5, rfl, hO5, hx5⟩
                              have E5 := Lib.hid (E1.out.trans hx5)
                              have HO5 := Lib.hid hO5
                              clear hO5 hx5
                              go_wp2_with fail
                              refine ⟨E5.out, ?_⟩
                              intro x2
                              have E6 := Lib.hid (E5.out.val x2)
                              have HO6 := Lib.hid (HO5.out.ext x2.ext)
                              generalize x2.val = wd at E6 HO6 ⊢
                              clear x2 HO5 E5 E1
                              go_wp2_with fail
                              refine (HCAN.out v5 wd HO6.out.row).mono ?_
                              rintro e we ⟨rfl, hx7⟩
                              have E7 := Lib.hid (E6.out.trans hx7)
                              clear hx7 HO6 E6
                              go_wp2_with fail
                              refine ⟨E7.out, ?_⟩
                              intro x3
                              have E8 := Lib.hid (E7.out.val x3)
                              generalize x3.val = wf at E8 ⊢
                              clear x3 E7
                              go_wp2_with fail
                              refine ⟨E8.out, ?_⟩
                              intro x4
                              have E9 := Lib.hid (E8.out.val x4)
                              generalize x4.val = wg at E9 ⊢
                              clear x4 E8
                              go_wp2_with fail
                              refine ⟨E9.out, ?_⟩
                              intro x5
                              have E10 := Lib.hid (E9.out.val x5)
                              generalize x5.val = wh at E10 ⊢
                              clear x5 E9
                              go_wp2_with fail
                              refine ⟨E10.out, ?_⟩
                              intro x6
                              have E11 := Lib.hid (E10.out.val x6)
                              generalize x6.val = wi at E11 ⊢
                              clear x6 E10
                              go_wp2_with fail
                              refine (live_any _).mono ?_
                              rintro e wj ⟨rfl, hxj⟩
                              have E12 := Lib.hid (E11.out.trans hxj)
                              clear hxj E11
                              go_wp2_with fail
                              refine ⟨E12.out, ?_⟩
                              intro x7
                              have E13 := Lib.hid (E12.out.val x7)
                              generalize x7.val = wk at E13 ⊢
                              clear x7 E12
                              go_wp2_with fail
                              refine ⟨E13.out, ?_⟩
                              intro x8
                              have E14 := Lib.hid (E13.out.val x8)
                              generalize x8.val = wl at E14 ⊢
                              clear x8 E13
                              go_wp2_with fail
                              refine ⟨E14.out, ?_⟩
                              intro x9
                              go_wp2_with fail
                              go_ret
                              exact ⟨rfl, HY.out.trans ((z3.ext.trans E14.out).val x9)⟩
            ·
              as_aux_lemma =>
                go_wp2_with fail
                refine (live_any _).mono ?_
                rintro e w9 ⟨rfl, hx9⟩
                have HX9 := Lib.hid ((H1.out.2.2.val y5).trans hx9)
                clear hx9
                go_wp2_with fail
                go_ret
                exact ⟨rfl, HX9.out⟩
          · generalize hcd : lchk ⟨lk, lf, lc, lt, lb⟩ = cd at hcc ⊢
            clear hcd
            go_wp2_with fail
            refine (la_num _ _).mono ?_
            rintro e w6 ⟨rfl, rfl⟩
            as_aux_lemma =>
              go_wp2_with fail
              refine (live_any _).mono ?_
              rintro e w9 ⟨rfl, hx9⟩
              have HX9 := Lib.hid ((H1.out.2.2.val y5).trans hx9)
              clear hx9
              go_wp2_with fail
              go_ret
              exact ⟨rfl, HX9.out⟩
end Go.Proofs.Ytfibbhmmiemcoaa

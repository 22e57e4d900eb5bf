/-
  Moves, pairs of states, pairs of truth values against each other; Index and Contains over moves. No condition.
-/
import Derived.Test.YtlnmhocehgmbbaaGreatDoorMS6
import Derived.ChangeKeysEq
import Derived.Deep.RegionLaw
namespace Go.Proofs.YtlnmhocehgmbbaaGreatDoor
open Go.RowKit
attribute [local go_sem ↓] eql_lEq eql_sEq eql_eEq eql_oEq neq_lEq neq_sEq neq_eEq neq_oEq eql_vEq neq_vEq eql_nil
attribute [local go_sem] ExtOf.cell ExtOf.frozen ExtOf.lt ExtOf.le
attribute [local go_sem high] ExtOf.cell2 ExtOf.frozen2 ExtOf.lt2 ExtOf.cell3 ExtOf.frozen3 ExtOf.lt3

/-- Are two moves the same? -/
def mEq (k : Int) (who : Int) (t : ByteArray) (lk : Int) (lf : Int) (lc : Int) (lt : ByteArray) (lb : Bool) (lost : Bool) (k' : Int) (who' : Int) (t' : ByteArray) (lk' : Int) (lf' : Int) (lc' : Int) (lt' : ByteArray) (lb' : Bool) (lost' : Bool) : Bool := decide (k = k' ∧ who = who' ∧ t = t' ∧ lk = lk' ∧ lf = lf' ∧ lc = lc' ∧ lt = lt' ∧ lb = lb' ∧ lost = lost')
set_option maxHeartbeats 1600000 in
theorem eql_mEq (k : Int) (who : Int) (t : ByteArray) (lk : Int) (lf : Int) (lc : Int) (lt : ByteArray) (lb : Bool) (lost : Bool) (k' : Int) (who' : Int) (t' : ByteArray) (lk' : Int) (lf' : Int) (lc' : Int) (lt' : ByteArray) (lb' : Bool) (lost' : Bool) (w : World) : (binOp .eql 52 (.agg #[.int .i64 k, .int .i64 who, .string t, .int .i64 lk, .int .i64 lf, .int .u64 lc, .string lt, .bool lb, .bool lost]) (.agg #[.int .i64 k', .int .i64 who', .string t', .int .i64 lk', .int .i64 lf', .int .u64 lc', .string lt', .bool lb', .bool lost'])).run Tryz.prog w = .ok (.bool ((mEq k who t lk lf lc lt lb lost k' who' t' lk' lf' lc' lt' lb' lost'))) w := by
  simp [go_sem, toList_beq, mEq]
  by_cases h_k : k = k'
  case neg => simp [h_k]
  by_cases h_who : who = who'
  case neg => simp [h_who]
  by_cases h_t : t = t'
  case neg => simp [h_t]
  by_cases h_lk : lk = lk'
  case neg => simp [h_lk]
  by_cases h_lf : lf = lf'
  case neg => simp [h_lf]
  by_cases h_lc : lc = lc'
  case neg => simp [h_lc]
  by_cases h_lt : lt = lt'
  case neg => simp [h_lt]
  by_cases h_lb : lb = lb'
  case neg => simp [h_lb]
  by_cases h_lost : lost = lost'
  case neg => simp [h_lost]
  simp [h_k, h_who, h_t, h_lk, h_lf, h_lc, h_lt, h_lb, h_lost]
/-- Are two pairs of states the same? -/
def sEq2 (mr : Int) (mc : Int) (mt : ByteArray) (mh : Int) (mpk : Int) (mpf : Int) (mpc : Int) (mpt : ByteArray) (mpb : Bool) (nr : Int) (nc : Int) (nt : ByteArray) (nh : Int) (npk : Int) (npf : Int) (npc : Int) (npt : ByteArray) (npb : Bool) (mr' : Int) (mc' : Int) (mt' : ByteArray) (mh' : Int) (mpk' : Int) (mpf' : Int) (mpc' : Int) (mpt' : ByteArray) (mpb' : Bool) (nr' : Int) (nc' : Int) (nt' : ByteArray) (nh' : Int) (npk' : Int) (npf' : Int) (npc' : Int) (npt' : ByteArray) (npb' : Bool) : Bool := decide (mr = mr' ∧ mc = mc' ∧ mt = mt' ∧ mh = mh' ∧ mpk = mpk' ∧ mpf = mpf' ∧ mpc = mpc' ∧ mpt = mpt' ∧ mpb = mpb' ∧ nr = nr' ∧ nc = nc' ∧ nt = nt' ∧ nh = nh' ∧ npk = npk' ∧ npf = npf' ∧ npc = npc' ∧ npt = npt' ∧ npb = npb')
set_option maxHeartbeats 1600000 in
theorem neq_sEq2 (mr : Int) (mc : Int) (mt : ByteArray) (mh : Int) (mpk : Int) (mpf : Int) (mpc : Int) (mpt : ByteArray) (mpb : Bool) (nr : Int) (nc : Int) (nt : ByteArray) (nh : Int) (npk : Int) (npf : Int) (npc : Int) (npt : ByteArray) (npb : Bool) (mr' : Int) (mc' : Int) (mt' : ByteArray) (mh' : Int) (mpk' : Int) (mpf' : Int) (mpc' : Int) (mpt' : ByteArray) (mpb' : Bool) (nr' : Int) (nc' : Int) (nt' : ByteArray) (nh' : Int) (npk' : Int) (npf' : Int) (npc' : Int) (npt' : ByteArray) (npb' : Bool) (w : World) : (binOp .neq 27 (.agg #[.int .i64 mr, .int .u64 mc, .string mt, .int .i64 mh, .int .i64 mpk, .int .i64 mpf, .int .u64 mpc, .string mpt, .bool mpb, .int .i64 nr, .int .u64 nc, .string nt, .int .i64 nh, .int .i64 npk, .int .i64 npf, .int .u64 npc, .string npt, .bool npb]) (.agg #[.int .i64 mr', .int .u64 mc', .string mt', .int .i64 mh', .int .i64 mpk', .int .i64 mpf', .int .u64 mpc', .string mpt', .bool mpb', .int .i64 nr', .int .u64 nc', .string nt', .int .i64 nh', .int .i64 npk', .int .i64 npf', .int .u64 npc', .string npt', .bool npb'])).run Tryz.prog w = .ok (.bool (!(sEq2 mr mc mt mh mpk mpf mpc mpt mpb nr nc nt nh npk npf npc npt npb mr' mc' mt' mh' mpk' mpf' mpc' mpt' mpb' nr' nc' nt' nh' npk' npf' npc' npt' npb'))) w := by
  rw [run_neq_struct]
  obtain ⟨i, hi⟩ := Option.isSome_iff_exists.1 (show (Tryz.prog.info? 26).isSome = true by kernel_rfl)
  rw [run_equalIn_array w 9999 _ _ Tryz.underlying27 hi]
  rw [show Tryz.prog.cellsOf 26 = 9 by kernel_rfl]
  simp [Op.eqItems, List.range_succ, go_sem, toList_beq, sEq2]

  by_cases h_mr : mr = mr'
  case neg => simp [h_mr]
  by_cases h_mc : mc = mc'
  case neg => simp [h_mc]
  by_cases h_mt : mt = mt'
  case neg => simp [h_mt]
  by_cases h_mh : mh = mh'
  case neg => simp [h_mh]
  by_cases h_mpk : mpk = mpk'
  case neg => simp [h_mpk]
  by_cases h_mpf : mpf = mpf'
  case neg => simp [h_mpf]
  by_cases h_mpc : mpc = mpc'
  case neg => simp [h_mpc]
  by_cases h_mpt : mpt = mpt'
  case neg => simp [h_mpt]
  by_cases h_mpb : mpb = mpb'
  case neg => simp [h_mpb]
  by_cases h_nr : nr = nr'
  case neg => simp [h_nr]
  by_cases h_nc : nc = nc'
  case neg => simp [h_nc]
  by_cases h_nt : nt = nt'
  case neg => simp [h_nt]
  by_cases h_nh : nh = nh'
  case neg => simp [h_nh]
  by_cases h_npk : npk = npk'
  case neg => simp [h_npk]
  by_cases h_npf : npf = npf'
  case neg => simp [h_npf]
  by_cases h_npc : npc = npc'
  case neg => simp [h_npc]
  by_cases h_npt : npt = npt'
  case neg => simp [h_npt]
  by_cases h_npb : npb = npb'
  case neg => simp [h_npb]
  simp [h_mr, h_mc, h_mt, h_mh, h_mpk, h_mpf, h_mpc, h_mpt, h_mpb, h_nr, h_nc, h_nt, h_nh, h_npk, h_npf, h_npc, h_npt, h_npb]
/-- Are two pairs of truth values the same? -/
def bEq2 (x : Bool) (y : Bool) (x' : Bool) (y' : Bool) : Bool := decide (x = x' ∧ y = y')
set_option maxHeartbeats 1600000 in
theorem neq_bEq2 (x : Bool) (y : Bool) (x' : Bool) (y' : Bool) (w : World) : (binOp .neq 30 (.agg #[.bool x, .bool y]) (.agg #[.bool x', .bool y'])).run Tryz.prog w = .ok (.bool (!(bEq2 x y x' y'))) w := by
  rw [run_neq_struct]
  obtain ⟨i, hi⟩ := Option.isSome_iff_exists.1 (show (Tryz.prog.info? 4).isSome = true by kernel_rfl)
  rw [run_equalIn_array w 9999 _ _ Tryz.underlying30 hi]
  rw [show Tryz.prog.cellsOf 4 = 1 by kernel_rfl]
  simp [Op.eqItems, List.range_succ, go_sem, toList_beq, bEq2]

  by_cases h_x : x = x'
  case neg => simp [h_x]
  by_cases h_y : y = y'
  case neg => simp [h_y]
  simp [h_x, h_y]
theorem mEq_mv (a b : Mv) : mEq a.k a.who a.t a.l.k a.l.f a.l.c a.l.t a.l.b a.lost b.k b.who b.t b.l.k b.l.f b.l.c b.l.t b.l.b b.lost = decide (a = b) := by
  obtain ⟨k, who, t, ⟨lk, lf, lc, lt, lb⟩, lost⟩ := a
  obtain ⟨k', who', t', ⟨lk', lf', lc', lt', lb'⟩, lost'⟩ := b
  simp only [mEq, decide_eq_decide, Mv.mk.injEq, Lt.mk.injEq]
  constructor
  · rintro ⟨a, b, c, d, e, f, g, h, i⟩; exact ⟨a, b, c, ⟨d, e, f, g, h⟩, i⟩
  · rintro ⟨a, b, c, ⟨d, e, f, g, h⟩, i⟩; exact ⟨a, b, c, d, e, f, g, h, i⟩

def Mv.cs (m : Mv) : List Value := [.int .i64 m.k, .int .i64 m.who, .string m.t, .int .i64 m.l.k, .int .i64 m.l.f, .int .u64 m.l.c, .string m.l.t, .bool m.l.b, .bool m.lost]
theorem mv_cells {w : World} {g off : Nat} {L : List Mv} {k : Nat} {x : Mv} (h : ∀ j u, (L.flatMap Mv.cs)[j]? = some u → w.cell? ⟨g, off + j, none⟩ = some u) (hx : L[k]? = some x) :
    w.cell? ⟨g, off + k * 9, none⟩ = some (.int .i64 x.k) ∧ w.cell? ⟨g, off + k * 9 + 1, none⟩ = some (.int .i64 x.who) ∧ w.cell? ⟨g, off + k * 9 + 2, none⟩ = some (.string x.t) ∧ w.cell? ⟨g, off + k * 9 + 3, none⟩ = some (.int .i64 x.l.k) ∧ w.cell? ⟨g, off + k * 9 + 4, none⟩ = some (.int .i64 x.l.f) ∧ w.cell? ⟨g, off + k * 9 + 5, none⟩ = some (.int .u64 x.l.c) ∧ w.cell? ⟨g, off + k * 9 + 6, none⟩ = some (.string x.l.t) ∧ w.cell? ⟨g, off + k * 9 + 7, none⟩ = some (.bool x.l.b) ∧ w.cell? ⟨g, off + k * 9 + 8, none⟩ = some (.bool x.lost) := by
  have key := fun j hj => flat_get Mv.cs 9 (fun _ => rfl) L k x hx j hj
  refine ⟨h _ _ (key 0 (by omega)), ?_, ?_, ?_, ?_, ?_, ?_, ?_, ?_⟩
  · rw [Nat.add_assoc]; exact h _ _ (key 1 (by omega))
  · rw [Nat.add_assoc]; exact h _ _ (key 2 (by omega))
  · rw [Nat.add_assoc]; exact h _ _ (key 3 (by omega))
  · rw [Nat.add_assoc]; exact h _ _ (key 4 (by omega))
  · rw [Nat.add_assoc]; exact h _ _ (key 5 (by omega))
  · rw [Nat.add_assoc]; exact h _ _ (key 6 (by omega))
  · rw [Nat.add_assoc]; exact h _ _ (key 7 (by omega))
  · rw [Nat.add_assoc]; exact h _ _ (key 8 (by omega))

theorem not_mem_of_allM {L : List Mv} {l : Mv} (h : ∀ (j : Nat) z, L[j]? = some z → z ≠ l) : l ∉ L := fun hm => by
  obtain ⟨j, hj⟩ := List.mem_iff_getElem?.1 hm
  exact h j l hj rfl
attribute [local go_sem ↓] eql_mEq
set_option maxHeartbeats 1600000 in
theorem sl_indexM (v : Value) (L : List Mv) (l : Mv) (w : World) (hR : Row w 9 v L.length (L.flatMap Mv.cs)) :
    Calls Tryz.prog 84 #[v, .agg #[.int .i64 l.k, .int .i64 l.who, .string l.t, .int .i64 l.l.k, .int .i64 l.l.f, .int .u64 l.l.c, .string l.l.t, .bool l.l.b, .bool l.lost]] w fun e w' => ∃ n : Int, e = .returned (.int .i64 n) ∧ decide (0 ≤ n) = decide (l ∈ L) ∧ Ext w w' := by
  obtain ⟨a, cap, rfl, hm, hvw⟩ := row_view hR
  have HV := Lib.hid hvw
  clear hvw hR
  unfold maxLen at hm
  go_enter Tryz.func84, Tryz.ntmps84
  go_wp2_with fail
  refine wp_forget (fun w' => w'.heap[w.heap.size]? = some (.cells #[.int .i64 l.k, .int .i64 l.who, .string l.t, .int .i64 l.l.k, .int .i64 l.l.f, .int .u64 l.l.c, .string l.l.t, .bool l.l.b, .bool l.lost] 52 (0, 0)) ∧ Ext w w') ⟨heap_new rfl, (Ext.refl _).alloc _⟩ ?_
  rintro W1 ⟨h1, x1⟩
  have c1 := fun j => cell_of_row W1 _ j _ _ _ h1
  have l1 : w.heap.size < W1.heap.size := (Array.getElem?_eq_some_iff.1 h1).1
  have X1 := Lib.hid x1
  clear h1 x1
  go_loopg [8] L.length (fun g ii wr => ∃ (n : Nat) (y : ExtOf W1), ii = .int .i64 (n : Int) ∧ n + g = L.length ∧ wr = y.val ∧ Hid (∀ (j : Nat) z, j < n → L[j]? = some z → z ≠ l))
  case atStart => exact ⟨0, ⟨W1, Ext.refl _⟩, rfl, by omega, rfl, Lib.hid fun _ _ h => by omega⟩
  case round =>
    obtain ⟨n, y, rfl, hg, rfl, HN⟩ := hrel
    by_cases hlt : n < L.length
    · obtain ⟨g, off, rfl, hgl, hcell⟩ := HV.out (by omega)
      have hgl := hgl (by omega)
      obtain ⟨x, hx⟩ : ∃ x, L[n]? = some x := ⟨_, List.getElem?_eq_getElem hlt⟩
      obtain ⟨q0, q1, q2, q3, q4, q5, q6, q7, q8⟩ := mv_cells (fun j u hj => cell_keep (hcell j u hj) X1.out) hx
      have HX := Lib.hid hx
      have hgl1 : g < W1.heap.size := Nat.lt_of_lt_of_le hgl X1.out.size
      clear hx hcell hgl
      have hlt' : (n : Int) < (L.length : Int) := by omega
      by_cases he : l = x
      · have he' : mEq l.k l.who l.t l.l.k l.l.f l.l.c l.l.t l.l.b l.lost x.k x.who x.t x.l.k x.l.f x.l.c x.l.t x.l.b x.lost = true := by rw [mEq_mv]; simpa using he
        have HE := Lib.hid he
        clear he
        go_wp2_with fail
        refine wp_region_ext (by kernel_rfl) (by kernel_rfl) ?_
        repeat (go_big_quiet_step (fail))
        refine wpQuiet_nil ?_
        intro _ hx'
        obtain ⟨z, rfl⟩ := hx'
        go_wp2_with fail
        go_ret
        refine ⟨n, rfl, ?_, X1.out.trans (y.ext.val z)⟩
        rw [HE.out, decide_eq_decide]
        exact ⟨fun _ => List.mem_of_getElem? HX.out, fun _ => by omega⟩
      · have he' : mEq l.k l.who l.t l.l.k l.l.f l.l.c l.l.t l.l.b l.lost x.k x.who x.t x.l.k x.l.f x.l.c x.l.t x.l.b x.lost = false := by rw [mEq_mv]; simpa using he
        have HE := Lib.hid he
        clear he
        go_wp2_with fail
        refine wp_region_ext (by kernel_rfl) (by kernel_rfl) ?_
        repeat (go_big_quiet_step (fail))
        refine wpQuiet_nil ?_
        intro _ hx'
        obtain ⟨z, rfl⟩ := hx'
        go_wp2_with fail
        go_roundg (gk - 1)
        case rel =>
          refine ⟨n + 1, ⟨z.val, y.ext.val z⟩, rfl, by omega, rfl, Lib.hid fun j u hj hu => ?_⟩
          by_cases hjn : j = n
          · subst hjn
            rw [HX.out, Option.some.injEq] at hu
            rw [← hu]
            exact fun h => HE.out h.symm
          · exact HN.out j u (by omega) hu
        case measure => omega
    · have hge : (L.length : Int) ≤ (n : Int) := by omega
      go_wp2_with fail
      go_ret
      refine ⟨-1, rfl, ?_, X1.out.val y⟩
      rw [decide_eq_decide]
      refine ⟨fun h => by omega, fun h => absurd h (not_mem_of_allM fun j z hz => HN.out j z ?_ hz)⟩
      have := (List.getElem?_eq_some_iff.1 hz).1
      omega

set_option maxHeartbeats 800000 in
theorem sl_containsM (v : Value) (L : List Mv) (l : Mv) (w : World) (hR : Row w 9 v L.length (L.flatMap Mv.cs)) :
    Calls Tryz.prog 58 #[v, .agg #[.int .i64 l.k, .int .i64 l.who, .string l.t, .int .i64 l.l.k, .int .i64 l.l.f, .int .u64 l.l.c, .string l.l.t, .bool l.l.b, .bool l.lost]] w fun e w' => e = .returned (.bool (decide (l ∈ L))) ∧ Ext w w' := by
  have HR := Lib.hid hR
  clear hR
  go_enter Tryz.func58, Tryz.ntmps58
  go_wp2_with fail
  refine (sl_indexM v L l _ (HR.out.ext ((Ext.refl _).alloc _))).mono ?_
  rintro e w1 ⟨n, rfl, hn, hx⟩
  have HN := Lib.hid hn
  have HX := Lib.hid hx
  clear hn hx
  go_wp2_with fail
  go_ret
  exact ⟨by rw [HN.out]; rfl, ((Ext.refl _).alloc _).trans HX.out⟩

end Go.Proofs.YtlnmhocehgmbbaaGreatDoor

/-
  Walks: an element cut out of a row of one's own (slices.Delete at letters). No condition.
-/
namespace Go.Proofs.YtlnmhocehgmbbaaGreatDoor
open Go.RowKit
attribute [local go_sem ↓] eql_lEq eql_sEq eql_eEq eql_oEq neq_lEq neq_sEq neq_eEq neq_oEq eql_vEq neq_vEq eql_nil
attribute [local go_sem] ExtOf.cell ExtOf.frozen ExtOf.lt ExtOf.le
attribute [local go_sem high] ExtOf.cell2 ExtOf.frozen2 ExtOf.lt2 ExtOf.cell3 ExtOf.frozen3 ExtOf.lt3

theorem zero_all {z : Array Value} {n : Nat} {p : Value → Prop} (hz : 0 < z.size) (h : ∀ u ∈ z.toList, p u) : ∀ u ∈ (Builtin.zeroCells z n).toList, p u := fun u hu => by
  simp only [Builtin.zeroCells, Array.toList_map, List.mem_map] at hu
  obtain ⟨i, _, rfl⟩ := hu
  have hi : i % z.size < z.size := Nat.mod_lt _ hz
  rw [getElem!_pos z _ hi]
  exact h _ (by simp)

/-- 'clear(s)' of a row in a block of one's own. -/
theorem run_clear_row {P : Program} (w : World) (t e ty : TypeId) (z : Value) (size : Nat) (ht : P.underlying t = some (.slice e)) (hv : ∀ w, (zeroValue e).run P w = .ok z w) (hz : z.cells.size = size) (hs : 0 < size) (h1 : ∀ u ∈ z.cells.toList, u.oneCell' = true)
    (g o n c : Nat) (cur : Array Value) (fr : TypeId) (hg : w.heap[g]? = some (.cells cur fr (0, 0))) (hn : 0 < n) (hfit : o + n * size ≤ cur.size) :
    (Builtin.clear_ #[t] ty #[.slice (some ⟨g, o, none⟩) n c]).run P w = .ok (.tuple #[]) (w.setRow g (cur.toList.take o ++ (Builtin.zeroCells z.cells n).toList ++ cur.toList.drop (o + n * size)).toArray) := by
  have hl : (Builtin.zeroCells z.cells n).toList.length = n * size := by rw [Array.length_toList, size_zeroCells, hz]
  have hst := run_storeCells_at P g o fr (Builtin.zeroCells z.cells n).toList 0 cur w hg (by rw [hl]; simpa using hfit) (zero_all (by omega) h1)
  simp only [Nat.add_zero, hl] at hst
  obtain ⟨m, rfl⟩ : ∃ m, n = m + 1 := ⟨n - 1, by omega⟩
  simp [Builtin.clear_, run_underlying ht, hv, hst]

/-- The append onto a row in a block of one's own, where there is room: a step of a region that draws. -/
theorem step_append_row {P : Program} {ops : Array Oper} {o : Oper} {a : Act} {w : World} {K : Act → World → Prop} {Q : Exit → Act → World → Prop} {E : Prop}
    (hgd : o.guard = none) (s x : Operand) (t : TypeId) (hop : o.op = Op.call { callee := Callee.builtin Builtin.append, args := #[s, x], argTypes := #[t, t] })
    (e : TypeId) (i : TypeInfo) (size : Nat) (h1 : P.underlying t = some (.slice e)) (h2 : P.info? e = some i) (h4 : i.size = size)
    (g n cap : Nat) (cur : Array Value) (hs : a.eval s = .slice (some ⟨g, 0, none⟩) n cap) (hg : w.heap[g]? = some (.cells cur e (0, 0)))
    (ad : Addr) (m c : Nat) (news : List Value) (hx : a.eval x = .slice (some ad) m c) (hn : news.length = m * size) (hc : ∀ j u, news[j]? = some u → w.cell? (ad.add j) = some u) (h1c : ∀ u ∈ news, u.oneCell' = true)
    (hroom : n + m ≤ cap) (hfit : n * size + news.length ≤ cur.size)
    (hK : K (a.put o.dst (.slice (some ⟨g, 0, none⟩) (n + m) cap)) (w.setRow g (cur.toList.take (n * size) ++ news ++ cur.toList.drop (n * size + news.length)).toArray)) :
    if Region.wanted o (yielded ops a.tmps) = true then Oper.wp P o a w K Q else E := by
  have hw : Region.wanted o (yielded ops a.tmps) = true := by simp [Region.wanted, hgd]
  rw [if_pos hw]
  subst h4
  have hrun := run_append_room (P := P) w t o.type e i h1 h2 g n cap cur hg ad m c news hn hc h1c hroom hfit
  unfold Oper.wp
  simp [execOp, hop, resolve, invoke, builtin, hs, hx, hrun, Result.andThen]
  simp only [List.append_assoc] at hK
  exact hK

theorem erase_eq {α : Type} (L : List α) (i : Nat) : L.eraseIdx i = L.take i ++ L.drop (i + 1) := List.eraseIdx_eq_take_drop_succ L i
theorem flat_take (f : Lt → List Value) (k : Nat) (hf : ∀ x, (f x).length = k) : ∀ (L : List Lt) (i : Nat), (L.flatMap f).take (i * k) = (L.take i).flatMap f
  | [], i => by simp
  | x :: L, 0 => by simp
  | x :: L, i + 1 => by
    rw [List.flatMap_cons, List.take_succ_cons, List.flatMap_cons, Nat.add_mul, Nat.one_mul, List.take_append, hf, show i * k + k - k = i * k by omega, flat_take f k hf L i, List.take_of_length_le (by rw [hf]; omega)]
theorem flat_drop (f : Lt → List Value) (k : Nat) (hf : ∀ x, (f x).length = k) : ∀ (L : List Lt) (i : Nat), (L.flatMap f).drop (i * k) = (L.drop i).flatMap f
  | [], i => by simp
  | x :: L, 0 => by simp
  | x :: L, i + 1 => by
    rw [List.flatMap_cons, List.drop_succ_cons, Nat.add_mul, Nat.one_mul, List.drop_append, hf, show i * k + k - k = i * k by omega, flat_drop f k hf L i, List.drop_of_length_le (by rw [hf]; omega), List.nil_append]
theorem lt_len5 (x : Lt) : x.cs.length = 5 := rfl
theorem flat_len5 (L : List Lt) : (L.flatMap Lt.cs).length = L.length * 5 := by
  induction L with
  | nil => rfl
  | cons y L ih => rw [List.flatMap_cons, List.length_append, ih, lt_len5, List.length_cons]; omega

set_option maxRecDepth 100000 in
set_option maxHeartbeats 1600000 in
theorem sl_delete (B g cap i : Nat) (L : List Lt) (w : World) (hO : w.ownsRow B 24 5 (.slice (some ⟨g, 0, none⟩) L.length cap) L.length (L.flatMap Lt.cs)) (hi : i < L.length) (hl : L.length ≤ 100000) :
    Calls Tryz.prog 83 #[.slice (some ⟨g, 0, none⟩) L.length cap, .int .i64 (i : Int), .int .i64 ((i : Int) + 1)] w fun e w' =>
      e = .returned (.slice (some ⟨g, 0, none⟩) (L.length - 1) cap) ∧ w'.ownsRow B 24 5 (.slice (some ⟨g, 0, none⟩) (L.length - 1) cap) (L.length - 1) ((L.eraseIdx i).flatMap Lt.cs) ∧ w.grownBy w' (some g) := by
  obtain ⟨i0, hi0, hz0, hz1, hz2⟩ := info_parts info_letter
  rcases hO.2 with ⟨hv, _⟩ | ⟨g', cap', cur, hv, hb, hg, hn, hm, hs, hx⟩
  · cases hv
  cases hv
  have hcs : L.length * 5 ≤ cur.size := by omega
  obtain ⟨news, hnews⟩ : ∃ news, news = (L.drop (i + 1)).flatMap Lt.cs := ⟨_, rfl⟩
  have hlen : news.length = (L.length - (i + 1)) * 5 := by rw [hnews, flat_len5, List.length_drop]
  have hdrop : (L.flatMap Lt.cs).drop ((i + 1) * 5) = news := by rw [hnews, flat_drop Lt.cs 5 lt_len5]
  have hg0 : w.drew.heap[g]? = some (.cells cur 24 (0, 0)) := hg
  obtain ⟨A, hA, hsrc⟩ : ∃ A : Addr, (if cap = i + 1 then some (⟨g, 0, none⟩ : Addr) else some ⟨g, (i + 1) * 5, none⟩) = some A ∧ Hid (∀ t u, news[t]? = some u → w.drew.cell? (A.add t) = some u) := by
    by_cases h : cap = i + 1
    · refine ⟨⟨g, 0, none⟩, by simp [h], fun t u hu => ?_⟩
      have h0 : news.length = 0 := by rw [hlen]; omega
      rw [List.length_eq_zero_iff.1 h0] at hu
      simp at hu
    · refine ⟨⟨g, (i + 1) * 5, none⟩, by simp [h], fun t u hu => ?_⟩
      rw [Addr.add_lit, cell_of_row w.drew g _ cur _ (0, 0) hg0]
      have h2 : (i + 1) * 5 + t < L.length * 5 := by
        have := (List.getElem?_eq_some_iff.1 hu).1
        omega
      rw [← hdrop, List.getElem?_drop, ← hx, List.getElem?_take_of_lt h2] at hu
      simpa using hu
  have s2 : Hid (∀ u ∈ news, u.oneCell' = true) := by rw [hnews]; exact lt_one _
  have hfit : i * 5 + news.length ≤ cur.size := by omega
  obtain ⟨cur1, hc1⟩ : ∃ cur1 : Array Value, cur1 = (cur.toList.take (i * 5) ++ news ++ cur.toList.drop (i * 5 + news.length)).toArray := ⟨_, rfl⟩
  obtain ⟨W1, hW1⟩ : ∃ W1, W1 = w.drew.setRow g cur1 := ⟨_, rfl⟩
  have hgW : W1.heap[g]? = some (.cells cur1 24 (0, 0)) := by rw [hW1]; exact setRow_heap _ g cur _ _ _ hg0
  have hsz1 : cur1.size = cur.size := by
    rw [hc1]
    simp only [List.size_toArray, List.length_append, List.length_take, List.length_drop, Array.length_toList]
    omega
  have hcl := fun ty => run_clear_row (P := Tryz.prog) W1 31 24 ty _ 5 Tryz.underlying31 Tryz.zeroValue24 rfl (by decide) (by decide) g ((i + (L.length - (i + 1))) * 5) (L.length - (i + (L.length - (i + 1)))) (cap - (i + (L.length - (i + 1)))) cur1 _ hgW (by omega) (by rw [hsz1]; omega)
  have HW := Lib.hid hW1
  have HC := Lib.hid hc1
  have HX := Lib.hid hx
  have HG := Lib.hid hg0
  have hlt : i < cap := by omega
  have hic : i ≤ cap := by omega
  have hjc : i + 1 ≤ cap := by omega
  have hij : i + 1 ≤ L.length := by omega
  have HL := Lib.hid hlen
  have hp0 : (0 : Int) ≤ (i : Int) + 1 := by omega
  have hp1 : (i : Int) + 1 ≤ (L.length : Int) := by omega
  have HS := Lib.hid hsz1
  have HGW := Lib.hid hgW
  have HN := Lib.hid hnews
  clear hW1 hc1 hx hg hg0 hgW hsz1 hnews hdrop hlen hO
  go_enter Tryz.func83, Tryz.ntmps83
  go_wp2_with fail
  go_region_law (refine step_append_row rfl (.tmp 22) (.tmp 25) 31 rfl 24 i0 5 Tryz.underlying31 hi0 hz1 g i cap cur (by simp [Act.eval, Act.put]) HG.out A (L.length - (i + 1)) (cap - (i + 1)) news (by simp [Act.eval, Act.put]) HL.out hsrc.out s2.out (by omega) hfit ?_; rw [← HC.out, ← HW.out])
  go_wp2_with fail
  go_ret
  have e1 : i + (L.length - (i + 1)) = L.length - 1 := by omega
  have e2 : L.length - (i + (L.length - (i + 1))) = 1 := by omega
  rw [e1]
  refine ⟨rfl, ⟨?_, .inr ⟨g, cap, _, rfl, hb, setRow_heap W1 g cur1 _ _ _ HGW.out, by omega, hm, ?_, ?_⟩⟩, ?_⟩
  · rw [flat_len5, List.length_eraseIdx_of_lt hi]
  · have hz := size_zeroCells (#[Value.int .i64 0, .int .i64 0, .int .u64 0, .string { data := #[] }, .bool false]) (L.length - (L.length - 1))
    rw [← Array.length_toList] at hz
    have h5 : (#[Value.int .i64 0, .int .i64 0, .int .u64 0, .string { data := #[] }, .bool false]).size = 5 := rfl
    rw [h5] at hz
    rw [List.size_toArray, List.length_append, List.length_append, List.length_take, List.length_drop, hz, (Array.length_toList (xs := cur1)).trans (HS.out.trans hs)]
    omega
  · have h1 : cur1.toList = (cur.toList.take (i * 5) ++ news) ++ cur.toList.drop (i * 5 + news.length) := by rw [HC.out]
    have h2 : (L.length - 1) * 5 = (cur.toList.take (i * 5) ++ news).length := by
      have h6 := HL.out
      rw [List.length_append, List.length_take, (Array.length_toList (xs := cur)).trans hs, h6]
      omega
    have h3 : cur.toList.take (i * 5) = (L.take i).flatMap Lt.cs := by
      rw [← flat_take Lt.cs 5 lt_len5, ← HX.out, List.take_take, Nat.min_eq_left (by omega)]
    have h4 : cur1.toList.take ((L.length - 1) * 5) = (L.eraseIdx i).flatMap Lt.cs := by
      rw [h1, h2, List.take_left, h3, HN.out, erase_eq, List.flatMap_append]
    have h7 : (cur1.toList.take ((L.length - 1) * 5)).length = (L.length - 1) * 5 := by
      rw [h4, flat_len5, List.length_eraseIdx_of_lt hi]
    show List.take ((L.length - 1) * 5) (List.take ((L.length - 1) * 5) cur1.toList ++ _) = _
    rw [List.take_append_of_le_length (by omega), List.take_take, Nat.min_self, h4]
  · rw [HW.out]
    exact but_setRow (but_setRow (show w.grownBy w.drew (some g) from ⟨rfl, rfl, rfl, Nat.le_refl _, fun _ _ _ => rfl⟩) _) _

set_option maxHeartbeats 1600000 in
theorem sl_indexE (v : Value) (L : List Lt) (l : Lt) (w : World) (hR : Row w 5 v L.length (L.flatMap Lt.cs)) :
    Calls Tryz.prog 82 #[v, .agg #[.int .i64 l.k, .int .i64 l.f, .int .u64 l.c, .string l.t, .bool l.b]] w fun e w' => ∃ n : Int, e = .returned (.int .i64 n) ∧ ((∃ i : Nat, n = (i : Int) ∧ L[i]? = some l) ∨ (n = -1 ∧ l ∉ L)) ∧ Ext w w' := by
  obtain ⟨a, cap, rfl, hm, hvw⟩ := row_view hR
  have HV := Lib.hid hvw
  clear hvw hR
  unfold maxLen at hm
  go_enter Tryz.func82, Tryz.ntmps82
  go_wp2_with fail
  refine wp_forget (fun w' => w'.heap[w.heap.size]? = some (.cells #[.int .i64 l.k, .int .i64 l.f, .int .u64 l.c, .string l.t, .bool l.b] 24 (0, 0)) ∧ Ext w w') ⟨heap_new rfl, (Ext.refl _).alloc _⟩ ?_
  rintro W1 ⟨h1, x1⟩
  have c1 := fun j => cell_of_row W1 _ j _ _ _ h1
  have l1 : w.heap.size < W1.heap.size := (Array.getElem?_eq_some_iff.1 h1).1
  have X1 := Lib.hid x1
  clear h1 x1
  go_loopg [8] L.length (fun g ii wr => ∃ (n : Nat) (y : ExtOf W1), ii = .int .i64 (n : Int) ∧ n + g = L.length ∧ wr = y.val ∧ Hid (∀ (j : Nat) z, j < n → L[j]? = some z → z ≠ l))
  case atStart => exact ⟨0, ⟨W1, Ext.refl _⟩, rfl, by omega, rfl, Lib.hid fun _ _ h => by omega⟩
  case round =>
    obtain ⟨n, y, rfl, hg, rfl, HN⟩ := hrel
    by_cases hlt : n < L.length
    · obtain ⟨g, off, rfl, hgl, hcell⟩ := HV.out (by omega)
      have hgl := hgl (by omega)
      obtain ⟨x, hx⟩ : ∃ x, L[n]? = some x := ⟨_, List.getElem?_eq_getElem hlt⟩
      obtain ⟨q0, q1, q2, q3, q4⟩ := lt_cellsO (fun j u hj => cell_keep (hcell j u hj) X1.out) hx
      have HX := Lib.hid hx
      have hgl1 : g < W1.heap.size := Nat.lt_of_lt_of_le hgl X1.out.size
      clear hx hcell hgl
      have hlt' : (n : Int) < (L.length : Int) := by omega
      by_cases he : l = x
      · have he' : lEq l.k l.f l.c l.t l.b x.k x.f x.c x.t x.b = true := by rw [lEq_lt]; simpa using he
        have HE := Lib.hid he
        clear he
        go_wp2_with fail
        refine wp_region_ext (by kernel_rfl) (by kernel_rfl) ?_
        repeat (go_big_quiet_step (fail))
        refine wpQuiet_nil ?_
        intro _ hx'
        obtain ⟨z, rfl⟩ := hx'
        go_wp2_with fail
        go_ret
        refine ⟨n, rfl, ?_, X1.out.trans (y.ext.val z)⟩
        exact .inl ⟨n, rfl, by rw [HE.out]; exact HX.out⟩
      · have he' : lEq l.k l.f l.c l.t l.b x.k x.f x.c x.t x.b = false := by rw [lEq_lt]; simpa using he
        have HE := Lib.hid he
        clear he
        go_wp2_with fail
        refine wp_region_ext (by kernel_rfl) (by kernel_rfl) ?_
        repeat (go_big_quiet_step (fail))
        refine wpQuiet_nil ?_
        intro _ hx'
        obtain ⟨z, rfl⟩ := hx'
        go_wp2_with fail
        go_roundg (gk - 1)
        case rel =>
          refine ⟨n + 1, ⟨z.val, y.ext.val z⟩, rfl, by omega, rfl, Lib.hid fun j u hj hu => ?_⟩
          by_cases hjn : j = n
          · subst hjn
            rw [HX.out, Option.some.injEq] at hu
            rw [← hu]
            exact fun h => HE.out h.symm
          · exact HN.out j u (by omega) hu
        case measure => omega
    · have hge : (L.length : Int) ≤ (n : Int) := by omega
      go_wp2_with fail
      go_ret
      refine ⟨-1, rfl, ?_, X1.out.val y⟩
      exact .inr ⟨rfl, not_mem_of_all fun j z hz => HN.out j z (by have := (List.getElem?_eq_some_iff.1 hz).1; omega) hz⟩

end Go.Proofs.YtlnmhocehgmbbaaGreatDoor

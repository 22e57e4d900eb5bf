/-
  The program's struct types: two letters, states, events, outs against each other. No condition.
-/
import Derived.Test.YtnfehccnofhmnaaBase
namespace Go.Proofs.Ytnfehccnofhmnaa
open Go.RowKit

theorem toList_eq_iff (s t : ByteArray) : (s.toList = t.toList) ↔ s = t := by
  rw [ByteArray.toList_eq, ByteArray.toList_eq]
  constructor
  · intro h; obtain ⟨⟨x⟩⟩ := s; obtain ⟨⟨y⟩⟩ := t; simpa using h
  · intro h; rw [h]
theorem toList_beq (s t : ByteArray) : (s.toList == t.toList) = decide (s = t) := by
  rw [Bool.eq_iff_iff]; simp [toList_eq_iff]

/-- Are two of api.Letter the same? -/
def lEq (k : Int) (f : Int) (c : Int) (t : ByteArray) (b : Bool) (k' : Int) (f' : Int) (c' : Int) (t' : ByteArray) (b' : Bool) : Bool := decide (k = k' ∧ f = f' ∧ c = c' ∧ t = t' ∧ b = b')
theorem lEq_true {k : Int} {f : Int} {c : Int} {t : ByteArray} {b : Bool} {k' : Int} {f' : Int} {c' : Int} {t' : ByteArray} {b' : Bool} : lEq k f c t b k' f' c' t' b' = true ↔ (k = k' ∧ f = f' ∧ c = c' ∧ t = t' ∧ b = b') := by simp [lEq]
theorem eql_lEq (k : Int) (f : Int) (c : Int) (t : ByteArray) (b : Bool) (k' : Int) (f' : Int) (c' : Int) (t' : ByteArray) (b' : Bool) (w : World) : (binOp .eql 24 (.agg #[.int .i64 k, .int .i64 f, .int .u64 c, .string t, .bool b]) (.agg #[.int .i64 k', .int .i64 f', .int .u64 c', .string t', .bool b'])).run Try.prog w = .ok (.bool (lEq k f c t b k' f' c' t' b')) w := by
  simp [go_sem, toList_beq, lEq]
  by_cases h_k : k = k'
  case neg => simp [h_k]
  by_cases h_f : f = f'
  case neg => simp [h_f]
  by_cases h_c : c = c'
  case neg => simp [h_c]
  by_cases h_t : t = t'
  case neg => simp [h_t]
  by_cases h_b : b = b'
  case neg => simp [h_b]
  simp [h_k, h_f, h_c, h_t, h_b]
theorem neq_lEq (k : Int) (f : Int) (c : Int) (t : ByteArray) (b : Bool) (k' : Int) (f' : Int) (c' : Int) (t' : ByteArray) (b' : Bool) (w : World) : (binOp .neq 24 (.agg #[.int .i64 k, .int .i64 f, .int .u64 c, .string t, .bool b]) (.agg #[.int .i64 k', .int .i64 f', .int .u64 c', .string t', .bool b'])).run Try.prog w = .ok (.bool (!(lEq k f c t b k' f' c' t' b'))) w := by
  simp [go_sem, toList_beq, lEq]
  by_cases h_k : k = k'
  case neg => simp [h_k]
  by_cases h_f : f = f'
  case neg => simp [h_f]
  by_cases h_c : c = c'
  case neg => simp [h_c]
  by_cases h_t : t = t'
  case neg => simp [h_t]
  by_cases h_b : b = b'
  case neg => simp [h_b]
  simp [h_k, h_f, h_c, h_t, h_b]

/-- Are two of api.State the same? -/
def sEq (r : Int) (c : Int) (t : ByteArray) (ph : Int) (pk : Int) (pf : Int) (pc : Int) (pt : ByteArray) (pb : Bool) (r' : Int) (c' : Int) (t' : ByteArray) (ph' : Int) (pk' : Int) (pf' : Int) (pc' : Int) (pt' : ByteArray) (pb' : Bool) : Bool := decide (r = r' ∧ c = c' ∧ t = t' ∧ ph = ph' ∧ pk = pk' ∧ pf = pf' ∧ pc = pc' ∧ pt = pt' ∧ pb = pb')
theorem sEq_true {r : Int} {c : Int} {t : ByteArray} {ph : Int} {pk : Int} {pf : Int} {pc : Int} {pt : ByteArray} {pb : Bool} {r' : Int} {c' : Int} {t' : ByteArray} {ph' : Int} {pk' : Int} {pf' : Int} {pc' : Int} {pt' : ByteArray} {pb' : Bool} : sEq r c t ph pk pf pc pt pb r' c' t' ph' pk' pf' pc' pt' pb' = true ↔ (r = r' ∧ c = c' ∧ t = t' ∧ ph = ph' ∧ pk = pk' ∧ pf = pf' ∧ pc = pc' ∧ pt = pt' ∧ pb = pb') := by simp [sEq]
theorem eql_sEq (r : Int) (c : Int) (t : ByteArray) (ph : Int) (pk : Int) (pf : Int) (pc : Int) (pt : ByteArray) (pb : Bool) (r' : Int) (c' : Int) (t' : ByteArray) (ph' : Int) (pk' : Int) (pf' : Int) (pc' : Int) (pt' : ByteArray) (pb' : Bool) (w : World) : (binOp .eql 26 (.agg #[.int .i64 r, .int .u64 c, .string t, .int .i64 ph, .int .i64 pk, .int .i64 pf, .int .u64 pc, .string pt, .bool pb]) (.agg #[.int .i64 r', .int .u64 c', .string t', .int .i64 ph', .int .i64 pk', .int .i64 pf', .int .u64 pc', .string pt', .bool pb'])).run Try.prog w = .ok (.bool (sEq r c t ph pk pf pc pt pb r' c' t' ph' pk' pf' pc' pt' pb')) w := by
  simp [go_sem, toList_beq, sEq]
  by_cases h_r : r = r'
  case neg => simp [h_r]
  by_cases h_c : c = c'
  case neg => simp [h_c]
  by_cases h_t : t = t'
  case neg => simp [h_t]
  by_cases h_ph : ph = ph'
  case neg => simp [h_ph]
  by_cases h_pk : pk = pk'
  case neg => simp [h_pk]
  by_cases h_pf : pf = pf'
  case neg => simp [h_pf]
  by_cases h_pc : pc = pc'
  case neg => simp [h_pc]
  by_cases h_pt : pt = pt'
  case neg => simp [h_pt]
  by_cases h_pb : pb = pb'
  case neg => simp [h_pb]
  simp [h_r, h_c, h_t, h_ph, h_pk, h_pf, h_pc, h_pt, h_pb]
theorem neq_sEq (r : Int) (c : Int) (t : ByteArray) (ph : Int) (pk : Int) (pf : Int) (pc : Int) (pt : ByteArray) (pb : Bool) (r' : Int) (c' : Int) (t' : ByteArray) (ph' : Int) (pk' : Int) (pf' : Int) (pc' : Int) (pt' : ByteArray) (pb' : Bool) (w : World) : (binOp .neq 26 (.agg #[.int .i64 r, .int .u64 c, .string t, .int .i64 ph, .int .i64 pk, .int .i64 pf, .int .u64 pc, .string pt, .bool pb]) (.agg #[.int .i64 r', .int .u64 c', .string t', .int .i64 ph', .int .i64 pk', .int .i64 pf', .int .u64 pc', .string pt', .bool pb'])).run Try.prog w = .ok (.bool (!(sEq r c t ph pk pf pc pt pb r' c' t' ph' pk' pf' pc' pt' pb'))) w := by
  simp [go_sem, toList_beq, sEq]
  by_cases h_r : r = r'
  case neg => simp [h_r]
  by_cases h_c : c = c'
  case neg => simp [h_c]
  by_cases h_t : t = t'
  case neg => simp [h_t]
  by_cases h_ph : ph = ph'
  case neg => simp [h_ph]
  by_cases h_pk : pk = pk'
  case neg => simp [h_pk]
  by_cases h_pf : pf = pf'
  case neg => simp [h_pf]
  by_cases h_pc : pc = pc'
  case neg => simp [h_pc]
  by_cases h_pt : pt = pt'
  case neg => simp [h_pt]
  by_cases h_pb : pb = pb'
  case neg => simp [h_pb]
  simp [h_r, h_c, h_t, h_ph, h_pk, h_pf, h_pc, h_pt, h_pb]

/-- Are two of api.Event the same? -/
def eEq (k : Int) (c : Int) (t : ByteArray) (lk : Int) (lf : Int) (lc : Int) (lt : ByteArray) (lb : Bool) (k' : Int) (c' : Int) (t' : ByteArray) (lk' : Int) (lf' : Int) (lc' : Int) (lt' : ByteArray) (lb' : Bool) : Bool := decide (k = k' ∧ c = c' ∧ t = t' ∧ lk = lk' ∧ lf = lf' ∧ lc = lc' ∧ lt = lt' ∧ lb = lb')
theorem eEq_true {k : Int} {c : Int} {t : ByteArray} {lk : Int} {lf : Int} {lc : Int} {lt : ByteArray} {lb : Bool} {k' : Int} {c' : Int} {t' : ByteArray} {lk' : Int} {lf' : Int} {lc' : Int} {lt' : ByteArray} {lb' : Bool} : eEq k c t lk lf lc lt lb k' c' t' lk' lf' lc' lt' lb' = true ↔ (k = k' ∧ c = c' ∧ t = t' ∧ lk = lk' ∧ lf = lf' ∧ lc = lc' ∧ lt = lt' ∧ lb = lb') := by simp [eEq]
theorem eql_eEq (k : Int) (c : Int) (t : ByteArray) (lk : Int) (lf : Int) (lc : Int) (lt : ByteArray) (lb : Bool) (k' : Int) (c' : Int) (t' : ByteArray) (lk' : Int) (lf' : Int) (lc' : Int) (lt' : ByteArray) (lb' : Bool) (w : World) : (binOp .eql 28 (.agg #[.int .i64 k, .int .u64 c, .string t, .int .i64 lk, .int .i64 lf, .int .u64 lc, .string lt, .bool lb]) (.agg #[.int .i64 k', .int .u64 c', .string t', .int .i64 lk', .int .i64 lf', .int .u64 lc', .string lt', .bool lb'])).run Try.prog w = .ok (.bool (eEq k c t lk lf lc lt lb k' c' t' lk' lf' lc' lt' lb')) w := by
  simp [go_sem, toList_beq, eEq]
  by_cases h_k : k = k'
  case neg => simp [h_k]
  by_cases h_c : c = c'
  case neg => simp [h_c]
  by_cases h_t : t = t'
  case neg => simp [h_t]
  by_cases h_lk : lk = lk'
  case neg => simp [h_lk]
  by_cases h_lf : lf = lf'
  case neg => simp [h_lf]
  by_cases h_lc : lc = lc'
  case neg => simp [h_lc]
  by_cases h_lt : lt = lt'
  case neg => simp [h_lt]
  by_cases h_lb : lb = lb'
  case neg => simp [h_lb]
  simp [h_k, h_c, h_t, h_lk, h_lf, h_lc, h_lt, h_lb]
theorem neq_eEq (k : Int) (c : Int) (t : ByteArray) (lk : Int) (lf : Int) (lc : Int) (lt : ByteArray) (lb : Bool) (k' : Int) (c' : Int) (t' : ByteArray) (lk' : Int) (lf' : Int) (lc' : Int) (lt' : ByteArray) (lb' : Bool) (w : World) : (binOp .neq 28 (.agg #[.int .i64 k, .int .u64 c, .string t, .int .i64 lk, .int .i64 lf, .int .u64 lc, .string lt, .bool lb]) (.agg #[.int .i64 k', .int .u64 c', .string t', .int .i64 lk', .int .i64 lf', .int .u64 lc', .string lt', .bool lb'])).run Try.prog w = .ok (.bool (!(eEq k c t lk lf lc lt lb k' c' t' lk' lf' lc' lt' lb'))) w := by
  simp [go_sem, toList_beq, eEq]
  by_cases h_k : k = k'
  case neg => simp [h_k]
  by_cases h_c : c = c'
  case neg => simp [h_c]
  by_cases h_t : t = t'
  case neg => simp [h_t]
  by_cases h_lk : lk = lk'
  case neg => simp [h_lk]
  by_cases h_lf : lf = lf'
  case neg => simp [h_lf]
  by_cases h_lc : lc = lc'
  case neg => simp [h_lc]
  by_cases h_lt : lt = lt'
  case neg => simp [h_lt]
  by_cases h_lb : lb = lb'
  case neg => simp [h_lb]
  simp [h_k, h_c, h_t, h_lk, h_lf, h_lc, h_lt, h_lb]

/-- Are two of api.Out the same? -/
def oEq (to : Int) (lk : Int) (lf : Int) (lc : Int) (lt : ByteArray) (lb : Bool) (to' : Int) (lk' : Int) (lf' : Int) (lc' : Int) (lt' : ByteArray) (lb' : Bool) : Bool := decide (to = to' ∧ lk = lk' ∧ lf = lf' ∧ lc = lc' ∧ lt = lt' ∧ lb = lb')
theorem oEq_true {to : Int} {lk : Int} {lf : Int} {lc : Int} {lt : ByteArray} {lb : Bool} {to' : Int} {lk' : Int} {lf' : Int} {lc' : Int} {lt' : ByteArray} {lb' : Bool} : oEq to lk lf lc lt lb to' lk' lf' lc' lt' lb' = true ↔ (to = to' ∧ lk = lk' ∧ lf = lf' ∧ lc = lc' ∧ lt = lt' ∧ lb = lb') := by simp [oEq]
theorem eql_oEq (to : Int) (lk : Int) (lf : Int) (lc : Int) (lt : ByteArray) (lb : Bool) (to' : Int) (lk' : Int) (lf' : Int) (lc' : Int) (lt' : ByteArray) (lb' : Bool) (w : World) : (binOp .eql 45 (.agg #[.int .i64 to, .int .i64 lk, .int .i64 lf, .int .u64 lc, .string lt, .bool lb]) (.agg #[.int .i64 to', .int .i64 lk', .int .i64 lf', .int .u64 lc', .string lt', .bool lb'])).run Try.prog w = .ok (.bool (oEq to lk lf lc lt lb to' lk' lf' lc' lt' lb')) w := by
  simp [go_sem, toList_beq, oEq]
  by_cases h_to : to = to'
  case neg => simp [h_to]
  by_cases h_lk : lk = lk'
  case neg => simp [h_lk]
  by_cases h_lf : lf = lf'
  case neg => simp [h_lf]
  by_cases h_lc : lc = lc'
  case neg => simp [h_lc]
  by_cases h_lt : lt = lt'
  case neg => simp [h_lt]
  by_cases h_lb : lb = lb'
  case neg => simp [h_lb]
  simp [h_to, h_lk, h_lf, h_lc, h_lt, h_lb]
theorem neq_oEq (to : Int) (lk : Int) (lf : Int) (lc : Int) (lt : ByteArray) (lb : Bool) (to' : Int) (lk' : Int) (lf' : Int) (lc' : Int) (lt' : ByteArray) (lb' : Bool) (w : World) : (binOp .neq 45 (.agg #[.int .i64 to, .int .i64 lk, .int .i64 lf, .int .u64 lc, .string lt, .bool lb]) (.agg #[.int .i64 to', .int .i64 lk', .int .i64 lf', .int .u64 lc', .string lt', .bool lb'])).run Try.prog w = .ok (.bool (!(oEq to lk lf lc lt lb to' lk' lf' lc' lt' lb'))) w := by
  simp [go_sem, toList_beq, oEq]
  by_cases h_to : to = to'
  case neg => simp [h_to]
  by_cases h_lk : lk = lk'
  case neg => simp [h_lk]
  by_cases h_lf : lf = lf'
  case neg => simp [h_lf]
  by_cases h_lc : lc = lc'
  case neg => simp [h_lc]
  by_cases h_lt : lt = lt'
  case neg => simp [h_lt]
  by_cases h_lb : lb = lb'
  case neg => simp [h_lb]
  simp [h_to, h_lk, h_lf, h_lc, h_lt, h_lb]

end Go.Proofs.Ytnfehccnofhmnaa

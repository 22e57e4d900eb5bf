/-
  The plain data: letters, states, events, what is sent; their cells; lists of them in memory. No condition.
-/
import Derived.Test.YtibdplfdmncgiaaMC10
import Derived.Deep.AppendLies
set_option linter.all false
namespace Go.Proofs.Ytibdplfdmncgiaa
open Go.RowKit

structure Lt where
  k : Int
  f : Int
  c : Int
  t : ByteArray
  b : Bool
structure St where
  r : Int
  c : Int
  t : ByteArray
  ph : Int
  p : Lt
structure Ev where
  k : Int
  c : Int
  t : ByteArray
  l : Lt
structure Ou where
  to : Int
  l : Lt

def Lt.cs (x : Lt) : List Value := [.int .i64 x.k, .int .i64 x.f, .int .u64 x.c, .string x.t, .bool x.b]
def St.cs (x : St) : List Value := [.int .i64 x.r, .int .u64 x.c, .string x.t, .int .i64 x.ph, .int .i64 x.p.k, .int .i64 x.p.f, .int .u64 x.p.c, .string x.p.t, .bool x.p.b]
def Ev.cs (x : Ev) : List Value := [.int .i64 x.k, .int .u64 x.c, .string x.t, .int .i64 x.l.k, .int .i64 x.l.f, .int .u64 x.l.c, .string x.l.t, .bool x.l.b]
def Ou.cs (x : Ou) : List Value := [.int .i64 x.to, .int .i64 x.l.k, .int .i64 x.l.f, .int .u64 x.l.c, .string x.l.t, .bool x.l.b]

/-- The empty letter. -/
def l0 : Lt := ⟨0, 0, 0, { data := #[] }, false⟩

/-- A slice v that shows n elements whose cells, one behind the other, are xs. -/
def Row (w : World) (size : Nat) (v : Value) (n : Nat) (xs : List Value) : Prop :=
  xs.length = n * size ∧ ((n = 0 ∧ ∃ a c, v = .slice a 0 c) ∨
    ∃ g off cap, v = .slice (some ⟨g, off, none⟩) n cap ∧ n ≤ maxLen ∧ ∀ j u, xs[j]? = some u → w.cell? ⟨g, off + j, none⟩ = some u)

theorem Row.ext {w w' : World} {size : Nat} {v : Value} {n : Nat} {xs : List Value} (h : Row w size v n xs) (e : Ext w w') : Row w' size v n xs := by
  refine ⟨h.1, h.2.imp id ?_⟩
  rintro ⟨g, off, cap, hv, hm, hc⟩
  refine ⟨g, off, cap, hv, hm, fun j u hj => ?_⟩
  have h1 := hc j u hj
  rw [Below.cell e (World.block_lt_of_cell? w _ h1)]
  exact h1

theorem Row.of_own {w : World} {base : Nat} {e : TypeId} {size : Nat} {v : Value} {n : Nat} {xs : List Value} (h : w.ownsRow base e size v n xs) : Row w size v n xs := by
  obtain ⟨hl, h⟩ := h
  refine ⟨hl, ?_⟩
  rcases h with ⟨hv, hn⟩ | ⟨g, cap, cur, hv, hb, hg, hn, hm, hs, hx⟩
  · exact .inl ⟨hn, none, 0, hv⟩
  · refine .inr ⟨g, 0, cap, hv, by omega, fun j u hj => ?_⟩
    rw [Nat.zero_add, cell_of_row w g j cur e (0, 0) hg]
    rw [← hx] at hj
    have : j < n * size := by
      have := (List.getElem?_eq_some_iff.1 hj).1
      rw [hx, hl] at this
      exact this
    rw [List.getElem?_take_of_lt this] at hj
    simpa using hj

/-- An own row stays, whatever extends the world. -/
theorem own_ext {w w' : World} {base : Nat} {e : TypeId} {size : Nat} {v : Value} {n : Nat} {xs : List Value} (h : w.ownsRow base e size v n xs) (x : Ext w w') : w'.ownsRow base e size v n xs := by
  refine ⟨h.1, h.2.imp id ?_⟩
  rintro ⟨g, cap, cur, hv, hb, hg, r⟩
  exact ⟨g, cap, cur, hv, hb, by rw [Below.block x g (Array.getElem?_eq_some_iff.1 hg).1]; exact hg, r⟩

theorem own_base {w : World} {base b' : Nat} {e : TypeId} {size : Nat} {v : Value} {n : Nat} {xs : List Value} (h : w.ownsRow base e size v n xs) (hb : b' ≤ base) : w.ownsRow b' e size v n xs := by
  refine ⟨h.1, h.2.imp id ?_⟩
  rintro ⟨g, cap, cur, hv, hg, r⟩
  exact ⟨g, cap, cur, hv, by omega, r⟩

theorem own_new {a w : World} {cs : Array Value} {n H size : Nat} {e : TypeId} {xs : List Value} (hw : Ext a w) (hH : w.heap.size = H) (hn : n ≤ maxLen) (hs : cs.size = n * size) (hx : cs.toList = xs) :
    (w.alloc (.cells cs e)).ownsRow a.heap.size e size (.slice (some ⟨H, 0, none⟩) n n) n xs := by
  subst hH; subst hx
  exact World.ownsRow_lit w cs n hw.size hn hs

theorem ext_grown {w w' : World} (h : w.grownBy w' none) : Ext w w' := ⟨h.os, h.tape, h.output, h.size, fun k hk => h.block k hk (by simp)⟩

/-- Behind an append to a row of the call's own: what was there when the call began is as it was. -/
theorem ext_append {a w w' : World} {v : Value} {base : Nat} {e : TypeId} {size n : Nat} {xs : List Value} (h : Ext a w) (hv : w.ownsRow base e size v n xs) (hb : a.heap.size ≤ base) (hg : w.grownBy w' v.ownBlock) : Ext a w' :=
  Below.grown h hg h.size fun k hk => by have := (hv.lt k hk).1; omega

theorem heap_new {w : World} {o : Obj} {G : Nat} (h : w.heap.size = G) : (w.alloc o).heap[G]? = some o := by
  subst h; exact heap_alloc_new w o

/-- append to a row of the call's own (in a block from B on), of what was just built. -/
theorem wpList_app {P : Program} {ops : Array Oper} {rest : List Oper} {o : Oper} {a : Act} {Q : Exit → Act → World → Prop} {w : World} (B : Nat) (t e : TypeId) (i : TypeInfo) (z : Value) (size bytes : Nat)
    (ht : P.underlying t = some (.slice e)) (hi : P.info? e = some i) (hz : i.zero = some z) (hsize : i.size = size) (hby : i.bytes = bytes) (hzs : z.cells.size = size) (hsz : 0 < size)
    (hgd : o.guard = none) (s x : Operand) (ho : o.op = .call { callee := .builtin .append, args := #[s, x], argTypes := #[t, t] })
    (v : Value) (n : Nat) (xs : List Value) (hs : a.eval s = v) (hown : w.ownsRow B e size v n xs) (hB : B ≤ w.heap.size)
    (G m c : Nat) (news : Array Value) (hx : a.eval x = .slice (some ⟨G, 0, none⟩) m c) (hG : w.heap[G]? = some (.cells news e (0, 0))) (hl : news.size = m * size) (h1 : ∀ u ∈ news.toList, u.oneCell' = true)
    (h63 : n + m ≤ maxLen) (hbytes : (n + m) * bytes ≤ 140737488355328)
    (h : ∀ v' w', w'.ownsRow B e size v' (n + m) (xs ++ news.toList) → Below B w w' → w.grownBy w' v.ownBlock → wpList P ops Q rest (a.put o.dst v') w') : wpList P ops Q (o :: rest) a w :=
  wpList_append_own w hgd s x t ho B e i z size bytes ht hi hz hsize hby hzs hsz v n xs hs hown ⟨G, 0, none⟩ m c news.toList hx (by simpa using hl)
    (fun j u hj => by
      have : (⟨G, 0, none⟩ : Addr).add j = ⟨G, j, none⟩ := by unfold Addr.add; split <;> simp_all
      rw [this, cell_of_row w G j news e (0, 0) hG]
      simpa using hj) h1 h63 hbytes hB
    fun v' w' k1 k2 _ => h v' w' k1 (Below.grown (Below.refl _ _) k2 hB fun k hk => (hown.lt k hk).1) k2

/-- An own row stays where another kind of block is written whole. -/
theorem own_setRow {w : World} {base : Nat} {e : TypeId} {size : Nat} {v : Value} {n : Nat} {xs : List Value} (h : w.ownsRow base e size v n xs) {X : Nat} {old : Array Value} {t : TypeId} {fr : Nat × Nat}
    (hX : w.heap[X]? = some (.cells old t fr)) (hne : e ≠ t) (cs : Array Value) : (w.setRow X cs).ownsRow base e size v n xs := by
  refine ⟨h.1, h.2.imp id ?_⟩
  rintro ⟨g, cap, cur, hv, hb, hg, r⟩
  refine ⟨g, cap, cur, hv, hb, ?_, r⟩
  rw [setRow_other]
  · exact hg
  · rintro rfl
    rw [hg] at hX
    simp only [Option.some.injEq, Obj.cells.injEq] at hX
    exact hne hX.2.1

/-- Where a row of the call's own lies. -/
theorem own_view {w : World} {base : Nat} {e : TypeId} {size : Nat} {v : Value} {n : Nat} {xs : List Value} (h : w.ownsRow base e size v n xs) :
    ∃ a cap, v = .slice a n cap ∧ n ≤ maxLen ∧ (0 < n → ∃ g, a = some ⟨g, 0, none⟩ ∧ base ≤ g ∧ g < w.heap.size ∧ ∀ j u, xs[j]? = some u → w.cell? ⟨g, j, none⟩ = some u) := by
  obtain ⟨hl, h0⟩ := h
  rcases h0 with ⟨hv, hn⟩ | ⟨g, cap, cur, hv, hb, hg, hn, hm, hs, hx⟩
  · exact ⟨none, 0, by rw [hv, hn], by omega, fun h => by omega⟩
  · refine ⟨_, cap, hv, by omega, fun _ => ⟨g, rfl, hb, (Array.getElem?_eq_some_iff.1 hg).1, fun j u hj => ?_⟩⟩
    rw [cell_of_row w g j cur e (0, 0) hg]
    rw [← hx] at hj
    have : j < n * size := by
      have := (List.getElem?_eq_some_iff.1 hj).1
      rw [hx, hl] at this
      exact this
    rw [List.getElem?_take_of_lt this] at hj
    simpa using hj

/-- Number j of the cells of element k. -/
theorem flat_get {α : Type} (f : α → List Value) (sz : Nat) (hf : ∀ x, (f x).length = sz) : ∀ (L : List α) (k : Nat) (x : α), L[k]? = some x → ∀ j, j < sz → (L.flatMap f)[k * sz + j]? = (f x)[j]?
  | [], k, x, h, _, _ => by simp at h
  | y :: L, 0, x, h, j, hj => by
    simp only [List.getElem?_cons_zero, Option.some.injEq] at h
    subst h
    rw [List.flatMap_cons, Nat.zero_mul, Nat.zero_add, List.getElem?_append_left (by rw [hf]; exact hj)]
  | y :: L, k + 1, x, h, j, hj => by
    simp only [List.getElem?_cons_succ] at h
    rw [List.flatMap_cons, List.getElem?_append_right (by rw [hf, Nat.add_mul]; omega), hf, show (k + 1) * sz + j - sz = k * sz + j by rw [Nat.add_mul]; omega]
    exact flat_get f sz hf L k x h j hj

/-- A slice of the call's own: what extends w, and the row. -/
def Made (w : World) (e : TypeId) (size : Nat) (n : Nat) (xs : List Value) (en : Ending) (w' : World) : Prop :=
  ∃ v, en = .returned v ∧ w'.ownsRow w.heap.size e size v n xs ∧ Ext w w'

end Go.Proofs.Ytibdplfdmncgiaa

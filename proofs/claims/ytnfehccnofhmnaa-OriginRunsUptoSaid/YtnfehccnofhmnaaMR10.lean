/-
  The document's step, out of the originator's: they come to the same. No condition.
-/
import Derived.Test.YtnfehccnofhmnaaMR9
import Derived.Barred
import Derived.Laws.AppendOwnNone
import Derived.Test.YtnfehccnofhmnaaRows
import Derived.ProofKit
import Derived.Deep.Slices
import Derived.Lib.SmallJoins
import Derived.JoinedCond
import Derived.OpenShut
set_option linter.all false
namespace Go.Proofs.Ytnfehccnofhmnaa
open Go.RowKit

def E.valE (r c : Int) (t : ByteArray) (ph k f c2 : Int) (t2 : ByteArray) (b2 : Bool) (ek ec : Int) (et : ByteArray) (lk lf lc : Int) (lt : ByteArray) (lb : Bool) : E.Env where
  I := fun
    | 0 => r | 1 => c | 3 => ph | 4 => k | 5 => f | 6 => c2 | 100 => ek | 101 => ec | 103 => lk | 104 => lf | 105 => lc | _ => 0
  S := fun
    | 2 => t | 7 => t2 | 102 => et | 106 => lt | _ => ⟨#[]⟩
  B := fun
    | 8 => b2 | 107 => lb | _ => false

theorem calls_meet {P : Program} {f : FuncId} {args : Array Value} {w : World} {R1 R2 : Ending → World → Prop} (h1 : Calls P f args w R1) (h2 : Calls P f args w R2)
    (k1 : ∀ e w', R1 e w' → ∃ v, e = .returned v) (k2 : ∀ e w', R2 e w' → ∃ v, e = .returned v) (hi : P.inits.idxOf? f = none) : ∃ e w', R1 e w' ∧ R2 e w' := by
  have g : ∀ {R : Ending → World → Prop}, Calls P f args w R → (∀ e w', R e w' → ∃ v, e = .returned v) → ∃ n v w', runN P n (lone (Frame.enter P f args .normal) [] w) = .ended (.done v) w' ∧ R (.returned v) w' := fun {R} h k =>
    Calls.done (R := fun v w' => R (.returned v) w') (h.mono fun e w' hr => by
      obtain ⟨v, rfl⟩ := k e w' hr
      exact hr) hi
  obtain ⟨n, v, w1, a1, a2⟩ := g h1 k1
  obtain ⟨m, v', w2, b1, b2⟩ := g h2 k2
  have e1 := runN_ended a1 m
  have e2 := runN_ended b1 n
  rw [Nat.add_comm m n, e1] at e2
  cases e2
  exact ⟨_, _, a2, b2⟩

/-- A step of the document: the outs can be read. -/
def SteppedR (w : World) (r : St × List Ou) (en : Ending) (w' : World) : Prop :=
  ∃ (T : St) (O : List Ou) (v : Value), r = (T, O) ∧ en = .returned (.tuple #[.agg #[.int .i64 T.r, .int .u64 T.c, .string T.t, .int .i64 T.ph, .int .i64 T.p.k, .int .i64 T.p.f, .int .u64 T.p.c, .string T.p.t, .bool T.p.b], v]) ∧
    ((O = [] ∧ v = .slice none 0 0) ∨ ∃ g off cap, v = .slice (some ⟨g, off, none⟩) O.length cap ∧ w.heap.size ≤ g ∧ ∀ j u, (O.flatMap Ou.cs)[j]? = some u → w'.cell? ⟨g, off + j, none⟩ = some u) ∧ Ext w w'

theorem lit_of_rel {β : E.Pls} {μ : E.Fms} {c : E.C} {x : Value} (h : E.CRel β μ c x) (hx : E.Value.plain x = true) : c = .lit x := by
  cases c with
  | lit v => rw [show x = v from h]
  | ptr b o => obtain ⟨p, _, rfl⟩ := h; cases hx
  | lp t o => obtain ⟨p, _, rfl⟩ := h; cases hx
  | sl b o len cap => obtain ⟨p, k, rc, _, rfl, _⟩ := h; cases hx
  | mp b => obtain ⟨p, _, rfl⟩ := h; cases hx
  | fn f caps => obtain ⟨l, rfl, _⟩ := h; cases hx

theorem lits_of_rel {β : E.Pls} {μ : E.Fms} : ∀ {cs : List E.C} {xs : List Value}, E.All2 (E.CRel β μ) cs xs → (∀ x ∈ xs, E.Value.plain x = true) → cs = xs.map .lit
  | [], [], _, _ => rfl
  | c :: cs, x :: xs, h, hx => by
    rw [lit_of_rel h.1 (hx x (.head _)), lits_of_rel h.2 fun y hy => hx y (.tail _ hy)]
    rfl
  | [], _ :: _, h, _ => h.elim
  | _ :: _, [], h, _ => h.elim

theorem st_plain (T : St) : ∀ x ∈ ([.int .i64 T.r, .int .u64 T.c, .string T.t, .int .i64 T.ph, .int .i64 T.p.k, .int .i64 T.p.f, .int .u64 T.p.c, .string T.p.t, .bool T.p.b] : List Value), E.Value.plain x = true := fun x hx => by
  simp only [List.mem_cons, List.not_mem_nil, or_false] at hx
  rcases hx with rfl | rfl | rfl | rfl | rfl | rfl | rfl | rfl | rfl <;> rfl

theorem ou_plain (O : List Ou) : ∀ x ∈ O.flatMap Ou.cs, E.Value.plain x = true := fun u hu => by
  obtain ⟨o, _, ho⟩ := List.mem_flatMap.1 hu
  simp only [Ou.cs, Lt.cs, List.mem_cons, List.mem_append, List.not_mem_nil, or_false, List.cons_append, List.nil_append] at ho
  rcases ho with rfl | rfl | rfl | rfl | rfl | rfl <;> rfl

theorem all2_take {α β : Type} {R : α → β → Prop} : ∀ {xs : List α} {ys : List β}, E.All2 R xs ys → ∀ n, E.All2 R (xs.take n) (ys.take n)
  | [], [], _, n => by simp [E.All2]
  | x :: xs, y :: ys, h, 0 => trivial
  | x :: xs, y :: ys, h, n + 1 => ⟨h.1, all2_take h.2 n⟩
  | [], _ :: _, h, _ => h.elim
  | _ :: _, [], h, _ => h.elim

/-- What a view is of what was handed back. -/
theorem view_of {β : E.Pls} {N : Nat} {v : E.V} {h : E.Heap} {Z : List E.C × List E.C} {w w' : World} {T : St} {O : List Ou} {vo : Value} (hz : E.viewOut v h = some Z)
    (hv : E.VRel β E.noF v (.tuple #[.agg #[.int .i64 T.r, .int .u64 T.c, .string T.t, .int .i64 T.ph, .int .i64 T.p.k, .int .i64 T.p.f, .int .u64 T.p.c, .string T.p.t, .bool T.p.b], vo]))
    (hH : E.HRel N β h w') (ho : w'.ownsRow w.heap.size 45 6 vo O.length (O.flatMap Ou.cs)) :
    Z = (([.int .i64 T.r, .int .u64 T.c, .string T.t, .int .i64 T.ph, .int .i64 T.p.k, .int .i64 T.p.f, .int .u64 T.p.c, .string T.p.t, .bool T.p.b] : List Value).map .lit, (O.flatMap Ou.cs).map .lit) := by
  unfold E.viewOut at hz
  split at hz
  · rename_i st
    simp only [Option.some.injEq] at hz
    subst hz
    obtain ⟨l, hl, hall⟩ := hv
    simp only [Value.tuple.injEq] at hl
    subst hl
    obtain ⟨⟨l2, hl2, hst⟩, hvo, _⟩ := hall
    simp only [Value.agg.injEq] at hl2
    subst hl2
    have hvo : vo = .slice none 0 0 := hvo
    subst hvo
    have hO : O = [] := by
      rcases ho.2 with ⟨_, h0⟩ | ⟨g, cap, cur, hv, _⟩
      · exact List.length_eq_zero_iff.1 h0
      · simp at hv
    subst hO
    rw [lits_of_rel hst (st_plain T)]
    rfl
  · rename_i st b len cap
    split at hz
    · rename_i cs hb
      split at hz
      · rename_i o hrd
        simp only [Option.some.injEq] at hz
        subst hz
        obtain ⟨l, hl, hall⟩ := hv
        simp only [Value.tuple.injEq] at hl
        subst hl
        obtain ⟨⟨l2, hl2, hst⟩, hvo, _⟩ := hall
        simp only [Value.agg.injEq] at hl2
        subst hl2
        obtain ⟨p, k, rc, hp, hvo, hlen, hcap, hk, _⟩ := hvo
        subst hvo
        rw [lits_of_rel hst (st_plain T)]
        refine Prod.ext rfl ?_
        show o = _
        obtain ⟨hlx, hcase⟩ := ho
        rcases hcase with ⟨hv, _⟩ | ⟨g, cap', cur, hv, hbg, hg, hn, hcm, hcs, htk⟩
        · simp at hv
        · simp only [Value.slice.injEq, Option.some.injEq, Addr.mk.injEq, and_true] at hv
          obtain ⟨⟨rfl, rfl⟩, rfl, rfl⟩ := hv
          obtain ⟨p', hp', hB⟩ := hH.blk b _ hb
          rw [hp, Option.some.injEq] at hp'
          subst hp'
          obtain ⟨_, hpn, arr, el, fr, xs, harr, hwin, hxs, _⟩ := hB
          rw [hg] at harr
          simp only [Option.some.injEq, Obj.cells.injEq] at harr
          obtain ⟨rfl, _⟩ := harr
          unfold E.rd at hrd
          split at hrd
          · rename_i hle
            simp only [Option.some.injEq, List.drop_zero] at hrd
            subst hrd
            by_cases h0 : O.length = 0
            · have : O = [] := List.length_eq_zero_iff.1 h0
              subst this
              simp
            · have hro : p.ro = 0 := by
                have := hk (by omega)
                omega
              have hxl : cs.length = xs.length := hxs.length
              have htake : E.All2 (E.CRel β E.noF) (cs.take (O.length * 6)) (O.flatMap Ou.cs) := by
                have h1 : xs.take (O.length * 6) = O.flatMap Ou.cs := by
                  rw [← htk]
                  refine List.ext_getElem? fun j => ?_
                  by_cases hj : j < O.length * 6
                  · rw [List.getElem?_take_of_lt hj, List.getElem?_take_of_lt hj]
                    have hjx : j < xs.length := by omega
                    have := hwin j _ (List.getElem?_eq_getElem hjx)
                    rw [hro, Nat.zero_add] at this
                    rw [List.getElem?_eq_getElem hjx, ← this]
                    simp
                  · rw [List.getElem?_eq_none (by simp; omega), List.getElem?_eq_none (by simp; omega)]
                rw [← h1]
                exact all2_take hxs _
              exact lits_of_rel htake (ou_plain O)
          · cases hrd
      · cases hz
    · cases hz
  · cases hz

theorem all2_get_lit {β : E.Pls} {μ : E.Fms} : ∀ {cs : List E.C} {xs : List Value} {us : List Value}, E.All2 (E.CRel β μ) cs xs → cs = us.map .lit → ∀ j : Nat, xs[j]? = us[j]?
  | [], [], [], _, _, j => rfl
  | [], [], _ :: _, _, h, _ => by cases h
  | c :: cs, x :: xs, [], _, h, _ => by cases h
  | c :: cs, x :: xs, u :: us, h, he, j => by
    simp only [List.map_cons, List.cons.injEq] at he
    obtain ⟨rfl, he⟩ := he
    have hx : x = u := h.1
    subst hx
    cases j with
    | zero => rfl
    | succ j => exact all2_get_lit h.2 he j
  | [], _ :: _, _, h, _, _ => h.elim
  | _ :: _, [], _, h, _, _ => h.elim

theorem ou_flat : ∀ O : List Ou, (O.flatMap Ou.cs).length = O.length * 6
  | [] => rfl
  | o :: O => by rw [List.flatMap_cons, List.length_append, ou_flat O, List.length_cons, show o.cs.length = 6 from rfl]; omega

/-- What was handed back, out of its view. -/
theorem view_back {β : E.Pls} {N : Nat} {v : E.V} {h : E.Heap} {w' : World} {T : St} {O : List Ou} {x : Value}
    (hz : E.viewOut v h = some (([.int .i64 T.r, .int .u64 T.c, .string T.t, .int .i64 T.ph, .int .i64 T.p.k, .int .i64 T.p.f, .int .u64 T.p.c, .string T.p.t, .bool T.p.b] : List Value).map .lit, (O.flatMap Ou.cs).map .lit))
    (hv : E.VRel β E.noF v x) (hH : E.HRel N β h w') {base : Nat} (hfr : ∀ b y p, h.get b = some y → β b = some p → base ≤ p.rb) :
    ∃ vo, x = .tuple #[.agg #[.int .i64 T.r, .int .u64 T.c, .string T.t, .int .i64 T.ph, .int .i64 T.p.k, .int .i64 T.p.f, .int .u64 T.p.c, .string T.p.t, .bool T.p.b], vo] ∧
      ((O = [] ∧ vo = .slice none 0 0) ∨ ∃ g off cap, vo = .slice (some ⟨g, off, none⟩) O.length cap ∧ base ≤ g ∧ ∀ j u, (O.flatMap Ou.cs)[j]? = some u → w'.cell? ⟨g, off + j, none⟩ = some u) := by
  have hOl := ou_flat O
  have hagg : ∀ {st : List E.C} {l2 : Array Value}, E.All2 (E.CRel β E.noF) st l2.toList → st = ([.int .i64 T.r, .int .u64 T.c, .string T.t, .int .i64 T.ph, .int .i64 T.p.k, .int .i64 T.p.f, .int .u64 T.p.c, .string T.p.t, .bool T.p.b] : List Value).map .lit →
      l2 = #[.int .i64 T.r, .int .u64 T.c, .string T.t, .int .i64 T.ph, .int .i64 T.p.k, .int .i64 T.p.f, .int .u64 T.p.c, .string T.p.t, .bool T.p.b] := fun h1 h2 => by
    refine Array.toList_inj.1 (List.ext_getElem? fun j => ?_)
    exact all2_get_lit h1 h2 j
  unfold E.viewOut at hz
  split at hz
  · rename_i st
    simp only [Option.some.injEq, Prod.mk.injEq] at hz
    obtain ⟨l, rfl, hall⟩ := hv
    obtain ⟨l⟩ := l
    match l, hall with
    | [y1, y2], hall =>
      obtain ⟨⟨l2, rfl, hst⟩, hvo, _⟩ := hall
      have hvo : y2 = .slice none 0 0 := hvo
      subst hvo
      have hO : O = [] := by
        have := congrArg List.length hz.2
        simp only [List.length_nil, List.length_map, hOl] at this
        exact List.length_eq_zero_iff.1 (by omega)
      exact ⟨_, by rw [hagg hst hz.1], .inl ⟨hO, rfl⟩⟩
  · rename_i st b len cap
    split at hz
    · rename_i cs hb
      split at hz
      · rename_i o hrd
        simp only [Option.some.injEq, Prod.mk.injEq] at hz
        obtain ⟨l, rfl, hall⟩ := hv
        obtain ⟨l⟩ := l
        match l, hall with
        | [y1, y2], hall =>
          obtain ⟨⟨l2, rfl, hst⟩, hvo, _⟩ := hall
          obtain ⟨p, k, rc, hp, hvo, hlen, hcap, hk, _⟩ := hvo
          subst hvo
          unfold E.rd at hrd
          split at hrd
          · rename_i hle
            simp only [Option.some.injEq, List.drop_zero] at hrd
            have hln : len = O.length := by
              have := congrArg List.length hz.2
              rw [← hrd, List.length_take, List.length_map, hOl] at this
              omega
            subst hln
            refine ⟨_, by rw [hagg hst hz.1], .inr ⟨p.rb, k, rc, rfl, hfr b _ p hb hp, fun j u hj => ?_⟩⟩
            have hj6 : j < O.length * 6 := by
              have := (List.getElem?_eq_some_iff.1 hj).1
              omega
            have hk' := hk (by omega)
            obtain ⟨p', hp', hB⟩ := hH.blk b _ hb
            rw [hp, Option.some.injEq] at hp'
            subst hp'
            obtain ⟨_, hpn, arr, el, fr, xs, harr, hwin, hxs, _⟩ := hB
            rw [cell_of_row w' p.rb (k + j) arr el fr harr, hk', Nat.add_zero]
            refine hwin j u ?_
            have h3 := all2_get_lit (all2_take hxs (O.length * 6)) (hrd.trans hz.2) j
            rw [List.getElem?_take_of_lt hj6] at h3
            rw [h3, hj]
          · cases hrd
      · cases hz
    · cases hz
  · cases hz

theorem stepS_to (s : St) (e : Ev) : ∀ o ∈ (stepS s e).2, o.to ≠ 0 := by
  have h : ∀ l : Lt, ∀ o ∈ outS l, o.to ≠ 0 := fun l o ho => by
    unfold outS at ho
    split at ho
    · cases ho
    · split at ho <;> (rw [List.mem_singleton.1 ho]; simp)
  unfold stepS
  split
  · split
    · split
      · exact h (prS s.c e.t 0)
      · intro o ho; cases ho
    · split
      · rename_i x _
        exact h x.sends
      · intro o ho; cases ho
  · intro o ho; cases ho

/-- What is sent does not lie in a row of a state's zeros. -/
theorem out_apart {w : World} {O : List Ou} {g off gT : Nat} {ty : TypeId} {fr : Nat × Nat} (ho : ∀ o ∈ O, o.to ≠ 0) (hne : O ≠ []) (hc : ∀ j u, (O.flatMap Ou.cs)[j]? = some u → w.cell? ⟨g, off + j, none⟩ = some u)
    (hz : w.heap[gT]? = some (.cells #[.int .i64 0, .int .u64 0, .string { data := #[] }, .int .i64 0, .int .i64 0, .int .i64 0, .int .u64 0, .string { data := #[] }, .bool false] ty fr)) : g ≠ gT := by
  rintro rfl
  match O, hne with
  | o :: O, _ =>
    have h0 := hc 0 (.int .i64 o.to) rfl
    have h1 := hc 1 (.int .i64 o.l.k) rfl
    have h2 := hc 2 (.int .i64 o.l.f) rfl
    have h3 := hc 3 (.int .u64 o.l.c) rfl
    rw [cell_of_row w g _ _ _ _ hz] at h0 h1 h2 h3
    have hlt : off < 9 := by
      have := (Array.getElem?_eq_some_iff.1 h0).1
      simpa using this
    have hto := ho o (.head _)
    match off, hlt with
    | 0, _ | 1, _ | 2, _ | 3, _ | 4, _ | 5, _ | 6, _ | 7, _ | 8, _ => simp_all

theorem inits11 : Try.prog.inits.idxOf? 10 = none := by kernel_rfl

/-- The document's step. -/
theorem rs_step (r c : Int) (t : ByteArray) (ph k f c2 : Int) (t2 : ByteArray) (fk : Bool) (ek ec : Int) (et : ByteArray) (lk lf lc : Int) (lt : ByteArray) (lb : Bool) (w : World) :
    Calls Try.prog 11 #[.agg #[.int .i64 r, .int .u64 c, .string t, .int .i64 ph, .int .i64 k, .int .i64 f, .int .u64 c2, .string t2, .bool fk], .agg #[.int .i64 ek, .int .u64 ec, .string et, .int .i64 lk, .int .i64 lf, .int .u64 lc, .string lt, .bool lb]] w (SteppedR w (stepS ⟨r, c, t, ph, ⟨k, f, c2, t2, fk⟩⟩ ⟨ek, ec, et, ⟨lk, lf, lc, lt, lb⟩⟩)) := by
  obtain ⟨v, h1, v', h1', Z, hA, hB, hz, hz'⟩ := E.same_acall (ρ := E.valE r c t ph k f c2 t2 fk ek ec et lk lf lc lt lb) E.same0 (fun _ h => by cases h)
  have hx : E.All2 (E.VRel (fun _ => none) E.noF) ([E.stS 0, E.evS 100].map (E.V.den (E.valE r c t ph k f c2 t2 fk ek ec et lk lf lc lt lb)))
      [.agg #[.int .i64 r, .int .u64 c, .string t, .int .i64 ph, .int .i64 k, .int .i64 f, .int .u64 c2, .string t2, .bool fk], .agg #[.int .i64 ek, .int .u64 ec, .string et, .int .i64 lk, .int .i64 lf, .int .u64 lc, .string lt, .bool lb]] := by
    simp [E.stS, E.evS, E.letS, E.V.den, E.C.den, E.sI, E.sS, E.sB, E.den, E.All2, E.VRel, E.CRel, E.valE]
  have hH0 : E.HRel 0 (fun _ => none) ⟨0, []⟩ w := ⟨fun _ _ => rfl, (fun b x e => by cases e), (fun b b' x x' p p' _ e => by cases e)⟩
  obtain ⟨e, w1, ⟨x, β', he, hv, hH, _⟩, T, O, vo, hr, he', hown, hext⟩ := calls_meet (hA.2.2 _ w _ hH0 hx) (or_stepT r c t ph k f c2 t2 fk ek ec et lk lf lc lt lb w) (fun e w' ⟨x, _, h, _⟩ => ⟨x, h⟩) (fun e w' ⟨_, _, _, _, h, _⟩ => ⟨_, h⟩) inits11
  rw [he] at he'
  simp only [Ending.returned.injEq] at he'
  subst he'
  have hZ := view_of hz hv hH hown
  subst hZ
  refine (hB.2.2 _ w _ hH0 hx).mono fun e w' he => ?_
  obtain ⟨x, β2, rfl, hv2, hH2, hst, _⟩ := he
  obtain ⟨vo2, rfl, hrow⟩ := view_back hz' hv2 hH2 (base := w.heap.size) fun b y p e1 e2 => by
    rcases hst.blks b y p e1 e2 with ⟨b0, x0, p0, e0, _⟩ | h
    · cases e0
    · exact h
  exact ⟨T, O, vo2, hr, rfl, hrow, E.step_below (h := ⟨0, []⟩) (fun b x e => by cases e) hst⟩
end Go.Proofs.Ytnfehccnofhmnaa

/-
  Walk: many steps of the document. No condition.
-/
namespace Go.Proofs.Ytnfehccnofhmnaa
open Go.RowKit
attribute [local go_sem ↓] eql_lEq eql_sEq eql_eEq eql_oEq neq_lEq neq_sEq neq_eEq neq_oEq
attribute [local go_sem] ExtOf.cell ExtOf.frozen ExtOf.lt ExtOf.le
attribute [local go_sem high] ExtOf.cell2 ExtOf.frozen2 ExtOf.lt2 ExtOf.cell3 ExtOf.frozen3 ExtOf.lt3 ExtOf.cellB ExtOf.frozenB ExtOf.cellX ExtOf.frozenX ExtOf.cellX' ExtOf.frozenX'
attribute [local go_sem] BelOf.cell BelOf.frozen BelOf.lt

set_option maxRecDepth 100000 in
set_option maxHeartbeats 4000000 in
theorem rs_run (r c : Int) (t : ByteArray) (ph k f c2 : Int) (t2 : ByteArray) (fk : Bool) (v : Value) (L : List Ev) (w : World) (hR : Row w 8 v L.length (L.flatMap Ev.cs)) (hL : L.length ≤ 60) :
    Calls Try.prog 28 #[.agg #[.int .i64 r, .int .u64 c, .string t, .int .i64 ph, .int .i64 k, .int .i64 f, .int .u64 c2, .string t2, .bool fk], v] w (SteppedT w (runS ⟨r, c, t, ph, ⟨k, f, c2, t2, fk⟩⟩ L)) := by
  obtain ⟨ti0, hi, hz0, hz1, hz2⟩ := info_parts info_outs
  obtain ⟨a, cap, rfl, hm, hvw⟩ := row_view hR
  have HV := Lib.hid hvw
  clear hvw hR
  unfold maxLen at hm
  go_enter Try.func28, Try.ntmps28
  go_wp2_with fail
  go_loopw [6, 7] (fun all i wr => ∃ (n : Nat) (T : St) (O : List Ou), n ≤ L.length ∧ i = .int .i64 n ∧ runS ⟨r, c, t, ph, ⟨k, f, c2, t2, fk⟩⟩ (L.take n) = (T, O) ∧
      wr.heap[w.heap.size]? = some (.cells #[.int .i64 T.r, .int .u64 T.c, .string T.t, .int .i64 T.ph, .int .i64 T.p.k, .int .i64 T.p.f, .int .u64 T.p.c, .string T.p.t, .bool T.p.b] 26 (0, 0)) ∧
      wr.heap[w.heap.size + 1]? = some (.cells #[.int .i64 0, .int .u64 0, .string { data := #[] }, .int .i64 0, .int .i64 0, .int .i64 0, .int .u64 0, .string { data := #[] }, .bool false] 26 (0, 0)) ∧
      Ext w wr ∧ wr.ownsRow (w.heap.size + 2) 45 6 all O.length (O.flatMap Ou.cs)) (fun _ i _ => L.length - (intOf i).toNat)
  case atStart => exact ⟨0, ⟨r, c, t, ph, ⟨k, f, c2, t2, fk⟩⟩, [], Nat.zero_le _, rfl, rfl, heap_ext (heap_new rfl) ((Ext.refl _).alloc _), heap_new (by simp), ((Ext.refl _).alloc _).alloc _, World.ownsRow_nil _ _ _ _⟩
  case round =>
    obtain ⟨n, T, O, hn, rfl, hrun, hbox, hres, hxr, hown⟩ := hrel
    rename_i wr
    have hO : O.length ≤ n := by
      have := run_len (L.take n) (⟨r, c, t, ph, ⟨k, f, c2, t2, fk⟩⟩, [])
      unfold runS at hrun
      rw [hrun] at this
      simp at this
      omega
    obtain ⟨a3, cap3, rfl, hm3, -⟩ := own_view hown
    have HRun := Lib.hid hrun
    have HB := Lib.hid hbox
    have HRes := Lib.hid hres
    have HXR := Lib.hid hxr
    have HO := Lib.hid hown
    clear hrun hown
    by_cases hlt : n < L.length
    · obtain ⟨g, off, rfl, hg, hcell⟩ := HV.out (by omega)
      obtain ⟨x, hx⟩ : ∃ x, L[n]? = some x := ⟨_, List.getElem?_eq_getElem hlt⟩
      obtain ⟨q0, q1, q2, q3, q4, q5, q6, q7⟩ := ev_cellsO (fun j u hj => cell_keep (hcell j u hj) hxr) hx
      have HX := Lib.hid hx
      have hcb := fun j => cell_of_row wr _ j _ _ _ hbox
      have hlb : w.heap.size < wr.heap.size := (Array.getElem?_eq_some_iff.1 hbox).1
      have hgr : g < wr.heap.size := Nat.lt_of_lt_of_le (hg (by omega)) hxr.size
      have i0 : (0 : Int) ≤ (n : Int) := by omega
      have i1 : (n : Int) < (L.length : Int) := by omega
      clear hx hcell hg hbox hxr hres
      go_wp2_with fail
      refine wp_region_mixF (af := ?af) #[.int .i64 0, .int .u64 0, .string { data := #[] }, .int .i64 0, .int .i64 0, .int .i64 0, .int .u64 0, .string { data := #[] }, .bool false] 26 [true, true, true, true, true, false, false, false, false, false, false, false] [false, false, false, false, false, false, true, true, true, false, false, true] 31 4 (C := Ext wr) (by kernel_rfl) rfl (by kernel_rfl) (fun _ _ h e => Ext.trans h e) (Ext.refl _).drew ?q ?r
      case q =>
        intro w' hw'
        obtain ⟨y, rfl⟩ := ext_of hw'
        simp only [pickT, if_true, if_false, Bool.false_eq_true]
        repeat (go_big_quiet_step (fail))
        exact rfl
      case r =>
        simp only [restL, if_true, if_false, Bool.false_eq_true]
        refine ⟨fun a w => by simp [go_sem], ?_⟩
        intro x1
        go_wp2_with fail
        refine (rs_step _ _ _ _ _ _ _ _ _ _ _ _ _ _ _ _ _ _).mono ?_
        rintro e w4 ⟨T', O', v', hT, rfl, hv, hx4⟩
        go_wp2_with fail
        refine ⟨hx4, ?_⟩
        refine ⟨_, .inl ⟨rfl, fun w _ => ⟨rfl, rfl⟩⟩, ?_⟩
        refine ⟨_, .inl ⟨rfl, fun w _ => ⟨rfl, rfl⟩⟩, ?_⟩
        refine ⟨_, .inl ⟨rfl, fun w _ => ⟨rfl, rfl⟩⟩, ?_⟩
        intro x2 gT hgT hzT
        have e2 : Ext wr x2.val := (((Ext.refl wr).drew.val x1).trans hx4).val x2
        intro x3
        go_wp2_with (refine wpList_store_row rfl 26 _ _ rfl gT _ rfl rfl 26 _ (heap_ext hzT x3.ext) info_state rfl (by simp [Value.oneCell']) ?_)
        refine ⟨(e2.val x3).setRow hgT _, ?_⟩
        refine ⟨_, .inl ⟨rfl, fun w _ => ⟨rfl, rfl⟩⟩, ?_⟩
        intro x4
        have eT : x4.val.heap[gT]? = some (.cells #[.int .i64 T'.r, .int .u64 T'.c, .string T'.t, .int .i64 T'.ph, .int .i64 T'.p.k, .int .i64 T'.p.f, .int .u64 T'.p.c, .string T'.p.t, .bool T'.p.b] 26 (0, 0)) := heap_ext (setRow_heap _ _ _ _ _ _ (heap_ext hzT x3.ext)) x4.ext
        have eX : Ext wr x4.val := ((e2.val x3).setRow hgT _).val x4
        have eS := heap_ext HB.out eX
        have eR := heap_ext HRes.out eX
        have eO := own_ext HO.out eX
        have hO' : O'.length ≤ 1 := by have := stepS_len T x; rw [hT] at this; exact this
        have hto : ∀ o ∈ O', o.to ≠ 0 := by have := stepS_to T x; rw [hT] at this; exact this
        have eV : (O'.length = 0 ∧ v' = .slice none 0 0) ∨ ∃ g2 off2 cap2, v' = .slice (some ⟨g2, off2, none⟩) O'.length cap2 ∧ w.heap.size ≠ g2 ∧ ∀ j u, (O'.flatMap Ou.cs)[j]? = some u → x4.val.cell? ⟨g2, off2 + j, none⟩ = some u := by
          rcases hv with ⟨rfl, hv⟩ | ⟨g2, off2, cap2, hv, hg2, hc2⟩
          · exact .inl ⟨rfl, hv⟩
          · refine .inr ⟨g2, off2, cap2, hv, ?_, fun j u hj => ?_⟩
            · have := ((Ext.refl wr).drew.val x1).size
              omega
            · have hne : O' ≠ [] := fun h0 => by subst h0; simp at hj
              have hc3 : ∀ j u, (O'.flatMap Ou.cs)[j]? = some u → x3.val.cell? ⟨g2, off2 + j, none⟩ = some u := fun j u hj => cell_keep (cell_keep (hc2 j u hj) x2.ext) x3.ext
              have hap := out_apart hto hne hc3 (heap_ext hzT x3.ext)
              refine cell_keep ?_ x4.ext
              have h5 := hc3 j u hj
              rw [← h5]
              exact World.cell?_of_block (setRow_other _ _ _ _ hap)
        generalize x4.val = w5 at eT eX eS eR eO eV ⊢
        clear x4 x3 x2 hzT hv hx4 e2 q0 q1 q2 q3 q4 q5 q6 q7
        have hneq : w.heap.size < gT := Nat.lt_of_lt_of_le hlb hgT
        have ct5 := fun j => cell_of_row w5 _ j _ _ _ eT
        have lt5 : gT < w5.heap.size := (Array.getElem?_eq_some_iff.1 eT).1
        go_wp2_with (first | refine wpList_store_row rfl 26 _ _ rfl w.heap.size _ rfl rfl 26 _ eS info_state rfl (by simp [Value.oneCell']) ?_ | (at_builtin; refine unHd ?_))
        unfold Hd
        refine wpList_app3 (w.heap.size + 2) 32 45 ti0 _ 6 56 Try.underlying32 hi hz0 hz1 hz2 rfl (by decide) rfl _ _ rfl _ _ _ rfl (own_setRow eO eS (by decide) _) ?hsz1 _ O'.length (O'.flatMap Ou.cs) rfl (ou_flat O') ?hrow (ou_one O') ?hsz2 ?hsz3 ?hsz4
        case hsz1 => simp; have := (Array.getElem?_eq_some_iff.1 eR).1; omega
        case hsz2 => unfold maxLen; omega
        case hsz3 => omega
        case hrow =>
          rcases eV with ⟨h0, hv⟩ | ⟨g2, off2, cap2, hv, hg2, hc2⟩
          · exact .inl ⟨h0, hv⟩
          · refine .inr ⟨g2, off2, cap2, hv, fun j u hj => ?_⟩
            rw [← hc2 j u hj]
            exact World.cell?_of_block (setRow_other _ _ _ _ (Ne.symm hg2))
        intro v5 w6 hown5 hb5 hg5
        go_wp2_with fail
        go_roundw
        case rel =>
          refine ⟨n + 1, T', O ++ O', by omega, by go_num, run_next HX.out HRun.out hT, ?_, ?_, ?_, ?_⟩
          · rw [hb5.block _ (by omega)]
            exact setRow_heap _ _ _ _ _ _ eS
          · rw [hb5.block _ (by omega), setRow_other _ _ _ _ (by omega)]
            exact eR
          · exact ((HXR.out.trans eX).setRow (Nat.le_refl _) _).trans' (Below.mono hb5 (by omega))
          · simpa using hown5
        case measure => simp [intOf]; omega
    · obtain rfl : n = L.length := by omega
      have hcb := fun j => cell_of_row wr _ j _ _ _ hbox
      have hcr := fun j => cell_of_row wr _ j _ _ _ hres
      have hlb : w.heap.size + 1 < wr.heap.size := (Array.getElem?_eq_some_iff.1 hres).1
      clear hbox hxr
      go_wp2_with (refine wpList_store_row rfl 26 _ _ rfl (w.heap.size + 1) _ rfl rfl 26 _ hres info_state rfl (by simp [Value.oneCell']) ?_)
      refine bodyPost_ret (results_row_tmp rfl _ _ _ 26 _ (0, 0) _ rfl (setRow_heap _ _ _ _ _ _ hres) Try.underlying26 rfl info_state) rfl ?_
      rw [List.take_length] at HRun
      exact ⟨T, O, _, HRun.out, rfl, own_base (own_setRow HO.out hres (by decide) _) (by omega), HXR.out.setRow (by omega) _⟩
end Go.Proofs.Ytnfehccnofhmnaa

/-
  Walk: the comparison of two lists of letters that are sent, of two lists of events. No condition.
-/
namespace Go.Proofs.Ytnfehccnofhmnaa
open Go.RowKit
attribute [local go_sem ↓] eql_lEq eql_sEq eql_eEq eql_oEq neq_lEq neq_sEq neq_eEq neq_oEq
attribute [local go_sem] ExtOf.cell ExtOf.frozen ExtOf.lt ExtOf.le
attribute [local go_sem high] ExtOf.cell2 ExtOf.frozen2 ExtOf.lt2 ExtOf.cell3 ExtOf.frozen3 ExtOf.lt3 ExtOf.cellB ExtOf.frozenB ExtOf.cellX ExtOf.frozenX ExtOf.cellX' ExtOf.frozenX'
attribute [local go_sem] BelOf.cell BelOf.frozen BelOf.lt

/-- append to a row of the call's own (in a block from B on), of any slice of that type. -/
theorem wpList_app4 {P : Program} {ops : Array Oper} {rest : List Oper} {o : Oper} {a : Act} {Q : Exit → Act → World → Prop} {w : World} (B : Nat) (t e : TypeId) (i : TypeInfo) (z : Value) (size bytes : Nat)
    (ht : P.underlying t = some (.slice e)) (hi : P.info? e = some i) (hz : i.zero = some z) (hsize : i.size = size) (hby : i.bytes = bytes) (hzs : z.cells.size = size) (hsz : 0 < size)
    (hgd : o.guard = none) (s x : Operand) (ho : o.op = .call { callee := .builtin .append, args := #[s, x], argTypes := #[t, t] })
    (v : Value) (n : Nat) (xs : List Value) (hs : a.eval s = v) (hown : w.ownsRow B e size v n xs) (hB : B ≤ w.heap.size)
    (v2 : Value) (m : Nat) (news : List Value) (hx : a.eval x = v2) (hrow : Row w size v2 m news) (hnil : v2 = .slice none 0 0 ∨ ∃ a n c, v2 = .slice (some a) n c) (h1 : ∀ u ∈ news, u.oneCell' = true)
    (h63 : n + m ≤ maxLen) (hbytes : (n + m) * bytes ≤ 140737488355328)
    (h : ∀ v' w', w'.ownsRow B e size v' (n + m) (xs ++ news) → Below B w w' → w.grownBy w' v.ownBlock → wpList P ops Q rest (a.put o.dst v') w') : wpList P ops Q (o :: rest) a w := by
  rcases hnil with hnil | ⟨ad, n', c', hnil⟩
  · have hm0 : m = 0 := by
      rcases hrow.2 with ⟨h0, _⟩ | ⟨g, off, cap, hv, _⟩
      · exact h0
      · rw [hnil] at hv; cases hv
    subst hm0
    have hnews : news = [] := List.length_eq_zero_iff.1 (by simpa using hrow.1)
    subst hnews
    refine wpList_append_own_none hgd s x t ho B e i size ht hi v n xs hs hown (by rw [hx, hnil]) (h v w (by simpa using hown) (Below.refl _ _) ⟨rfl, rfl, rfl, Nat.le_refl _, fun _ _ _ => rfl⟩)
  · have key : v2 = .slice (some ad) m c' ∧ ∀ j u, news[j]? = some u → w.cell? (ad.add j) = some u := by
      rcases hrow.2 with ⟨h0, a', c2, hv⟩ | ⟨g, off, cap, hv, _, hc⟩
      · rw [hnil] at hv
        simp only [Value.slice.injEq] at hv
        refine ⟨by rw [hnil, hv.2.1, h0], fun j u hj => ?_⟩
        have : news = [] := List.length_eq_zero_iff.1 (by rw [hrow.1, h0, Nat.zero_mul])
        rw [this] at hj; simp at hj
      · rw [hnil] at hv
        simp only [Value.slice.injEq, Option.some.injEq] at hv
        refine ⟨by rw [hnil, hv.2.1], fun j u hj => ?_⟩
        rw [hv.1]
        have : (⟨g, off, none⟩ : Addr).add j = ⟨g, off + j, none⟩ := by unfold Addr.add; split <;> simp_all
        rw [this]; exact hc j u hj
    exact wpList_append_own w hgd s x t ho B e i z size bytes ht hi hz hsize hby hzs hsz v n xs hs hown ad m c' news (by rw [hx, key.1]) hrow.1 key.2 h1 h63 hbytes hB
      fun v' w' k1 k2 _ => h v' w' k1 (Below.grown (Below.refl _ _) k2 hB fun k hk => (hown.lt k hk).1) k2

theorem oEq_self (a b c : Int) (d : Int) (e : ByteArray) (f : Bool) : oEq a b c d e f a b c d e f = true := by simp [oEq]
theorem eEq_self (a b : Int) (c : ByteArray) (d e f : Int) (g : ByteArray) (h : Bool) : eEq a b c d e f g h a b c d e f g h = true := by simp [eEq]
attribute [local go_sem] oEq_self eEq_self

/-- The facts that a loop over what is sent reads of its element. -/
theorem ou_cellsO {w : World} {g off : Nat} {L : List Ou} {k : Nat} {x : Ou} (h : ∀ j u, (L.flatMap Ou.cs)[j]? = some u → w.cell? ⟨g, off + j, none⟩ = some u) (hx : L[k]? = some x) :
    w.cell? ⟨g, off + k * 6, none⟩ = some (.int .i64 x.to) ∧ w.cell? ⟨g, off + k * 6 + 1, none⟩ = some (.int .i64 x.l.k) ∧ w.cell? ⟨g, off + k * 6 + 2, none⟩ = some (.int .i64 x.l.f) ∧ w.cell? ⟨g, off + k * 6 + 3, none⟩ = some (.int .u64 x.l.c) ∧ w.cell? ⟨g, off + k * 6 + 4, none⟩ = some (.string x.l.t) ∧ w.cell? ⟨g, off + k * 6 + 5, none⟩ = some (.bool x.l.b) := by
  have f := fun j hj => flat_get Ou.cs 6 (fun _ => rfl) L k x hx j hj
  have F : ∀ j u, (Ou.cs x)[j]? = some u → j < 6 → w.cell? ⟨g, off + k * 6 + j, none⟩ = some u := fun j u hu hj => by
    rw [Nat.add_assoc]; exact h _ _ ((f j hj).trans hu)
  exact ⟨F 0 _ rfl (by omega), F 1 _ rfl (by omega), F 2 _ rfl (by omega), F 3 _ rfl (by omega), F 4 _ rfl (by omega), F 5 _ rfl (by omega)⟩

set_option maxHeartbeats 1600000 in
theorem outs_eq (v1 v2 : Value) (L : List Ou) (w : World) (h1 : Row w 6 v1 L.length (L.flatMap Ou.cs)) (h2 : Row w 6 v2 L.length (L.flatMap Ou.cs)) :
    Calls Try.prog 12 #[v1, v2] w fun e w' => e = .returned (.bool true) ∧ Ext w w' := by
  obtain ⟨a, cap, rfl, hm, hv1⟩ := row_view h1
  obtain ⟨a', cap', rfl, -, hv2⟩ := row_view h2
  have HV := Lib.hid hv1
  have HU := Lib.hid hv2
  clear hv1 hv2 h1 h2
  unfold maxLen at hm
  go_enter Try.func12, Try.ntmps12
  go_wp2_with fail
  go_loopw [5] (fun i wr => ∃ (k : Nat) (y : ExtOf w), k ≤ L.length ∧ i = .int .i64 k ∧ wr = y.val) (fun i _ => L.length - (intOf i).toNat)
  case atStart => exact ⟨0, ⟨w, Ext.refl _⟩, Nat.zero_le _, rfl, rfl⟩
  case round =>
    obtain ⟨k, y, hk, rfl, rfl⟩ := hrel
    by_cases hlt : k < L.length
    · obtain ⟨g, off, rfl, hg, hcell⟩ := HV.out (by omega)
      obtain ⟨g', off', rfl, hg', hcell'⟩ := HU.out (by omega)
      have hg0 := hg (by omega)
      have hg0' := hg' (by omega)
      obtain ⟨x, hx⟩ : ∃ x, L[k]? = some x := ⟨_, List.getElem?_eq_getElem hlt⟩
      obtain ⟨q0, q1, q2, q3, q4, q5⟩ := ou_cellsO hcell hx
      obtain ⟨p0, p1, p2, p3, p4, p5⟩ := ou_cellsO hcell' hx
      clear hx hcell hg hcell' hg'
      have i0 : (0 : Int) ≤ (k : Int) := by omega
      have i1 : (k : Int) < (L.length : Int) := by omega
      go_wp2_with fail
      refine wp_region_ext (by kernel_rfl) (by kernel_rfl) ?_
      repeat (go_big_quiet_step (fail))
      refine wpQuiet_nil ?_
      intro _ hx'
      obtain ⟨z, rfl⟩ := hx'
      go_wp2_with fail
      go_roundw
      case rel => exact ⟨k + 1, ⟨z.val, y.ext.val z⟩, by omega, by go_num, rfl⟩
      case measure => simp [intOf]; omega
    · obtain rfl : k = L.length := by omega
      go_wp2_with fail
      go_ret
      exact ⟨rfl, y.ext⟩

set_option maxHeartbeats 1600000 in
theorem same_eq (v1 v2 : Value) (L : List Ev) (w : World) (h1 : Row w 8 v1 L.length (L.flatMap Ev.cs)) (h2 : Row w 8 v2 L.length (L.flatMap Ev.cs)) :
    Calls Try.prog 19 #[v1, v2] w fun e w' => e = .returned (.bool true) ∧ Ext w w' := by
  obtain ⟨a, cap, rfl, hm, hv1⟩ := row_view h1
  obtain ⟨a', cap', rfl, -, hv2⟩ := row_view h2
  have HV := Lib.hid hv1
  have HU := Lib.hid hv2
  clear hv1 hv2 h1 h2
  unfold maxLen at hm
  go_enter Try.func19, Try.ntmps19
  go_wp2_with fail
  go_loopw [5] (fun i wr => ∃ (k : Nat) (y : ExtOf w), k ≤ L.length ∧ i = .int .i64 k ∧ wr = y.val) (fun i _ => L.length - (intOf i).toNat)
  case atStart => exact ⟨0, ⟨w, Ext.refl _⟩, Nat.zero_le _, rfl, rfl⟩
  case round =>
    obtain ⟨k, y, hk, rfl, rfl⟩ := hrel
    by_cases hlt : k < L.length
    · obtain ⟨g, off, rfl, hg, hcell⟩ := HV.out (by omega)
      obtain ⟨g', off', rfl, hg', hcell'⟩ := HU.out (by omega)
      have hg0 := hg (by omega)
      have hg0' := hg' (by omega)
      obtain ⟨x, hx⟩ : ∃ x, L[k]? = some x := ⟨_, List.getElem?_eq_getElem hlt⟩
      obtain ⟨q0, q1, q2, q3, q4, q5, q6, q7⟩ := ev_cellsO hcell hx
      obtain ⟨p0, p1, p2, p3, p4, p5, p6, p7⟩ := ev_cellsO hcell' hx
      clear hx hcell hg hcell' hg'
      have i0 : (0 : Int) ≤ (k : Int) := by omega
      have i1 : (k : Int) < (L.length : Int) := by omega
      go_wp2_with fail
      refine wp_region_ext (by kernel_rfl) (by kernel_rfl) ?_
      repeat (go_big_quiet_step (fail))
      refine wpQuiet_nil ?_
      intro _ hx'
      obtain ⟨z, rfl⟩ := hx'
      go_wp2_with fail
      go_roundw
      case rel => exact ⟨k + 1, ⟨z.val, y.ext.val z⟩, by omega, by go_num, rfl⟩
      case measure => simp [intOf]; omega
    · obtain rfl : k = L.length := by omega
      go_wp2_with fail
      go_ret
      exact ⟨rfl, y.ext⟩
end Go.Proofs.Ytnfehccnofhmnaa

/-
  Walk: the law OriginRuns. No condition.
-/
namespace Go.Proofs.Ytnfehccnofhmnaa
open Go.RowKit
attribute [local go_sem ↓] eql_lEq eql_sEq eql_eEq eql_oEq neq_lEq neq_sEq neq_eEq neq_oEq
attribute [local go_sem] ExtOf.cell ExtOf.frozen ExtOf.lt ExtOf.le
attribute [local go_sem high] ExtOf.cell2 ExtOf.frozen2 ExtOf.lt2 ExtOf.cell3 ExtOf.frozen3 ExtOf.lt3 ExtOf.cellB ExtOf.frozenB ExtOf.cellX ExtOf.frozenX ExtOf.cellX' ExtOf.frozenX'
attribute [local go_sem] BelOf.cell BelOf.frozen BelOf.lt

theorem info_evs : (Try.prog.info? 28).map (fun i => (i.zero, i.size, i.bytes)) = some (some (.agg #[.int .i64 0, .int .u64 0, .string { data := #[] }, .int .i64 0, .int .i64 0, .int .u64 0, .string { data := #[] }, .bool false]), 8, 80) := by kernel_rfl

theorem ev_one (O : List Ev) : ∀ u ∈ O.flatMap Ev.cs, u.oneCell' = true := fun u hu => by
  obtain ⟨o, _, ho⟩ := List.mem_flatMap.1 hu
  simp only [Ev.cs, List.mem_cons, List.not_mem_nil, or_false] at ho
  rcases ho with rfl | rfl | rfl | rfl | rfl | rfl | rfl | rfl <;> simp [Value.oneCell']

theorem sEq_self (a b : Int) (c : ByteArray) (d e f g : Int) (h : ByteArray) (i : Bool) : sEq a b c d e f g h i a b c d e f g h i = true := by simp [sEq]
attribute [local go_sem] sEq_self

set_option maxRecDepth 100000 in
set_option maxHeartbeats 4000000 in
theorem runs_loop (r c : Int) (t : ByteArray) (ph k f c2 : Int) (t2 : ByteArray) (fk : Bool) (v : Value) (L : List Ev) (w : World) (hR : Row w 8 v L.length (L.flatMap Ev.cs)) (hnil : v = .slice none 0 0 ∨ ∃ a n c, v = .slice (some a) n c) (hsz : ∀ e ∈ L, e.t.size ≤ 1048576 ∧ e.l.t.size ≤ 1048576) (ht : (t.size : Int) ≤ 6000) (hl : longS L = false) :
    Calls Try.prog 6 #[.agg #[.int .i64 r, .int .u64 c, .string t, .int .i64 ph, .int .i64 k, .int .i64 f, .int .u64 c2, .string t2, .bool fk], v] w fun e w' => e = .returned (.bool true) ∧ Ext w w' := by
  obtain ⟨ti0, hi, hz0, hz1, hz2⟩ := info_parts info_evs
  have hL : L.length ≤ 60 := by
    unfold longS at hl
    simp only [Bool.or_eq_false_iff, decide_eq_false_iff_not] at hl
    omega
  have HR := Lib.hid hR
  have HN := Lib.hid hnil
  have HS := Lib.hid hsz
  have HL := Lib.hid hl
  clear hR hsz hl hnil
  go_enter Try.func6, Try.ntmps6
  go_wp2_with fail
  refine (long_any _ L _ (HR.out.ext ((Ext.refl _).alloc _)) HS.out).mono ?_
  rintro e w1 ⟨rfl, hx1⟩
  rw [HL.out]
  have h1a := heap_ext (heap_new (w := w) rfl) hx1
  have hX1 : Ext w w1 := ((Ext.refl _).alloc _).trans hx1
  have HX1 := Lib.hid hX1
  have HB := Lib.hid h1a
  clear hX1 hx1 h1a
  go_wp2_with (first | (at_builtin; refine unHd ?_))
  unfold Hd
  refine wpList_app4 w1.heap.size 30 28 ti0 _ 8 80 Try.underlying30 hi hz0 hz1 hz2 rfl (by decide) rfl _ _ rfl _ 0 [] rfl (own_new (Ext.refl w1) rfl (Nat.zero_le _) rfl rfl) (by simp) _ _ _ rfl (HR.out.ext (HX1.out.alloc _)) HN.out (ev_one L) (by unfold maxLen; omega) (by omega) ?_
  intro v5 w5 hown5 hb5 _
  have hx5 : Ext w1 w5 := ((Ext.refl w1).alloc _).trans' (Below.mono hb5 (by simp))
  have b5 := heap_ext HB.out hx5
  have hc5 := fun j => cell_of_row w5 _ j _ _ _ b5
  have l5 : w.heap.size < w5.heap.size := (Array.getElem?_eq_some_iff.1 b5).1
  rw [Nat.zero_add, List.nil_append] at hown5
  have HO5 := Lib.hid hown5
  have HX5 := Lib.hid (HX1.out.trans hx5)
  have HB5 := Lib.hid b5
  clear hown5 hb5 hx5 b5 HB HX1
  go_wp2_with fail
  refine (or_run _ _ _ _ _ _ _ _ _ _ L _ (Row.of_own HO5.out) hL).mono ?_
  rintro e w6 ⟨T, O, v6, hT, rfl, hv6, hx6⟩
  have b6 := heap_ext HB5.out hx6
  have hX6 := HX5.out.trans hx6
  have o5 := Row.ext (Row.of_own HO5.out) hx6
  clear hc5 l5 HX5 HB5 HO5
  go_wp2_with (refine wpList_store_row rfl 26 _ _ rfl w6.heap.size _ rfl rfl 26 _ (heap_new rfl) info_state rfl (by simp [Value.oneCell']) (unHd ?_))
  have eX : Ext w6 ((w6.alloc (.cells #[.int .i64 0, .int .u64 0, .string { data := #[] }, .int .i64 0, .int .i64 0, .int .i64 0, .int .u64 0, .string { data := #[] }, .bool false] 26)).setRow w6.heap.size #[.int .i64 T.r, .int .u64 T.c, .string T.t, .int .i64 T.ph, .int .i64 T.p.k, .int .i64 T.p.f, .int .u64 T.p.c, .string T.p.t, .bool T.p.b]) := ((Ext.refl w6).alloc _).setRow (Nat.le_refl _) _
  have eT := setRow_heap _ _ _ #[.int .i64 T.r, .int .u64 T.c, .string T.t, .int .i64 T.ph, .int .i64 T.p.k, .int .i64 T.p.f, .int .u64 T.p.c, .string T.p.t, .bool T.p.b] _ _ (heap_new (w := w6) (o := .cells #[.int .i64 0, .int .u64 0, .string { data := #[] }, .int .i64 0, .int .i64 0, .int .i64 0, .int .u64 0, .string { data := #[] }, .bool false] 26) rfl)
  generalize World.setRow _ _ _ = w7 at eX eT ⊢
  have b7 := heap_ext b6 eX
  have hc7 := fun j => cell_of_row w7 _ j _ _ _ b7
  have l7 : w.heap.size < w7.heap.size := (Array.getElem?_eq_some_iff.1 b7).1
  have o7 := Row.ext o5 eX
  have HX7 := Lib.hid (hX6.trans eX)
  have HT7 := Lib.hid eT
  have HV7 := Lib.hid (own_ext hv6 eX)
  have HO7 := Lib.hid o7
  have hw67 : w6.heap.size < w7.heap.size := (Array.getElem?_eq_some_iff.1 eT).1
  clear b6 hX6 o5 eX hv6 hx6 o7 eT b7
  unfold Hd
  go_wp2_with fail
  refine (rs_run _ _ _ _ _ _ _ _ _ _ L _ (HR.out.ext HX7.out) hL).mono ?_
  rintro e w8 ⟨T', O', v8, hT', rfl, hv8, hx8⟩
  rw [show runS ⟨r, c, t, ph, ⟨k, f, c2, t2, fk⟩⟩ L = (T, O) from hT] at hT'
  simp only [Prod.mk.injEq] at hT'
  obtain ⟨rfl, rfl⟩ := hT'
  go_wp2_with (refine wpList_store_row rfl 26 _ _ rfl w8.heap.size _ rfl rfl 26 _ (heap_new rfl) info_state rfl (by simp [Value.oneCell']) (unHd ?_))
  have eX : Ext w8 ((w8.alloc (.cells #[.int .i64 0, .int .u64 0, .string { data := #[] }, .int .i64 0, .int .i64 0, .int .i64 0, .int .u64 0, .string { data := #[] }, .bool false] 26)).setRow w8.heap.size #[.int .i64 T.r, .int .u64 T.c, .string T.t, .int .i64 T.ph, .int .i64 T.p.k, .int .i64 T.p.f, .int .u64 T.p.c, .string T.p.t, .bool T.p.b]) := ((Ext.refl w8).alloc _).setRow (Nat.le_refl _) _
  have eT := setRow_heap _ _ _ #[.int .i64 T.r, .int .u64 T.c, .string T.t, .int .i64 T.ph, .int .i64 T.p.k, .int .i64 T.p.f, .int .u64 T.p.c, .string T.p.t, .bool T.p.b] _ _ (heap_new (w := w8) (o := .cells #[.int .i64 0, .int .u64 0, .string { data := #[] }, .int .i64 0, .int .i64 0, .int .i64 0, .int .u64 0, .string { data := #[] }, .bool false] 26) rfl)
  generalize World.setRow _ _ _ = w9 at eX eT ⊢
  have eX7 := hx8.trans eX
  have t9 := heap_ext HT7.out eX7
  have hc9 := fun j => cell_of_row w9 _ j _ _ _ eT
  have hd9 := fun j => cell_of_row w9 _ j _ _ _ t9
  have l9 : w8.heap.size < w9.heap.size := (Array.getElem?_eq_some_iff.1 eT).1
  have m9 : w6.heap.size < w9.heap.size := (Array.getElem?_eq_some_iff.1 t9).1
  have HX9 := Lib.hid (HX7.out.trans eX7)
  have ra := Row.of_own (own_ext HV7.out eX7)
  have rb := Row.of_own (own_ext hv8 eX)
  have rc := Row.ext HO7.out eX7
  have RA := Lib.hid ra
  have RB := Lib.hid rb
  have RC := Lib.hid rc
  clear eX7 t9 eX eT hx8 hv8 ra rb rc hT hc7 l7 HX7 HT7 HV7 HO7
  unfold Hd
  go_wp2_with fail
  refine (outs_eq _ _ O _ RA.out RB.out).mono ?_
  rintro e wa ⟨rfl, hxa⟩
  go_wp2_with fail
  refine (same_eq _ _ L _ (RC.out.ext hxa) (HR.out.ext (HX9.out.trans hxa))).mono ?_
  rintro e wb ⟨rfl, hxb⟩
  go_wp2_with fail
  refine (live_any _).mono ?_
  rintro e wc ⟨rfl, hxc⟩
  go_wp2_with fail
  go_ret
  exact ⟨rfl, ((HX9.out.trans hxa).trans hxb).trans hxc⟩

theorem runs_any (r c : Int) (t : ByteArray) (ph k f c2 : Int) (t2 : ByteArray) (fk : Bool) (v : Value) (L : List Ev) (w : World) (hR : Row w 8 v L.length (L.flatMap Ev.cs)) (hnil : v = .slice none 0 0 ∨ ∃ a n c, v = .slice (some a) n c) (hsz : ∀ e ∈ L, e.t.size ≤ 1048576 ∧ e.l.t.size ≤ 1048576) :
    Calls Try.prog 6 #[.agg #[.int .i64 r, .int .u64 c, .string t, .int .i64 ph, .int .i64 k, .int .i64 f, .int .u64 c2, .string t2, .bool fk], v] w fun e w' => e = .returned (.bool true) ∧ Ext w w' := by
  by_cases ht : (t.size : Int) ≤ 6000
  · cases hl : longS L
    · exact runs_loop r c t ph k f c2 t2 fk v L w hR hnil hsz ht hl
    · have HL := Lib.hid hl
      have HR := Lib.hid hR
      have HS := Lib.hid hsz
      clear hl hR hsz hnil
      go_enter Try.func6, Try.ntmps6
      go_wp2_with fail
      refine (long_any _ L _ (HR.out.ext ((Ext.refl _).alloc _)) HS.out).mono ?_
      rintro e w1 ⟨rfl, hx1⟩
      rw [HL.out]
      go_wp2_with fail
      refine (live_any _).mono ?_
      rintro e w9 ⟨rfl, hx9⟩
      go_wp2_with fail
      go_ret
      exact ⟨rfl, (((Ext.refl _).alloc _).trans hx1).trans hx9⟩
  · have ht' : (6000 : Int) < (t.size : Int) := by omega
    clear hR hsz ht hnil
    go_enter Try.func6, Try.ntmps6
    go_wp2_with fail
    refine (live_any _).mono ?_
    rintro e w9 ⟨rfl, hx9⟩
    go_wp2_with fail
    go_ret
    exact ⟨rfl, ((Ext.refl _).alloc _).trans hx9⟩
end Go.Proofs.Ytnfehccnofhmnaa

/-
  The arguments of the statements, opened: a letter, a state, an event; a slice of events. No condition.
-/
namespace Go.Proofs.Ytnfehccnofhmnaa
open Go.ChangeShapes Go.WideShapes Go.ChangeAt Go.RowKit Go.Deep

theorem cells_int : Try.prog.cellsOf 3 = 1 := by kernel_rfl
theorem cells_u64 : Try.prog.cellsOf 22 = 1 := by kernel_rfl
theorem cells_str : Try.prog.cellsOf 9 = 1 := by kernel_rfl
theorem cells_bool : Try.prog.cellsOf 4 = 1 := by kernel_rfl
theorem cells_letter : Try.prog.cellsOf 24 = 5 := by kernel_rfl
theorem cells_state : Try.prog.cellsOf 26 = 9 := by kernel_rfl
theorem cells_event : Try.prog.cellsOf 28 = 8 := by kernel_rfl

section
variable {H : Type} {enc : TypeId × Value → H} {w : World} {base : Nat} {spare : Nat → Bool} {held : Bool}

def Lt.data (l : Lt) : DataW H := .agg [.lit (.int .i64 l.k), .lit (.int .i64 l.f), .lit (.int .u64 l.c), .lit (.string l.t.data.toList), .lit (.bool l.b)]
def St.data (s : St) : DataW H := .agg [.lit (.int .i64 s.r), .lit (.int .u64 s.c), .lit (.string s.t.data.toList), .lit (.int .i64 s.ph), s.p.data]
def Ev.data (e : Ev) : DataW H := .agg [.lit (.int .i64 e.k), .lit (.int .u64 e.c), .lit (.string e.t.data.toList), e.l.data]

theorem open_letter {fuel : Nat} {cs : List Value} {x : DataW H × List MemPlace} (h : DataW.trod enc Try.prog w base spare held fuel 24 cs = some x) : ∃ l : Lt, cs = l.cs ∧ x = (l.data, []) := by
  obtain ⟨xs, n, _, hx, hl, hlen, hf⟩ := DataW.trod_struct Try.underlying24 h
  have hl5 : cs.length = 5 := hl.trans cells_letter
  match cs, hl5, xs, hlen with
  | [c0, c1, c2, c3, c4], _, [y0, y1, y2, y3, y4], _ =>
    have g0 := hf 0 _ rfl
    have g1 := hf 1 _ rfl
    have g2 := hf 2 _ rfl
    have g3 := hf 3 _ rfl
    have g4 := hf 4 _ rfl
    simp [cells_int, cells_u64, cells_str, cells_bool] at g0 g1 g2 g3 g4
    obtain ⟨k, e0, rfl, _⟩ := DataW.trod_int Try.underlying3 g0
    obtain ⟨f, e1, rfl, _⟩ := DataW.trod_int Try.underlying3 g1
    obtain ⟨c, e2, rfl, _⟩ := DataW.trod_int Try.underlying22 g2
    obtain ⟨t, e3, rfl, _⟩ := DataW.trod_string Try.underlying9 g3
    obtain ⟨b, e4, rfl⟩ := DataW.trod_bool Try.underlying4 g4
    simp only [List.cons.injEq, and_true] at e0 e1 e2 e3 e4
    subst e0 e1 e2 e3 e4
    exact ⟨⟨k, f, c, t, b⟩, rfl, by rw [hx]; rfl⟩

theorem open_state {fuel : Nat} {cs : List Value} {x : DataW H × List MemPlace} (h : DataW.trod enc Try.prog w base spare held fuel 26 cs = some x) : ∃ s : St, cs = s.cs ∧ x = (s.data, []) := by
  obtain ⟨xs, n, _, hx, hl, hlen, hf⟩ := DataW.trod_struct Try.underlying26 h
  have hl9 : cs.length = 9 := hl.trans cells_state
  match cs, hl9, xs, hlen with
  | [c0, c1, c2, c3, c4, c5, c6, c7, c8], _, [y0, y1, y2, y3, y4], _ =>
    have g0 := hf 0 _ rfl
    have g1 := hf 1 _ rfl
    have g2 := hf 2 _ rfl
    have g3 := hf 3 _ rfl
    have g4 := hf 4 _ rfl
    simp [cells_int, cells_u64, cells_str, cells_bool, cells_letter] at g0 g1 g2 g3 g4
    obtain ⟨k, e0, rfl, _⟩ := DataW.trod_int Try.underlying3 g0
    obtain ⟨c, e1, rfl, _⟩ := DataW.trod_int Try.underlying22 g1
    obtain ⟨t, e2, rfl, _⟩ := DataW.trod_string Try.underlying9 g2
    obtain ⟨f, e3, rfl, _⟩ := DataW.trod_int Try.underlying3 g3
    obtain ⟨l, e4, rfl⟩ := open_letter g4
    simp only [List.cons.injEq, and_true, Lt.cs] at e0 e1 e2 e3 e4
    obtain ⟨e5, e6, e7, e8, e9⟩ := e4
    subst e0 e1 e2 e3 e5 e6 e7 e8 e9
    exact ⟨⟨k, c, t, f, l⟩, rfl, by rw [hx]; rfl⟩

theorem open_event {fuel : Nat} {cs : List Value} {x : DataW H × List MemPlace} (h : DataW.trod enc Try.prog w base spare held fuel 28 cs = some x) : ∃ s : Ev, cs = s.cs ∧ x = (s.data, []) := by
  obtain ⟨xs, n, _, hx, hl, hlen, hf⟩ := DataW.trod_struct Try.underlying28 h
  have hl8 : cs.length = 8 := hl.trans cells_event
  match cs, hl8, xs, hlen with
  | [c0, c1, c2, c3, c4, c5, c6, c7], _, [y0, y1, y2, y3], _ =>
    have g0 := hf 0 _ rfl
    have g1 := hf 1 _ rfl
    have g2 := hf 2 _ rfl
    have g3 := hf 3 _ rfl
    simp [cells_int, cells_u64, cells_str, cells_bool, cells_letter] at g0 g1 g2 g3
    obtain ⟨k, e0, rfl, _⟩ := DataW.trod_int Try.underlying3 g0
    obtain ⟨c, e1, rfl, _⟩ := DataW.trod_int Try.underlying22 g1
    obtain ⟨t, e2, rfl, _⟩ := DataW.trod_string Try.underlying9 g2
    obtain ⟨l, e4, rfl⟩ := open_letter g3
    simp only [List.cons.injEq, and_true, Lt.cs] at e0 e1 e2 e4
    obtain ⟨e5, e6, e7, e8, e9⟩ := e4
    subst e0 e1 e2 e5 e6 e7 e8 e9
    exact ⟨⟨k, c, t, l⟩, rfl, by rw [hx]; rfl⟩

/-- What a slice of events reads as. -/
def evsData (L : List Ev) (sp : List (DataW H)) : Bool → DataW H
  | true => .nil
  | false => .slice (L.map Ev.data) sp

theorem Ev.cs_len (e : Ev) : e.cs.length = 8 := rfl

theorem flat_len : ∀ L : List Ev, (L.flatMap Ev.cs).length = L.length * 8
  | [] => rfl
  | y :: L => by rw [List.flatMap_cons, List.length_append, flat_len L, Ev.cs_len, List.length_cons]; omega

theorem flat_at {L : List Ev} {j : Nat} {u : Value} (h : (L.flatMap Ev.cs)[j]? = some u) : ∃ x, L[j / 8]? = some x ∧ x.cs[j % 8]? = some u := by
  have hlen := flat_len L
  have hj : j < L.length * 8 := by rw [← hlen]; exact (List.getElem?_eq_some_iff.1 h).1
  have hk : j / 8 < L.length := by omega
  refine ⟨_, List.getElem?_eq_getElem hk, ?_⟩
  have := flat_get Ev.cs 8 (fun _ => rfl) L (j / 8) _ (List.getElem?_eq_getElem hk) (j % 8) (by omega)
  rw [show j / 8 * 8 + j % 8 = j by omega, h] at this
  exact this.symm

theorem open_events {fuel : Nat} {cs : List Value} {x : DataW H × List MemPlace} (h : DataW.trod enc Try.prog w base spare held fuel 30 cs = some x) :
    ∃ (v : Value) (L : List Ev) (sp : List (DataW H)) (b : Bool), cs = [v] ∧ x.1 = evsData L sp b ∧ (b = true → L = []) ∧ Row w 8 v L.length (L.flatMap Ev.cs) := by
  rcases open_slice Try.underlying30 h with ⟨h1, h2⟩ | ⟨a, len, cap, m, n, D, Pl, h1, _, h3, h4, hm, h5, h6⟩
  · exact ⟨_, [], [], true, h1, by rw [h2]; rfl, fun _ => rfl, rfl, .inl ⟨rfl, none, 0, rfl⟩⟩
  · have hlm : len ≤ m := by rw [hm]; split <;> omega
    have key : ∀ i, i < len → ∃ e : Ev, D i = e.data ∧ ∀ j u, e.cs[j]? = some u → w.cell? ((a.add (i * 8)).add j) = some u := fun i hi => by
      obtain ⟨cs', hc, ht⟩ := h6 i (by omega)
      rw [cells_event] at hc
      obtain ⟨e, rfl, he⟩ := open_event ht
      obtain ⟨_, hlen, hcell⟩ := World.cells?_some hc
      simp only [Prod.mk.injEq] at he
      refine ⟨e, he.1, fun j u hj => ?_⟩
      have : j < 8 := by have := (List.getElem?_eq_some_iff.1 hj).1; simpa [Ev.cs] using this
      rw [hcell j this]; exact hj
    have hE : ∃ E : Nat → Ev, ∀ i, i < len → D i = (E i).data ∧ ∀ j u, (E i).cs[j]? = some u → w.cell? ((a.add (i * 8)).add j) = some u :=
      ⟨fun i => if hi : i < len then (key i hi).choose else ⟨0, 0, { data := #[] }, l0⟩, fun i hi => by simp only [hi, dif_pos]; exact (key i hi).choose_spec⟩
    obtain ⟨E, hE⟩ := hE
    refine ⟨_, (List.range len).map E, (List.range (m - len)).map fun j => D (len + j), false, h1, ?_, by simp, ?_⟩
    · rw [h5]
      simp only [evsData, List.map_map]
      congr 1
      exact List.map_congr_left fun i hi => (hE i (by simpa using hi)).1
    · have hln : ((List.range len).map E).length = len := by simp
      rw [hln]
      refine ⟨by rw [flat_len, hln], ?_⟩
      by_cases h0 : len = 0
      · exact .inl ⟨h0, _, _, by rw [h0]⟩
      · obtain ⟨b, off, spot⟩ := a
        have hs : spot = none := by
          have := (hE 0 (by omega)).2 0 _ rfl
          simpa [Addr.add] using World.cell?_spot this
        subst hs
        refine .inr ⟨b, off, cap, rfl, by omega, fun j u hj => ?_⟩
        obtain ⟨e, he, hu⟩ := flat_at hj
        have hk : j / 8 < len := by have := (List.getElem?_eq_some_iff.1 he).1; simpa using this
        rw [List.getElem?_map, List.getElem?_range hk] at he
        simp only [Option.map_some, Option.some.injEq] at he
        subst he
        have := (hE (j / 8) hk).2 _ u hu
        rw [Go.WideShapes.add_plain, Go.WideShapes.add_plain, Nat.add_assoc, show j / 8 * 8 + j % 8 = j by omega] at this
        exact this
end
end Go.Proofs.Ytnfehccnofhmnaa

/-
  The row's last step, for a call that only extends the world. What a small bulk says of the strings of a list of events. No condition.
-/
namespace Go.Proofs.Ytnfehccnofhmnaa
open Go.ChangeShapes Go.WideShapes Go.ChangeAt Go.RowKit

theorem prog_own : ownKnob Try.prog.godebug = none := by kernel_rfl
theorem prog_laid : laidOutB Try.prog = true := by kernel_rfl

section
variable {H : Type} {enc : TypeId × Value → H} {P : Program}
/-- Behind a call that extends the world and hands back what the specification says, each argument reads as it did. -/
theorem post_ext {f : Func} {s : ChangeSpec} {apart fresh handsOn again : Bool} {W W' : World} {args : Array Value} {v : Value} {ds gs : List (DataW H)} {before pa pv : List MemPlace}
    (hW : DataW.Whole enc P f.params.toList s.vars apart W args.toList ds gs before)
    (hres : ∀ (b : Nat) (sp : Nat → Bool) (hd : Bool), DataW.TrodAll enc P W' b sp hd f.resultTypes.toList (v.resultList f.resultTypes.size) (s.fn H (ds ++ gs)).results [])
    (hargs : ∀ sp : Nat → Bool, (∀ p ∈ before, sp p.block = true) → DataW.TrodAll enc P W' 0 sp true f.params.toList args.toList (s.fn H (ds ++ gs)).args pa)
    (hvars : ∀ sp : Nat → Bool, (∀ p ∈ before, sp p.block = true) → DataW.TrodVars enc P W' sp s.vars (s.fn H (ds ++ gs)).vars pv)
    (hps : before = pa ++ pv) (hb : Ext W W')
    (hok : ∀ (j : Nat) (t : TypeId) (r : Value), f.resultTypes[j]? = some t → (v.resultList f.resultTypes.size)[j]? = some r → Value.okWide P W' .any 0 t r) :
    s.post enc P f apart fresh handsOn again W args v W' := by
  have hlt : ∀ p ∈ before, p.block < W.heap.size := fun p hp => hW.lt p hp
  have hold : ∀ p ∈ before, (fun b => decide (b < W.heap.size)) p.block = true := fun p hp => by simpa using hlt p hp
  refine ⟨ds, gs, before, [], pa, pv, hW, hres _ _ _, hargs _ hold, hvars _ hold, World.keptBut_mono (fun p hp => ⟨hp, ?_⟩) (Below.frame hb (· ∈ before)), fun _ => ?_⟩
  · rw [hps, List.mem_append] at hp
    exact Or.inr hp
  · obtain ⟨_, _, _, _, _, hz, hn⟩ := hW
    refine ⟨hok, _, _, ([] ++ pa) ++ pv, ⟨[] ++ pa, pv, trodAll_append (hargs _ (fun _ _ => rfl)) (hres _ _ _), hvars _ (fun _ _ => rfl), rfl, ?_, ?_⟩, ?_⟩
    · intro b off hp
      have hin : MemPlace.cell b off ∈ before := by rw [hps]; simpa using hp
      rw [Below.frozen hb (hlt _ hin)]
      exact hz b off hin
    · intro ha
      have := hn ha
      rw [hps] at this
      simpa using this
    · intro p hp _
      rw [hps]
      simpa using hp

theorem trod_ext {t : TypeId} (hl : laidOutB P = true) (hr : P.readableRec t = true) (hrow : t < P.types.size) {W W' : World} {sp : Nat → Bool} {v : Value} {d : DataW H} {ps : List MemPlace}
    (h : DataW.Trod enc P W 0 (fun _ => true) true t v d ps) (hb : Ext W W') (hlt : ∀ x ∈ ps, x.block < W.heap.size) (hs : ∀ p ∈ ps, sp p.block = true) : DataW.Trod enc P W' 0 sp true t v d ps :=
  WideElems.Trod_stays hl hr hrow h (fun x hx => Below.same hb (hlt x hx)) hs

theorem bulk_one {d : DataW H} {l : List (DataW H)} (h : d ∈ l) : Rows.uptoBulk d ≤ Rows.uptoBulkAll l := by
  induction l with
  | nil => cases h
  | cons x r ih =>
    simp only [Rows.uptoBulkAll]
    rcases List.mem_cons.1 h with rfl | h
    · omega
    · have := ih h; omega

theorem Ev.bulk (e : Ev) : e.t.size + e.l.t.size ≤ Rows.uptoBulk (H := H) e.data := by
  simp only [Ev.data, Lt.data, Rows.uptoBulk, Rows.uptoBulkAll, Array.length_toList]
  have h1 : e.t.data.size = e.t.size := rfl
  have h2 : e.l.t.data.size = e.l.t.size := rfl
  omega

theorem evs_bulk {L : List Ev} {sp : List (DataW H)} {b : Bool} (hb : b = true → L = []) {e : Ev} (he : e ∈ L) : e.t.size + e.l.t.size ≤ Rows.uptoBulk (evsData L sp b) := by
  cases b
  · have h1 : Rows.uptoBulk (H := H) e.data ≤ Rows.uptoBulkAll (L.map Ev.data) := bulk_one (List.mem_map_of_mem he)
    have h2 := Ev.bulk (H := H) e
    simp only [evsData, Rows.uptoBulk]
    omega
  · rw [hb rfl] at he; cases he
end
end Go.Proofs.Ytnfehccnofhmnaa

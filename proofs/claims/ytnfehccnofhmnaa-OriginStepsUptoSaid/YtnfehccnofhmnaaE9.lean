/-
  An abstract machine of this place's own: append and len: in the model as here. No condition.
-/
import Derived.Test.YtnfehccnofhmnaaE8
set_option linter.all false
namespace Go.Proofs.Ytnfehccnofhmnaa
open Go.RowKit
namespace E
section ops
variable {P : Program} {X : Ctx} {fi : Fi} {N N' nm : Nat} {β : Pls} {μ : Fms} {nt : Nat} {σ σ' : St} {a : Act} {w : World} {o : Oper} {v : V}

/-- What an append finds in its source. -/
theorem src_ok (hS : SRel N β μ nt σ a w) {sz m : Nat} {x : C} {u : Value} {news : List C} (h1 : sliceCells σ sz x = some news) (h2 : lenC x = some m) (hl : news.length = m * sz) (hx : CRel β μ x u) (hm : 0 < m) (hsz : 0 < sz) :
    ∃ ad c ys, u = .slice (some ad) m c ∧ ys.length = m * sz ∧ (∀ j y, ys[j]? = some y → w.cell? (ad.add j) = some y) ∧ All2 (CRel β noF) news ys := by
  unfold sliceCells at h1
  split at h1
  · simp only [Option.some.injEq] at h1
    subst h1
    have : 0 < m * sz := Nat.mul_pos hm hsz
    simp at hl
    omega
  · rename_i b k len cap
    simp only [lenC, Option.some.injEq] at h2
    subst h2
    split at h1
    · rename_i rw' sz' cs hb
      obtain ⟨hle, rfl⟩ := rd_some h1
      obtain ⟨p, k', rc, hβ, rfl, hlc, hcr, hk, _⟩ := hx
      obtain ⟨p', g1, hps, hn, arr, el, fr, xs, hh, hwin, hall, hext, hfit, hfr⟩ := hS.heap.blk b _ hb
      rw [hβ, Option.some.injEq] at g1
      subst g1
      have hk' := hk (by omega)
      subst hk'
      have hxl := hall.length
      refine ⟨_, rc, (xs.drop k).take (len * sz), rfl, ?_, fun j y hj => ?_, (hall.drop k).take _⟩
      · simp only [List.length_take, List.length_drop]
        omega
      · rw [Addr.add_mid, cell_row hh]
        rw [List.getElem?_take] at hj
        split at hj
        · have := hwin (k + j) y (by simpa [List.getElem?_drop] using hj)
          simpa [Nat.add_assoc] using this
        · cases hj
    · cases h1
  · cases h1

theorem run_append_none (t ty e : TypeId) (i : TypeInfo) (ht : P.underlying t = some (.slice e)) (hi : P.info? e = some i) {s x : Value} {base : Option Addr} {n c : Nat} (hs : s = .slice base n c) (hnc : n ≤ c)
    (hx : (∃ c', x = .slice none 0 c') ∨ ∃ ad c', x = .slice (some ad) 0 c') : (Builtin.append_ #[t, t] ty #[s, x]).run P w = .ok s w := by
  subst hs
  rcases hx with ⟨c', rfl⟩ | ⟨ad, c', rfl⟩ <;> cases base <;>
    simp [Builtin.append_, run_underlying ht, Go.sizeOf, typeInfo, hi, Builtin.lenOf, hnc, Builtin.firstCells, loadCells, loadCellsFrom, storeCells]

theorem run_append_in (t ty e : TypeId) (i : TypeInfo) (ht : P.underlying t = some (.slice e)) (hi : P.info? e = some i)
    (g k sLen sCap : Nat) (el : TypeId) (cur : Array Value) (hg : w.heap[g]? = some (.cells cur el (0, 0)))
    (ad : Addr) (m c : Nat) (news : List Value) (hl : news.length = m * i.size) (hnews : ∀ j u, news[j]? = some u → w.cell? (ad.add j) = some u) (h1 : ∀ u ∈ news, u.oneCell' = true)
    (hroom : sLen + m ≤ sCap) (hfit : k + sLen * i.size + news.length ≤ cur.size) :
    (Builtin.append_ #[t, t] ty #[.slice (some ⟨g, k, none⟩) sLen sCap, .slice (some ad) m c]).run P w =
      .ok (.slice (some ⟨g, k, none⟩) (sLen + m) sCap) (w.setRow g (cur.toList.take (k + sLen * i.size) ++ news ++ cur.toList.drop (k + sLen * i.size + news.length)).toArray) := by
  have hf := run_firstCells_some (P := P) w i.size m ad m c news hl hnews
  have hst := run_storeCells_at P g (k + sLen * i.size) el news 0 cur w hg (by simpa using hfit) h1
  simp only [Nat.add_zero] at hst
  simp [Builtin.append_, run_underlying ht, Go.sizeOf, typeInfo, hi, Builtin.lenOf, hroom, hf, Addr.add_mid, hst]

theorem run_builtinOp {c : Call} {b : Builtin} (ho : o.op = .call c) (hc : c.callee = .builtin b) :
    (execOp a.eval o).run P w = (builtin b c.argTypes o.type (c.args.map fun | .const _ => true | _ => false) (c.args.map a.eval)).run P w := by
  unfold execOp
  simp only [ho, resolve, hc, Sem.run_bind, Sem.run_pure, Result.andThen_ok, invoke]
  rfl

theorem list2 {α : Type} {l : Array α} {x y : α} (h : l.toList = [x, y]) : l = #[x, y] := by
  obtain ⟨l⟩ := l
  simp at h
  subst h
  rfl

theorem op_append (hmk : makes fi o = true) (hT : TtOk P X) (hN : N ≤ N') (hnm : nm < N') (hβ : β nm = none) (hS : SRel N β μ nt σ a w) {t e : TypeId} {ti st : TI} {s x : C} {us ux : Value} {p : C × St}
    (hst : X.tt t = some st) (hd : st.desc = .slice e) (hti : X.tt e = some ti) (hs : CRel β μ s us) (hx : CRel β μ x ux) (h : appendC ti nm σ s x = some p) {ty : TypeId}
    (hrun : ∀ y w', (Builtin.append_ #[t, t] ty #[us, ux]).run P w = .ok y w' → (execOp a.eval o).run P w = .ok (.value y) w') : OpOk P fi N' nm β μ nt σ a w o (.one p.1) p.2 := by
  obtain ⟨i, hi, hsz, hby, hz, hue, hu⟩ := elem_info hT hst (.inl hd) hti
  rw [hd] at hu
  obtain ⟨z, hzv, hzs⟩ := (hT e ti hti).2
  unfold appendC at h
  split at h
  case h_2 => cases h
  rename_i news m hnews hm
  split at h
  case isFalse => cases h
  rename_i hck
  simp only [Bool.and_eq_true, decide_eq_true_eq] at hck
  obtain ⟨⟨hpos, hok⟩, hnl⟩ := hck
  have hsrc0 : m = 0 → (∃ c', ux = .slice none 0 c') ∨ ∃ ad c', ux = .slice (some ad) 0 c' := by
    intro hm0
    subst hm0
    unfold lenC at hm
    split at hm
    · rename_i n c
      simp only [Option.some.injEq] at hm
      subst hm
      exact .inl ⟨c, hx⟩
    · simp only [Option.some.injEq] at hm
      subst hm
      obtain ⟨p', k', rc, _, rfl, _⟩ := hx
      exact .inr ⟨_, _, rfl⟩
    · simp [sliceCells] at hnews
    · cases hm
  split at h
  · -- nil
    have hs' : us = .slice none 0 0 := hs
    split at h
    · rename_i hm0
      simp only [Option.some.injEq] at h
      subst h
      exact OpOk.val hN hS (hrun _ _ (run_append_none t ty e i hu hi hs' (Nat.le_refl _) (hsrc0 hm0))) hs
    · rename_i hm0
      split at h
      case isFalse => cases h
      rename_i hck
      simp only [Bool.and_eq_true, decide_eq_true_eq] at hck
      simp only [Option.some.injEq] at h
      subst h
      obtain ⟨ad, c, ys, rfl, hyl, hcell, hall⟩ := src_ok hS hnews hm hnl hx (by omega) hpos
      subst hs'
      have hr := run_append_nil (P := P) w t ty e i z hu hi (by rw [hz, hzv]) ad m c ys (by rw [hsz]; exact hyl) hcell (by omega) (by omega) (by rw [hby]; omega)
      have hge := grownCap_ge w m 0 e
      refine ?_
      let arr := ys.toArray ++ Builtin.zeroCells z.cells (grownCap w m 0 e - m)
      have harr : arr.size = grownCap w m 0 e * ti.size := by
        simp only [arr, Array.size_append, List.size_toArray, size_zeroCells, hzs, hyl, ← Nat.add_mul]
        congr 1
        omega
      have hlen := hall.length
      let q : Pl := ⟨w.heap.size, 0, arr.size, news.length, ti.size⟩
      have hB : BRel (upd β nm q) q (.row true ti.size news) (w.drew.alloc (.cells arr e)) :=
        ⟨rfl, rfl, arr, e, (0, 0), ys, alloc_new w.drew _, fun j y hj => by
          have hj' : j < ys.length := (List.getElem?_eq_some_iff.1 hj).1
          simp only [arr, q, Nat.zero_add]
          rw [Array.getElem?_append_left (by simpa using hj')]
          simpa using hj, hall.mono fun _ _ _ => CRel.up (upd_ext q hβ) fun _ _ _ h => h, rfl, by show 0 + news.length ≤ arr.size; rw [harr]; have := Nat.mul_le_mul_right ti.size hge; omega, fun _ => rfl⟩
      have hS' := hS.make (N' := N') (w' := w.drew.alloc (.cells arr e)) hN hnm hβ (p := q) (x1 := .row true ti.size news) (fun r hr _ => alloc_old w.drew _ r hr)
        (fun b x q' hb hq => by obtain ⟨q2, g1, g2⟩ := hS.heap.blk b x hb; rw [hq, Option.some.injEq] at g1; subst g1; exact Nat.ne_of_lt g2.lt)
        (fun u ds hu he => by obtain ⟨r, g1, g2⟩ := hS.box u ds hu; rw [he, Option.some.injEq] at g1; subst g1; exact absurd g2.lt (Nat.lt_irrefl _)) hB
      refine ⟨_, _, _, upd β nm q, μ, hrun _ _ hr, .inl rfl, ⟨q, 0, grownCap w m 0 e, upd_same β nm q, rfl, Nat.le_refl _, hge, fun _ => rfl, .inr ⟨hpos, by simp only [Nat.zero_add]; exact hnl.symm, ?_⟩⟩, hS', Step.make (w := w) (w' := w.drew.alloc (.cells arr e)) ⟨rfl, rfl, rfl, by simp⟩ hβ (Nat.le_refl _) (fun k hk => alloc_old w.drew _ k hk), fun b hb => upd_other β q (hb.resolve_right (by rw [hmk]; simp)), fun _ _ => rfl, rfl⟩
      show 0 + 0 + grownCap w m 0 e * ti.size ≤ arr.size
      omega
  · rename_i b k len cap
    obtain ⟨pb, k', rc, hβb, rfl, hlc, hcr, hk, hgrow⟩ := hs
    split at h
    case h_2 => cases h
    rename_i sz cs hb
    obtain ⟨pb', g1, hps, hn, arr, el, fr, xs, hh, hwin, hallb, hext, hfit, hfr⟩ := hS.heap.blk b _ hb
    rw [hβb, Option.some.injEq] at g1
    subst g1
    obtain rfl := hfr rfl
    have hxl := hallb.length
    split at h
    · rename_i hm0
      simp only [Option.some.injEq] at h
      subst h
      exact OpOk.val hN hS (hrun _ _ (run_append_none t ty e i hu hi rfl (by omega) (hsrc0 hm0))) ⟨pb, k', rc, hβb, rfl, hlc, hcr, hk, hgrow⟩
    · rename_i hm0
      obtain ⟨ad, c, ys, rfl, hyl, hcell, hall⟩ := src_ok hS hnews hm hnl hx (by omega) hpos
      have hlen := hall.length
      have h1 : ∀ y ∈ ys, y.oneCell' = true := all2_oneCell hok hall
      split at h
      · -- in place
        rename_i hroom
        simp only [Option.map_eq_some_iff] at h
        obtain ⟨ds, hw, rfl⟩ := h
        obtain ⟨hle, rfl⟩ := wr_some hw
        have hk' := hk (by omega)
        subst hk'
        have hr := run_append_in (P := P) (w := w) t ty e i hu hi pb.rb (pb.ro + k) len rc el arr hh ad m c ys (by rw [hsz]; exact hyl) hcell h1 (by omega) (by rw [hsz]; omega)
        rw [hsz] at hr
        refine ⟨_, _, _, β, μ, hrun _ _ hr, .inl rfl, ⟨pb, pb.ro + k, rc, hβb, rfl, hroom, by omega, fun _ => rfl, hgrow⟩, ?_, Step.write (same_setRow w _ _) hb rfl hβb (fun q _ hq => setRow_other w pb.rb q _ hq), fun _ _ => rfl, fun _ _ => rfl, rfl⟩
        refine (hS.write (x1 := .row true sz _) hb rfl hβb (fun q _ hq => setRow_other w pb.rb q _ hq) ?_).wider hN
        refine ⟨hps, ?_, _, el, (0, 0), xs.take (k + len * ti.size) ++ (ys ++ xs.drop (k + len * ti.size + ys.length)), setRow_heap w pb.rb arr _ el (0, 0) hh, ?_, all2_over hallb hall, ?_, ?_, fun _ => rfl⟩
        · rw [hn]; simp; omega
        · rw [Nat.add_assoc pb.ro k]; exact winAt_over hwin (by omega) (by omega)
        · rw [hext, size_over (by omega)]
        · rw [size_over (by omega)]; simp; omega
      · rename_i hroom
        split at h
        case isFalse => cases h
        rename_i hck
        simp only [Bool.and_eq_true, decide_eq_true_eq] at hck
        obtain ⟨⟨⟨⟨hsz', hlc'⟩, hend⟩, h63⟩, hbb⟩ := hck
        simp only [Option.map_eq_some_iff] at h
        obtain ⟨olds, ho, rfl⟩ := h
        obtain ⟨hle, rfl⟩ := rd_some ho
        subst hlc'
        subst hsz'
        have hallo : All2 (CRel β noF) ((cs.drop k).take (len * ti.size)) ((xs.drop k).take (len * ti.size)) := (hallb.drop k).take _
        have holen : ((xs.drop k).take (len * ti.size)).length = len * ti.size := by simp; omega
        have hollen : ((cs.drop k).take (len * ti.size)).length = len * ti.size := by simp; omega
        by_cases hin : len + m ≤ rc
        · -- in the spare room
          have hk' := hk (by omega)
          subst hk'
          rcases hgrow with hg | ⟨hp0, hp1, hp2⟩
          · omega
          have hspare : pb.ro + k + (len + m) * ti.size ≤ arr.size := by
            have := Nat.mul_le_mul_right ti.size hin
            rw [hps] at hp2
            omega
          have hr := run_append_in (P := P) (w := w) t ty e i hu hi pb.rb (pb.ro + k) len rc el arr hh ad m c ys (by rw [hsz]; exact hyl) hcell h1 hin (by rw [hsz, hyl, Nat.add_assoc, ← Nat.add_mul]; exact hspare)
          rw [hsz] at hr
          let q : Pl := ⟨pb.rb, pb.ro + k, arr.size, (len + m) * ti.size, ti.size⟩
          have hext' : ∀ b p, β b = some p → upd β nm q b = some p := upd_ext q hβ
          have hch : ∀ r, r < w.heap.size → r ≠ pb.rb → (w.setRow pb.rb (arr.toList.take (pb.ro + k + len * ti.size) ++ ys ++ arr.toList.drop (pb.ro + k + len * ti.size + ys.length)).toArray).heap[r]? = w.heap[r]? := fun r _ hr => setRow_other w pb.rb r _ hr
          have hB : BRel (upd β nm q) q (.row true ti.size ((cs.drop k).take (len * ti.size) ++ news)) (w.setRow pb.rb (arr.toList.take (pb.ro + k + len * ti.size) ++ ys ++ arr.toList.drop (pb.ro + k + len * ti.size + ys.length)).toArray) := by
            refine ⟨rfl, ?_, _, el, (0, 0), (xs.drop k).take (len * ti.size) ++ ys, setRow_heap w pb.rb arr _ el (0, 0) hh, ?_, ?_, ?_, ?_, fun _ => rfl⟩
            · simp only [q, List.length_append, hollen, hnl, Nat.add_mul]
            · intro j y hj
              show _[pb.ro + k + j]? = _
              simp only [List.getElem?_toArray]
              rcases Nat.lt_or_ge j (len * ti.size) with h2 | h2
              · rw [List.append_assoc, List.getElem?_append_left (by simp; omega), List.getElem?_take, if_pos (by omega)]
                rw [List.getElem?_append_left (by omega), List.getElem?_take, if_pos h2, List.getElem?_drop] at hj
                have := hwin (k + j) y hj
                simpa [Nat.add_assoc] using this
              · rw [List.getElem?_append_right (by omega), holen] at hj
                have h3 : j - len * ti.size < ys.length := (List.getElem?_eq_some_iff.1 hj).1
                have e2 : (arr.toList.take (pb.ro + k + len * ti.size)).length = pb.ro + k + len * ti.size := by simp; omega
                rw [List.append_assoc, List.getElem?_append_right (by omega), e2, List.getElem?_append_left (by omega), show pb.ro + k + j - (pb.ro + k + len * ti.size) = j - len * ti.size by omega]
                exact hj
            · exact (hallo.append hall).mono fun _ _ _ => CRel.up hext' fun _ _ _ h => h
            · show arr.size = _
              rw [size_over (by rw [hyl, Nat.add_assoc, ← Nat.add_mul]; exact hspare)]
            · show pb.ro + k + _ ≤ _
              rw [size_over (by rw [hyl, Nat.add_assoc, ← Nat.add_mul]; exact hspare), List.length_append, hollen, hnl, ← Nat.add_mul]
              exact hspare
          have hfree : ∀ b' x q', (σ.h.del b).get b' = some x → β b' = some q' → q'.rb ≠ pb.rb := fun b' x q' hb' hq' => by
            rw [Heap.get_del] at hb'
            split at hb'
            · cases hb'
            · rename_i hne
              exact Ne.symm (hS.heap.apart b b' _ x pb q' hne hb hb' hβb hq' rfl)
          have hS' := (hS.del b).make (N' := N') hN hnm hβ (p := q) (x1 := .row true ti.size ((cs.drop k).take (len * ti.size) ++ news)) hch hfree (fun u ds hu he => hS.hap u ds b _ pb hu hb hβb he) hB
          refine ⟨_, _, _, upd β nm q, μ, hrun _ _ hr, .inl rfl, ⟨q, pb.ro + k, rc, upd_same β nm q, rfl, Nat.le_refl _, hin, fun _ => rfl, .inr ⟨hpos, ?_, ?_⟩⟩, hS', Step.move (same_setRow w _ _) hb rfl hβb hβ rfl hch, fun b hb => upd_other β q (hb.resolve_right (by rw [hmk]; simp)), fun _ _ => rfl, rfl⟩
          · show 0 + (len + m) * ti.size = (len + m) * ti.size
            omega
          · show pb.ro + k + 0 + rc * ti.size ≤ arr.size
            rw [hps] at hp2
            omega
        · -- a new row
          have holds : ∀ j y, ((xs.drop k).take (len * ti.size))[j]? = some y → w.cell? ((⟨pb.rb, k', none⟩ : Addr).add j) = some y := fun j y hj => by
            rw [List.getElem?_take] at hj
            split at hj
            · rename_i hjl
              have hl0 : 0 < len := by
                rcases Nat.eq_zero_or_pos len with h0 | h0
                · subst h0; simp at hjl
                · exact h0
              have hk' := hk (by omega)
              subst hk'
              rw [Addr.add_mid, cell_row hh]
              have := hwin (k + j) y (by simpa [List.getElem?_drop] using hj)
              simpa [Nat.add_assoc] using this
            · cases hj
          have hr := run_append_grow (P := P) w t ty e i z hu hi (by rw [hz, hzv]) ⟨pb.rb, k', none⟩ len rc ((xs.drop k).take (len * ti.size)) (by rw [hsz]; exact holen) holds ad m c ys (by rw [hsz]; exact hyl) hcell (by omega) (by omega)
            (growslice_fits (by omega) (by rw [hby]; exact hbb))
          have hge := grownCap_ge w (len + m) rc e
          let arr' := ((xs.drop k).take (len * ti.size)).toArray ++ ys.toArray ++ Builtin.zeroCells z.cells (grownCap w (len + m) rc e - (len + m))
          have harr : arr'.size = grownCap w (len + m) rc e * ti.size := by
            simp only [arr', Array.size_append, List.size_toArray, size_zeroCells, hzs, hyl, holen, ← Nat.add_mul]
            congr 1
            omega
          let q : Pl := ⟨w.heap.size, 0, arr'.size, (len + m) * ti.size, ti.size⟩
          have hB : BRel (upd β nm q) q (.row true ti.size ((cs.drop k).take (len * ti.size) ++ news)) (w.drew.alloc (.cells arr' e)) := by
            refine ⟨rfl, ?_, arr', e, (0, 0), (xs.drop k).take (len * ti.size) ++ ys, alloc_new w.drew _, ?_, ?_, rfl, ?_, fun _ => rfl⟩
            · simp only [q, List.length_append, hollen, hnl, Nat.add_mul]
            · intro j y hj
              have hj' := (List.getElem?_eq_some_iff.1 hj).1
              simp only [arr', q, Nat.zero_add]
              rw [Array.getElem?_append_left (by simpa using hj')]
              simpa using hj
            · exact (hallo.append hall).mono fun _ _ _ => CRel.up (upd_ext q hβ) fun _ _ _ h => h
            · show 0 + _ ≤ arr'.size
              rw [harr, List.length_append, hollen, hnl, ← Nat.add_mul, Nat.zero_add]
              exact Nat.mul_le_mul_right _ hge
          have hfresh : ∀ b' x q', (σ.h.del b).get b' = some x → β b' = some q' → q'.rb ≠ w.heap.size := fun b' x q' hb' hq' => by
            obtain ⟨q2, g1, g2⟩ := (hS.del b).heap.blk b' x hb'
            rw [hq', Option.some.injEq] at g1
            subst g1
            exact Nat.ne_of_lt g2.lt
          have hS' := (hS.del b).make (N' := N') (w' := w.drew.alloc (.cells arr' e)) hN hnm hβ (p := q) (x1 := .row true ti.size ((cs.drop k).take (len * ti.size) ++ news)) (fun r hr _ => alloc_old w.drew _ r hr) hfresh
            (fun u ds hu he => by obtain ⟨r, g1, g2⟩ := hS.box u ds hu; rw [he, Option.some.injEq] at g1; subst g1; exact absurd g2.lt (Nat.lt_irrefl _)) hB
          refine ⟨_, _, _, upd β nm q, μ, hrun _ _ hr, .inl rfl, ⟨q, 0, grownCap w (len + m) rc e, upd_same β nm q, rfl, Nat.le_refl _, hge, fun _ => rfl, .inr ⟨hpos, ?_, ?_⟩⟩, hS',
            (Step.del β μ σ w b).trans (Step.make (w := w) (w' := w.drew.alloc (.cells arr' e)) ⟨rfl, rfl, rfl, by simp⟩ hβ (Nat.le_refl _) (fun k hk => alloc_old w.drew _ k hk)), fun b hb => upd_other β q (hb.resolve_right (by rw [hmk]; simp)), fun _ _ => rfl, rfl⟩
          · show 0 + (len + m) * ti.size = (len + m) * ti.size
            omega
          · show 0 + 0 + grownCap w (len + m) rc e * ti.size ≤ arr'.size
            omega
  · cases h

theorem entries_ok (hS : SRel N β μ nt σ a w) {c : C} {es : List (Value × V × Nat)} {x : Value} (h : entriesOf σ c = some es) (hx : CRel β μ c x) :
    (x = .map none ∧ es = []) ∨ ∃ r arr clock, x = .map (some r) ∧ w.heap[r]? = some (.map arr clock) ∧ All2 (ERel β) es arr.toList := by
  unfold entriesOf at h
  split at h
  · simp only [Option.some.injEq] at h
    exact .inl ⟨hx, h.symm⟩
  · rename_i b
    split at h
    · rename_i es' clock hb
      simp only [Option.some.injEq] at h
      subst h
      obtain ⟨p, hβ, rfl⟩ := hx
      obtain ⟨p', g1, _, arr, h1, h2⟩ := hS.heap.blk b _ hb
      rw [hβ, Option.some.injEq] at g1
      subst g1
      exact .inr ⟨p.rb, arr, clock, rfl, h1, h2⟩
    · cases h
  · cases h

theorem run_getMap {r : Nat} {arr : Array MapEntry} {clock : Nat} (h : w.heap[r]? = some (.map arr clock)) : (getObj r).run P w = .ok (.map arr clock) w := by
  simp [getObj, Sem.run, h]

theorem op_len (hT : TtOk P X) (hN : N ≤ N') (hS : SRel N β μ nt σ a w) {ts : Array TypeId} {c : C} {x : Value} {vs : List V} (hvs : vs = [.one c]) (hx : CRel β μ c x)
    (h : builtinE X nm σ .len ts.toList vs = some (v, σ')) {ty : TypeId} (hrun : ∀ y w', (Builtin.len_ ts ty #[x]).run P w = .ok y w' → (execOp a.eval o).run P w = .ok (.value y) w') : OpOk P fi N' nm β μ nt σ a w o v σ' := by
  subst hvs
  obtain ⟨ts⟩ := ts
  cases ts with
  | nil => simp [builtinE] at h
  | cons t rest =>
    simp only [builtinE] at h
    split at h
    case h_2 => cases h
    rename_i ti hti
    obtain ⟨i, hi, hs, hb, hz, hu⟩ := tt_info hT hti
    split at h
    · rename_i k e hd
      rw [hd] at hu
      simp only [Option.map_eq_some_iff, Prod.mk.injEq] at h
      obtain ⟨es, h1, rfl, rfl⟩ := h
      refine OpOk.val hN hS (x := .int .i64 es.length) (hrun _ _ ?_) rfl
      rcases entries_ok hS h1 hx with ⟨rfl, rfl⟩ | ⟨r, arr, clock, rfl, h2, h3⟩
      · simp [Builtin.len_, run_underlying hu, goInt]
      · have := h3.length
        simp at this
        simp [Builtin.len_, run_underlying hu, goInt, run_getMap h2, this]
    · rename_i n e hd
      rw [hd] at hu
      simp only [Option.some.injEq, Prod.mk.injEq] at h
      obtain ⟨rfl, rfl⟩ := h
      refine OpOk.val hN hS (x := .int .i64 n) (hrun _ _ ?_) rfl
      simp [Builtin.len_, run_underlying hu, goInt]
    · rename_i e hd
      rw [hd] at hu
      split at h
      · cases h
      · rename_i hns
        simp only [Option.map_eq_some_iff, Prod.mk.injEq] at h
        obtain ⟨n, h1, rfl, rfl⟩ := h
        refine OpOk.val hN hS (x := .int .i64 n) (hrun _ _ ?_) rfl
        unfold lenC at h1
        split at h1
        · rename_i m k
          simp only [Option.some.injEq] at h1
          subst h1
          have hx' : x = .slice none m k := hx
          subst hx'
          simp [Builtin.len_, run_underlying hu, goInt]
        · simp only [Option.some.injEq] at h1
          subst h1
          obtain ⟨p, k', rc, hβ, rfl, _⟩ := hx
          simp [Builtin.len_, run_underlying hu, goInt]
        · rename_i s
          exact absurd rfl (hns s)
        · cases h1
    · rename_i hd
      rw [hd] at hu
      split at h
      · rename_i s
        simp only [Option.some.injEq, Prod.mk.injEq] at h
        obtain ⟨rfl, rfl⟩ := h
        have hx' : x = .string s := hx
        subst hx'
        refine OpOk.val hN hS (x := .int .i64 s.data.toList.length) (hrun _ _ ?_) rfl
        simp only [Builtin.len_]
        simp [run_underlying hu, goInt]
      · cases h
    · cases h
end ops
end E
end Go.Proofs.Ytnfehccnofhmnaa

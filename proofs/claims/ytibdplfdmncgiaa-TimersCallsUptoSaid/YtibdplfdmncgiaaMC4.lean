/-
  An abstract machine of this place's own: append and len: in the model as here. No condition.
-/
import Derived.Test.YtibdplfdmncgiaaMC3
set_option linter.all false
namespace Go.Proofs.Ytibdplfdmncgiaa
open Go.RowKit
namespace E
section ops
variable {P : Program} {X : Ctx} {fi : Fi} {N N' nm : Nat} {β : Pls} {μ : Fms} {nt : Nat} {σ σ' : St} {a : Act} {w : World} {o : Oper} {v : V}

/-- What an append finds in its source. -/
theorem src_ok (hS : SRel N β μ nt σ a w) {sz m : Nat} {x : C} {u : Value} {news : List C} (h1 : sliceCells σ sz x = some news) (h2 : lenC x = some m) (hl : news.length = m * sz) (hx : CRel β μ x u) (hm : 0 < m) (hsz : 0 < sz) :
    ∃ ad c ys, u = .slice (some ad) m c ∧ ys.length = m * sz ∧ (∀ j y, ys[j]? = some y → w.cell? (ad.add j) = some y) ∧ All2 (CRel β noF) news ys := by
  unfold sliceCells at h1
  split at h1
  · simp only [Option.some.injEq] at h1
    subst h1
    have : 0 < m * sz := Nat.mul_pos hm hsz
    simp at hl
    omega
  · rename_i b k len cap
    simp only [lenC, Option.some.injEq] at h2
    subst h2
    split at h1
    · rename_i rw' sz' cs hb
      obtain ⟨hle, rfl⟩ := rd_some h1
      obtain ⟨p, k', rc, hβ, rfl, hlc, hcr, hk, _⟩ := hx
      obtain ⟨p', g1, hps, hn, arr, el, fr, xs, hh, hwin, hall, hext, hfit, hfr⟩ := hS.heap.blk b _ hb
      rw [hβ, Option.some.injEq] at g1
      subst g1
      have hk' := hk (by omega)
      subst hk'
      have hxl := hall.length
      refine ⟨_, rc, (xs.drop k).take (len * sz), rfl, ?_, fun j y hj => ?_, (hall.drop k).take _⟩
      · simp only [List.length_take, List.length_drop]
        omega
      · rw [Addr.add_mid, cell_row hh]
        rw [List.getElem?_take] at hj
        split at hj
        · have := hwin (k + j) y (by simpa [List.getElem?_drop] using hj)
          simpa [Nat.add_assoc] using this
        · cases hj
    · cases h1
  · cases h1

theorem run_append_none (t ty e : TypeId) (i : TypeInfo) (ht : P.underlying t = some (.slice e)) (hi : P.info? e = some i) {s x : Value} {base : Option Addr} {n c : Nat} (hs : s = .slice base n c) (hnc : n ≤ c)
    (hx : (∃ c', x = .slice none 0 c') ∨ ∃ ad c', x = .slice (some ad) 0 c') : (Builtin.append_ #[t, t] ty #[s, x]).run P w = .ok s w := by
  subst hs
  rcases hx with ⟨c', rfl⟩ | ⟨ad, c', rfl⟩ <;> cases base <;>
    simp [Builtin.append_, run_underlying ht, Go.sizeOf, typeInfo, hi, Builtin.lenOf, hnc, Builtin.firstCells, loadCells, loadCellsFrom, storeCells]

theorem run_append_in (t ty e : TypeId) (i : TypeInfo) (ht : P.underlying t = some (.slice e)) (hi : P.info? e = some i)
    (g k sLen sCap : Nat) (el : TypeId) (cur : Array Value) (hg : w.heap[g]? = some (.cells cur el (0, 0)))
    (ad : Addr) (m c : Nat) (news : List Value) (hl : news.length = m * i.size) (hnews : ∀ j u, news[j]? = some u → w.cell? (ad.add j) = some u) (h1 : ∀ u ∈ news, u.oneCell' = true)
    (hroom : sLen + m ≤ sCap) (hfit : k + sLen * i.size + news.length ≤ cur.size) :
    (Builtin.append_ #[t, t] ty #[.slice (some ⟨g, k, none⟩) sLen sCap, .slice (some ad) m c]).run P w =
      .ok (.slice (some ⟨g, k, none⟩) (sLen + m) sCap) (w.setRow g (cur.toList.take (k + sLen * i.size) ++ news ++ cur.toList.drop (k + sLen * i.size + news.length)).toArray) := by
  have hf := run_firstCells_some (P := P) w i.size m ad m c news hl hnews
  have hst := run_storeCells_at P g (k + sLen * i.size) el news 0 cur w hg (by simpa using hfit) h1
  simp only [Nat.add_zero] at hst
  simp [Builtin.append_, run_underlying ht, Go.sizeOf, typeInfo, hi, Builtin.lenOf, hroom, hf, Addr.add_mid, hst]

theorem run_builtinOp {c : Call} {b : Builtin} (ho : o.op = .call c) (hc : c.callee = .builtin b) :
    (execOp a.eval o).run P w = (builtin b c.argTypes o.type (c.args.map fun | .const _ => true | _ => false) (c.args.map a.eval)).run P w := by
  unfold execOp
  simp only [ho, resolve, hc, Sem.run_bind, Sem.run_pure, Result.andThen_ok, invoke]
  rfl

theorem list2 {α : Type} {l : Array α} {x y : α} (h : l.toList = [x, y]) : l = #[x, y] := by
  obtain ⟨l⟩ := l
  simp at h
  subst h
  rfl

theorem op_append (hmk : makes fi o = true) (hT : TtOk P X) (hN : N ≤ N') (hnm : nm < N') (hβ : β nm = none) (hS : SRel N β μ nt σ a w) {t e : TypeId} {ti st : TI} {s x : C} {us ux : Value} {p : C × St}
    (hst : X.tt t = some st) (hd : st.desc = .slice e) (hti : X.tt e = some ti) (hs : CRel β μ s us) (hx : CRel β μ x ux) (h : appendC ti nm σ s x = some p) {ty : TypeId}
    (hrun : ∀ y w', (Builtin.append_ #[t, t] ty #[us, ux]).run P w = .ok y w' → (execOp a.eval o).run P w = .ok (.value y) w') : OpOk P fi N' nm β μ nt σ a w o (.one p.1) p.2 := by
  obtain ⟨i, hi, hsz, hby, hz, hue, hu⟩ := elem_info hT hst (.inl hd) hti
  rw [hd] at hu
  obtain ⟨z, hzv, hzs⟩ := (hT e ti hti).2
  unfold appendC at h
  split at h
  case h_2 => cases h
  rename_i news m hnews hm
  split at h
  case isFalse => cases h
  rename_i hck
  simp only [Bool.and_eq_true, decide_eq_true_eq] at hck
  obtain ⟨⟨hpos, hok⟩, hnl⟩ := hck
  have hsrc0 : m = 0 → (∃ c', ux = .slice none 0 c') ∨ ∃ ad c', ux = .slice (some ad) 0 c' := by
    intro hm0
    subst hm0
    unfold lenC at hm
    split at hm
    · rename_i n c
      simp only [Option.some.injEq] at hm
      subst hm
      exact .inl ⟨c, hx⟩
    · simp only [Option.some.injEq] at hm
      subst hm
      obtain ⟨p', k', rc, _, rfl, _⟩ := hx
      exact .inr ⟨_, _, rfl⟩
    · simp [sliceCells] at hnews
    · cases hm
  split at h
  · -- nil
    have hs' : us = .slice none 0 0 := hs
    split at h
    · rename_i hm0
      simp only [Option.some.injEq] at h
      subst h
      exact OpOk.val hN hS (hrun _ _ (run_append_none t ty e i hu hi hs' (Nat.le_refl _) (hsrc0 hm0))) hs
    · rename_i hm0
      split at h
      case isFalse => cases h
      rename_i hck
      simp only [Bool.and_eq_true, decide_eq_true_eq] at hck
      simp only [Option.some.injEq] at h
      subst h
      obtain ⟨ad, c, ys, rfl, hyl, hcell, hall⟩ := src_ok hS hnews hm hnl hx (by omega) hpos
      subst hs'
      have hr := run_append_nil (P := P) w t ty e i z hu hi (by rw [hz, hzv]) ad m c ys (by rw [hsz]; exact hyl) hcell (by omega) (by omega) (by rw [hby]; omega)
      have hge := grownCap_ge w m 0 e
      refine ?_
      let arr := ys.toArray ++ Builtin.zeroCells z.cells (grownCap w m 0 e - m)
      have harr : arr.size = grownCap w m 0 e * ti.size := by
        simp only [arr, Array.size_append, List.size_toArray, size_zeroCells, hzs, hyl, ← Nat.add_mul]
        congr 1
        omega
      have hlen := hall.length
      let q : Pl := ⟨w.heap.size, 0, arr.size, news.length, ti.size⟩
      have hB : BRel (upd β nm q) q (.row true ti.size news) (w.drew.alloc (.cells arr e)) :=
        ⟨rfl, rfl, arr, e, (0, 0), ys, alloc_new w.drew _, fun j y hj => by
          have hj' : j < ys.length := (List.getElem?_eq_some_iff.1 hj).1
          simp only [arr, q, Nat.zero_add]
          rw [Array.getElem?_append_left (by simpa using hj')]
          simpa using hj, hall.mono fun _ _ _ => CRel.up (upd_ext q hβ) fun _ _ _ h => h, rfl, by show 0 + news.length ≤ arr.size; rw [harr]; have := Nat.mul_le_mul_right ti.size hge; omega, fun _ => rfl⟩
      have hS' := hS.make (N' := N') (w' := w.drew.alloc (.cells arr e)) hN hnm hβ (p := q) (x1 := .row true ti.size news) (fun r hr _ => alloc_old w.drew _ r hr)
        (fun b x q' hb hq => by obtain ⟨q2, g1, g2⟩ := hS.heap.blk b x hb; rw [hq, Option.some.injEq] at g1; subst g1; exact Nat.ne_of_lt g2.lt)
        (fun u ds hu he => by obtain ⟨r, g1, g2⟩ := hS.box u ds hu; rw [he, Option.some.injEq] at g1; subst g1; exact absurd g2.lt (Nat.lt_irrefl _)) hB
      refine ⟨_, _, _, upd β nm q, μ, hrun _ _ hr, .inl rfl, ⟨q, 0, grownCap w m 0 e, upd_same β nm q, rfl, Nat.le_refl _, hge, fun _ => rfl, .inr ⟨hpos, by simp only [Nat.zero_add]; exact hnl.symm, ?_⟩⟩, hS', Step.make (w := w) (w' := w.drew.alloc (.cells arr e)) ⟨rfl, rfl, rfl, by simp⟩ hβ (Nat.le_refl _) (fun k hk => alloc_old w.drew _ k hk), fun b hb => upd_other β q (hb.resolve_right (by rw [hmk]; simp)), fun _ _ => rfl, rfl⟩
      show 0 + 0 + grownCap w m 0 e * ti.size ≤ arr.size
      omega
  · rename_i b k len cap
    obtain ⟨pb, k', rc, hβb, rfl, hlc, hcr, hk, hgrow⟩ := hs
    split at h
    case h_2 => cases h
    rename_i sz cs hb
    obtain ⟨pb', g1, hps, hn, arr, el, fr, xs, hh, hwin, hallb, hext, hfit, hfr⟩ := hS.heap.blk b _ hb
    rw [hβb, Option.some.injEq] at g1
    subst g1
    obtain rfl := hfr rfl
    have hxl := hallb.length
    split at h
    · rename_i hm0
      simp only [Option.some.injEq] at h
      subst h
      exact OpOk.val hN hS (hrun _ _ (run_append_none t ty e i hu hi rfl (by omega) (hsrc0 hm0))) ⟨pb, k', rc, hβb, rfl, hlc, hcr, hk, hgrow⟩
    · rename_i hm0
      obtain ⟨ad, c, ys, rfl, hyl, hcell, hall⟩ := src_ok hS hnews hm hnl hx (by omega) hpos
      have hlen := hall.length
      have h1 : ∀ y ∈ ys, y.oneCell' = true := all2_oneCell hok hall
      split at h
      · -- in place
        rename_i hroom
        simp only [Option.map_eq_some_iff] at h
        obtain ⟨ds, hw, rfl⟩ := h
        obtain ⟨hle, rfl⟩ := wr_some hw
        have hk' := hk (by omega)
        subst hk'
        have hr := run_append_in (P := P) (w := w) t ty e i hu hi pb.rb (pb.ro + k) len rc el arr hh ad m c ys (by rw [hsz]; exact hyl) hcell h1 (by omega) (by rw [hsz]; omega)
        rw [hsz] at hr
        refine ⟨_, _, _, β, μ, hrun _ _ hr, .inl rfl, ⟨pb, pb.ro + k, rc, hβb, rfl, hroom, by omega, fun _ => rfl, hgrow⟩, ?_, Step.write (same_setRow w _ _) hb rfl hβb (fun q _ hq => setRow_other w pb.rb q _ hq), fun _ _ => rfl, fun _ _ => rfl, rfl⟩
        refine (hS.write (x1 := .row true sz _) hb rfl hβb (fun q _ hq => setRow_other w pb.rb q _ hq) ?_).wider hN
        refine ⟨hps, ?_, _, el, (0, 0), xs.take (k + len * ti.size) ++ (ys ++ xs.drop (k + len * ti.size + ys.length)), setRow_heap w pb.rb arr _ el (0, 0) hh, ?_, all2_over hallb hall, ?_, ?_, fun _ => rfl⟩
        · rw [hn]; simp; omega
        · rw [Nat.add_assoc pb.ro k]; exact winAt_over hwin (by omega) (by omega)
        · rw [hext, size_over (by omega)]
        · rw [size_over (by omega)]; simp; omega
      · rename_i hroom
        split at h
        case isFalse => cases h
        rename_i hck
        simp only [Bool.and_eq_true, decide_eq_true_eq] at hck
        obtain ⟨⟨⟨⟨hsz', hlc'⟩, hend⟩, h63⟩, hbb⟩ := hck
        simp only [Option.map_eq_some_iff] at h
        obtain ⟨olds, ho, rfl⟩ := h
        obtain ⟨hle, rfl⟩ := rd_some ho
        subst hlc'
        subst hsz'
        have hallo : All2 (CRel β noF) ((cs.drop k).take (len * ti.size)) ((xs.drop k).take (len * ti.size)) := (hallb.drop k).take _
        have holen : ((xs.drop k).take (len * ti.size)).length = len * ti.size := by simp; omega
        have hollen : ((cs.drop k).take (len * ti.size)).length = len * ti.size := by simp; omega
        by_cases hin : len + m ≤ rc
        · -- in the spare room
          have hk' := hk (by omega)
          subst hk'
          rcases hgrow with hg | ⟨hp0, hp1, hp2⟩
          · omega
          have hspare : pb.ro + k + (len + m) * ti.size ≤ arr.size := by
            have := Nat.mul_le_mul_right ti.size hin
            rw [hps] at hp2
            omega
          have hr := run_append_in (P := P) (w := w) t ty e i hu hi pb.rb (pb.ro + k) len rc el arr hh ad m c ys (by rw [hsz]; exact hyl) hcell h1 hin (by rw [hsz, hyl, Nat.add_assoc, ← Nat.add_mul]; exact hspare)
          rw [hsz] at hr
          let q : Pl := ⟨pb.rb, pb.ro + k, arr.size, (len + m) * ti.size, ti.size⟩
          have hext' : ∀ b p, β b = some p → upd β nm q b = some p := upd_ext q hβ
          have hch : ∀ r, r < w.heap.size → r ≠ pb.rb → (w.setRow pb.rb (arr.toList.take (pb.ro + k + len * ti.size) ++ ys ++ arr.toList.drop (pb.ro + k + len * ti.size + ys.length)).toArray).heap[r]? = w.heap[r]? := fun r _ hr => setRow_other w pb.rb r _ hr
          have hB : BRel (upd β nm q) q (.row true ti.size ((cs.drop k).take (len * ti.size) ++ news)) (w.setRow pb.rb (arr.toList.take (pb.ro + k + len * ti.size) ++ ys ++ arr.toList.drop (pb.ro + k + len * ti.size + ys.length)).toArray) := by
            refine ⟨rfl, ?_, _, el, (0, 0), (xs.drop k).take (len * ti.size) ++ ys, setRow_heap w pb.rb arr _ el (0, 0) hh, ?_, ?_, ?_, ?_, fun _ => rfl⟩
            · simp only [q, List.length_append, hollen, hnl, Nat.add_mul]
            · intro j y hj
              show _[pb.ro + k + j]? = _
              simp only [List.getElem?_toArray]
              rcases Nat.lt_or_ge j (len * ti.size) with h2 | h2
              · rw [List.append_assoc, List.getElem?_append_left (by simp; omega), List.getElem?_take, if_pos (by omega)]
                rw [List.getElem?_append_left (by omega), List.getElem?_take, if_pos h2, List.getElem?_drop] at hj
                have := hwin (k + j) y hj
                simpa [Nat.add_assoc] using this
              · rw [List.getElem?_append_right (by omega), holen] at hj
                have h3 : j - len * ti.size < ys.length := (List.getElem?_eq_some_iff.1 hj).1
                have e2 : (arr.toList.take (pb.ro + k + len * ti.size)).length = pb.ro + k + len * ti.size := by simp; omega
                rw [List.append_assoc, List.getElem?_append_right (by omega), e2, List.getElem?_append_left (by omega), show pb.ro + k + j - (pb.ro + k + len * ti.size) = j - len * ti.size by omega]
                exact hj
            · exact (hallo.append hall).mono fun _ _ _ => CRel.up hext' fun _ _ _ h => h
            · show arr.size = _
              rw [size_over (by rw [hyl, Nat.add_assoc, ← Nat.add_mul]; exact hspare)]
            · show pb.ro + k + _ ≤ _
              rw [size_over (by rw [hyl, Nat.add_assoc, ← Nat.add_mul]; exact hspare), List.length_append, hollen, hnl, ← Nat.add_mul]
              exact hspare
          have hfree : ∀ b' x q', (σ.h.del b).get b' = some x → β b' = some q' → q'.rb ≠ pb.rb := fun b' x q' hb' hq' => by
            rw [Heap.get_del] at hb'
            split at hb'
            · cases hb'
            · rename_i hne
              exact Ne.symm (hS.heap.apart b b' _ x pb q' hne hb hb' hβb hq' rfl)
          have hS' := (hS.del b).make (N' := N') hN hnm hβ (p := q) (x1 := .row true ti.size ((cs.drop k).take (len * ti.size) ++ news)) hch hfree (fun u ds hu he => hS.hap u ds b _ pb hu hb hβb he) hB
          refine ⟨_, _, _, upd β nm q, μ, hrun _ _ hr, .inl rfl, ⟨q, pb.ro + k, rc, upd_same β nm q, rfl, Nat.le_refl _, hin, fun _ => rfl, .inr ⟨hpos, ?_, ?_⟩⟩, hS', Step.move (same_setRow w _ _) hb rfl hβb hβ rfl hch, fun b hb => upd_other β q (hb.resolve_right (by rw [hmk]; simp)), fun _ _ => rfl, rfl⟩
          · show 0 + (len + m) * ti.size = (len + m) * ti.size
            omega
          · show pb.ro + k + 0 + rc * ti.size ≤ arr.size
            rw [hps] at hp2
            omega
        · -- a new row
          have holds : ∀ j y, ((xs.drop k).take (len * ti.size))[j]? = some y → w.cell? ((⟨pb.rb, k', none⟩ : Addr).add j) = some y := fun j y hj => by
            rw [List.getElem?_take] at hj
            split at hj
            · rename_i hjl
              have hl0 : 0 < len := by
                rcases Nat.eq_zero_or_pos len with h0 | h0
                · subst h0; simp at hjl
                · exact h0
              have hk' := hk (by omega)
              subst hk'
              rw [Addr.add_mid, cell_row hh]
              have := hwin (k + j) y (by simpa [List.getElem?_drop] using hj)
              simpa [Nat.add_assoc] using this
            · cases hj
          have hr := run_append_grow (P := P) w t ty e i z hu hi (by rw [hz, hzv]) ⟨pb.rb, k', none⟩ len rc ((xs.drop k).take (len * ti.size)) (by rw [hsz]; exact holen) holds ad m c ys (by rw [hsz]; exact hyl) hcell (by omega) (by omega)
            (growslice_fits (by omega) (by rw [hby]; exact hbb))
          have hge := grownCap_ge w (len + m) rc e
          let arr' := ((xs.drop k).take (len * ti.size)).toArray ++ ys.toArray ++ Builtin.zeroCells z.cells (grownCap w (len + m) rc e - (len + m))
          have harr : arr'.size = grownCap w (len + m) rc e * ti.size := by
            simp only [arr', Array.size_append, List.size_toArray, size_zeroCells, hzs, hyl, holen, ← Nat.add_mul]
            congr 1
            omega
          let q : Pl := ⟨w.heap.size, 0, arr'.size, (len + m) * ti.size, ti.size⟩
          have hB : BRel (upd β nm q) q (.row true ti.size ((cs.drop k).take (len * ti.size) ++ news)) (w.drew.alloc (.cells arr' e)) := by
            refine ⟨rfl, ?_, arr', e, (0, 0), (xs.drop k).take (len * ti.size) ++ ys, alloc_new w.drew _, ?_, ?_, rfl, ?_, fun _ => rfl⟩
            · simp only [q, List.length_append, hollen, hnl, Nat.add_mul]
            · intro j y hj
              have hj' := (List.getElem?_eq_some_iff.1 hj).1
              simp only [arr', q, Nat.zero_add]
              rw [Array.getElem?_append_left (by simpa using hj')]
              simpa using hj
            · exact (hallo.append hall).mono fun _ _ _ => CRel.up (upd_ext q hβ) fun _ _ _ h => h
            · show 0 + _ ≤ arr'.size
              rw [harr, List.length_append, hollen, hnl, ← Nat.add_mul, Nat.zero_add]
              exact Nat.mul_le_mul_right _ hge
          have hfresh : ∀ b' x q', (σ.h.del b).get b' = some x → β b' = some q' → q'.rb ≠ w.heap.size := fun b' x q' hb' hq' => by
            obtain ⟨q2, g1, g2⟩ := (hS.del b).heap.blk b' x hb'
            rw [hq', Option.some.injEq] at g1
            subst g1
            exact Nat.ne_of_lt g2.lt
          have hS' := (hS.del b).make (N' := N') (w' := w.drew.alloc (.cells arr' e)) hN hnm hβ (p := q) (x1 := .row true ti.size ((cs.drop k).take (len * ti.size) ++ news)) (fun r hr _ => alloc_old w.drew _ r hr) hfresh
            (fun u ds hu he => by obtain ⟨r, g1, g2⟩ := hS.box u ds hu; rw [he, Option.some.injEq] at g1; subst g1; exact absurd g2.lt (Nat.lt_irrefl _)) hB
          refine ⟨_, _, _, upd β nm q, μ, hrun _ _ hr, .inl rfl, ⟨q, 0, grownCap w (len + m) rc e, upd_same β nm q, rfl, Nat.le_refl _, hge, fun _ => rfl, .inr ⟨hpos, ?_, ?_⟩⟩, hS',
            (Step.del β μ σ w b).trans (Step.make (w := w) (w' := w.drew.alloc (.cells arr' e)) ⟨rfl, rfl, rfl, by simp⟩ hβ (Nat.le_refl _) (fun k hk => alloc_old w.drew _ k hk)), fun b hb => upd_other β q (hb.resolve_right (by rw [hmk]; simp)), fun _ _ => rfl, rfl⟩
          · show 0 + (len + m) * ti.size = (len + m) * ti.size
            omega
          · show 0 + 0 + grownCap w (len + m) rc e * ti.size ≤ arr'.size
            omega
  · cases h

theorem entries_ok (hS : SRel N β μ nt σ a w) {c : C} {es : List (Value × V × Nat)} {x : Value} (h : entriesOf σ c = some es) (hx : CRel β μ c x) :
    (x = .map none ∧ es = []) ∨ ∃ r arr clock, x = .map (some r) ∧ w.heap[r]? = some (.map arr clock) ∧ All2 (ERel β) es arr.toList := by
  unfold entriesOf at h
  split at h
  · simp only [Option.some.injEq] at h
    exact .inl ⟨hx, h.symm⟩
  · rename_i b
    split at h
    · rename_i es' clock hb
      simp only [Option.some.injEq] at h
      subst h
      obtain ⟨p, hβ, rfl⟩ := hx
      obtain ⟨p', g1, _, arr, h1, h2⟩ := hS.heap.blk b _ hb
      rw [hβ, Option.some.injEq] at g1
      subst g1
      exact .inr ⟨p.rb, arr, clock, rfl, h1, h2⟩
    · cases h
  · cases h

theorem run_getMap {r : Nat} {arr : Array MapEntry} {clock : Nat} (h : w.heap[r]? = some (.map arr clock)) : (getObj r).run P w = .ok (.map arr clock) w := by
  simp [getObj, Sem.run, h]

theorem op_len (hT : TtOk P X) (hN : N ≤ N') (hS : SRel N β μ nt σ a w) {ts : Array TypeId} {c : C} {x : Value} {vs : List V} (hvs : vs = [.one c]) (hx : CRel β μ c x)
    (h : builtinE X nm σ .len ts.toList vs = some (v, σ')) {ty : TypeId} (hrun : ∀ y w', (Builtin.len_ ts ty #[x]).run P w = .ok y w' → (execOp a.eval o).run P w = .ok (.value y) w') : OpOk P fi N' nm β μ nt σ a w o v σ' := by
  subst hvs
  obtain ⟨ts⟩ := ts
  cases ts with
  | nil => simp [builtinE] at h
  | cons t rest =>
    simp only [builtinE] at h
    split at h
    case h_2 => cases h
    rename_i ti hti
    obtain ⟨i, hi, hs, hb, hz, hu⟩ := tt_info hT hti
    split at h
    · rename_i k e hd
      rw [hd] at hu
      simp only [Option.map_eq_some_iff, Prod.mk.injEq] at h
      obtain ⟨es, h1, rfl, rfl⟩ := h
      refine OpOk.val hN hS (x := .int .i64 es.length) (hrun _ _ ?_) rfl
      rcases entries_ok hS h1 hx with ⟨rfl, rfl⟩ | ⟨r, arr, clock, rfl, h2, h3⟩
      · simp [Builtin.len_, run_underlying hu, goInt]
      · have := h3.length
        simp at this
        simp [Builtin.len_, run_underlying hu, goInt, run_getMap h2, this]
    · rename_i n e hd
      rw [hd] at hu
      simp only [Option.some.injEq, Prod.mk.injEq] at h
      obtain ⟨rfl, rfl⟩ := h
      refine OpOk.val hN hS (x := .int .i64 n) (hrun _ _ ?_) rfl
      simp [Builtin.len_, run_underlying hu, goInt]
    · rename_i e hd
      rw [hd] at hu
      split at h
      · cases h
      · rename_i hns
        simp only [Option.map_eq_some_iff, Prod.mk.injEq] at h
        obtain ⟨n, h1, rfl, rfl⟩ := h
        refine OpOk.val hN hS (x := .int .i64 n) (hrun _ _ ?_) rfl
        unfold lenC at h1
        split at h1
        · rename_i m k
          simp only [Option.some.injEq] at h1
          subst h1
          have hx' : x = .slice none m k := hx
          subst hx'
          simp [Builtin.len_, run_underlying hu, goInt]
        · simp only [Option.some.injEq] at h1
          subst h1
          obtain ⟨p, k', rc, hβ, rfl, _⟩ := hx
          simp [Builtin.len_, run_underlying hu, goInt]
        · rename_i s
          exact absurd rfl (hns s)
        · cases h1
    · rename_i hd
      rw [hd] at hu
      split at h
      · rename_i s
        simp only [Option.some.injEq, Prod.mk.injEq] at h
        obtain ⟨rfl, rfl⟩ := h
        have hx' : x = .string s := hx
        subst hx'
        refine OpOk.val hN hS (x := .int .i64 s.data.toList.length) (hrun _ _ ?_) rfl
        simp only [Builtin.len_]
        simp [run_underlying hu, goInt]
      · cases h
    · cases h
end ops
end E
end Go.Proofs.Ytibdplfdmncgiaa

/-
  An abstract machine of this place's own: maps: in the model as here. No condition.
-/
namespace Go.Proofs.Ytibdplfdmncgiaa
open Go.RowKit
namespace E
section ops
variable {P : Program} {X : Ctx} {fi : Fi} {N N' nm : Nat} {β : Pls} {μ : Fms} {nt : Nat} {σ σ' : St} {a : Act} {w : World} {o : Oper} {v : V}

/-- The place of a key. -/
def idxK (d : KD) (k : Value) : List (Value × V × Nat) → Option (Option Nat)
  | [] => some none
  | (k', _, _) :: l => match keyEq d k k' with
    | some true => some (some 0)
    | some false => (idxK d k l).map (·.map (· + 1))
    | none => none

theorem findK_some {d : KD} {k : Value} : ∀ {es : List (Value × V × Nat)} {v : V} {n : Nat}, findK d k es = some (some (v, n)) → ∃ i k', idxK d k es = some (some i) ∧ es[i]? = some (k', v, n) ∧ keyEq d k k' = some true
  | [], _, _, h => by simp [findK] at h
  | (k', u, m) :: l, v, n, h => by
    simp only [findK] at h
    split at h
    · rename_i hk
      simp only [Option.some.injEq, Prod.mk.injEq] at h
      obtain ⟨rfl, rfl⟩ := h
      exact ⟨0, k', by simp [idxK, hk], rfl, hk⟩
    · rename_i hk
      obtain ⟨i, k2, h1, h2, h3⟩ := findK_some h
      exact ⟨i + 1, k2, by simp [idxK, hk, h1], by simpa using h2, h3⟩
    · cases h

theorem findK_none {d : KD} {k : Value} : ∀ {es : List (Value × V × Nat)}, findK d k es = some none → idxK d k es = some none
  | [], _ => rfl
  | (k', u, m) :: l, h => by
    simp only [findK] at h
    split at h
    · cases h
    · rename_i hk
      simp [idxK, hk, findK_none h]
    · cases h

theorem setK_some {d : KD} {k : Value} {u : V} : ∀ {es es' : List (Value × V × Nat)}, setK d k u es = some es' → ∃ i k' v n, idxK d k es = some (some i) ∧ es[i]? = some (k', v, n) ∧ es' = es.set i (k, u, n) ∧ keyEq d k k' = some true
  | [], _, h => by simp [setK] at h
  | (k', v, m) :: l, es', h => by
    simp only [setK] at h
    split at h
    · rename_i hk
      simp only [Option.some.injEq] at h
      subst h
      exact ⟨0, k', v, m, by simp [idxK, hk], rfl, rfl, hk⟩
    · rename_i hk
      simp only [Option.map_eq_some_iff] at h
      obtain ⟨l', h1, rfl⟩ := h
      obtain ⟨i, k2, v2, n2, g1, g2, rfl, g4⟩ := setK_some h1
      exact ⟨i + 1, k2, v2, n2, by simp [idxK, hk, g1], by simpa using g2, rfl, g4⟩
    · cases h

theorem dropK_some {d : KD} {k : Value} : ∀ {es es' : List (Value × V × Nat)}, dropK d k es = some es' → (∃ i, idxK d k es = some (some i) ∧ i < es.length ∧ es' = es.eraseIdx i) ∨ (idxK d k es = some none ∧ es' = es)
  | [], _, h => by simp only [dropK, Option.some.injEq] at h; subst h; exact .inr ⟨rfl, rfl⟩
  | (k', v, m) :: l, es', h => by
    simp only [dropK] at h
    split at h
    · rename_i hk
      simp only [Option.some.injEq] at h
      subst h
      exact .inl ⟨0, by simp [idxK, hk], by simp, rfl⟩
    · rename_i hk
      simp only [Option.map_eq_some_iff] at h
      obtain ⟨l', h1, rfl⟩ := h
      rcases dropK_some h1 with ⟨i, g1, g2, rfl⟩ | ⟨g1, rfl⟩
      · exact .inl ⟨i + 1, by simp [idxK, hk, g1], by simp; omega, rfl⟩
      · exact .inr ⟨by simp [idxK, hk, g1], rfl⟩
    · cases h

theorem bytes_beq (s t : ByteArray) : (s == t) = strEq s t := by
  show (s.data == t.data) = (s.data.toList == t.data.toList)
  rw [Bool.eq_iff_iff]
  simp only [beq_iff_eq]
  constructor
  · intro h; rw [h]
  · intro h; exact Array.toList_inj.1 h

theorem keyEq_cells {t : TypeId} {ks : List CK} {u u' : Value} {r : Bool} (h : keyEq (.cells t ks) u u' = some r) : ∃ xs ys : Array Value, u = .agg xs ∧ u' = .agg ys ∧ eqK ks (xs.toList.map .lit) (ys.toList.map .lit) = some r := by
  cases u <;> cases u' <;> simp only [keyEq, reduceCtorEq] at h
  exact ⟨_, _, rfl, rfl, h⟩

theorem keyEq_i {u u' : Value} {r : Bool} (h : keyEq (.cell .i) u u' = some r) : ∃ k i j, u = .int k i ∧ u' = .int k j ∧ r = (i == j) := by
  cases u <;> cases u' <;> simp only [keyEq, eqK1, reduceCtorEq] at h
  split at h
  · rename_i hk
    subst hk
    simp only [Option.some.injEq] at h
    exact ⟨_, _, _, rfl, rfl, h.symm⟩
  · cases h

theorem keyEq_s {u u' : Value} {r : Bool} (h : keyEq (.cell .s) u u' = some r) : ∃ i j, u = .string i ∧ u' = .string j ∧ r = strEq i j := by
  cases u <;> cases u' <;> simp only [keyEq, eqK1, reduceCtorEq, Option.some.injEq] at h
  exact ⟨_, _, rfl, rfl, h.symm⟩

theorem keyEq_b {u u' : Value} {r : Bool} (h : keyEq (.cell .b) u u' = some r) : ∃ i j, u = .bool i ∧ u' = .bool j ∧ r = (i == j) := by
  cases u <;> cases u' <;> simp only [keyEq, eqK1, reduceCtorEq, Option.some.injEq] at h
  exact ⟨_, _, rfl, rfl, h.symm⟩

/-- How the model compares keys of a type. -/
def KdOk (P : Program) (X : Ctx) (t : TypeId) : KD → Prop
  | .cell .i => ∃ k, P.underlying t = some (.int k)
  | .cell .s => P.underlying t = some .string
  | .cell .b => P.underlying t = some .bool
  | .cells t' ks => t' = t ∧ X.flat t = some ks ∧ ∃ d, P.underlying t = some d ∧ isAggD d = true

theorem kd_ok (hT : TtOk P X) {t : TypeId} {d : KD} (h : keyKD X t = some d) : KdOk P X t d := by
  unfold keyKD at h
  split at h
  case h_2 => cases h
  rename_i ti hti
  obtain ⟨i, hi, hs, hb, hz, hu⟩ := tt_info hT hti
  split at h
  · rename_i k hd; rw [hd] at hu; simp only [Option.some.injEq] at h; subst h; exact ⟨k, hu⟩
  · rename_i hd; rw [hd] at hu; simp only [Option.some.injEq] at h; subst h; exact hu
  · rename_i hd; rw [hd] at hu; simp only [Option.some.injEq] at h; subst h; exact hu
  · rename_i fs hd
    simp only [Option.map_eq_some_iff] at h
    obtain ⟨ks, h1, rfl⟩ := h
    exact ⟨rfl, h1, _, hu, by rw [hd]; rfl⟩
  · rename_i n e hd
    simp only [Option.map_eq_some_iff] at h
    obtain ⟨ks, h1, rfl⟩ := h
    exact ⟨rfl, h1, _, hu, by rw [hd]; rfl⟩
  · cases h

theorem checkIn_plain {t : TypeId} {d : TypeDesc} (hu : P.underlying t = some d) {u : Value} (hd : isAggD d = false) (hi : ∀ ms, d ≠ .interface ms) (b : Bool) (n : Nat) :
    (Instr.checkKey b (n + 1) t u).run P w = .ok () w := by
  simp only [Instr.checkKey, Sem.run_bind, run_underlying hu w, Result.andThen_ok]
  cases d <;> simp_all [isAggD] <;> rfl

theorem check_ok (hF : FlatOk P X) {t : TypeId} {d : KD} (hd : KdOk P X t d) {k : Value} (hk : keyOkE d k = true) (b : Bool) : (Instr.checkKey b 10000 t k).run P w = .ok () w := by
  cases d with
  | cell c =>
    cases c with
    | i => obtain ⟨k', hu⟩ := hd; exact checkIn_plain hu rfl (by simp) b 9999
    | b => exact checkIn_plain hd rfl (by simp) b 9999
    | s => exact checkIn_plain hd rfl (by simp) b 9999
  | cells t' ks =>
    obtain ⟨rfl, hf, _⟩ := hd
    simp only [keyOkE, Option.isSome_iff_exists] at hk
    obtain ⟨r, hr⟩ := hk
    obtain ⟨xs, ys, rfl, h2, hr'⟩ := keyEq_cells hr
    exact ((hF _ _ hf).2 _ _ _ hr' w).2 b

theorem sameNow_ok {t : TypeId} {c : CK} (hd : KdOk P X t (.cell c)) : ∃ desc, P.underlying t = some desc ∧ ∀ k k' r, keyEq (.cell c) k k' = some r → Instr.sameNow desc k k' = some r := by
  cases c with
  | i =>
    obtain ⟨kk, hu⟩ := hd
    refine ⟨_, hu, fun k k' r h => ?_⟩
    obtain ⟨p, i, j, rfl, rfl, rfl⟩ := keyEq_i h
    simp [Instr.sameNow]
  | b =>
    refine ⟨_, hd, fun k k' r h => ?_⟩
    obtain ⟨i, j, rfl, rfl, rfl⟩ := keyEq_b h
    rfl
  | s =>
    refine ⟨_, hd, fun k k' r h => ?_⟩
    obtain ⟨i, j, rfl, rfl, rfl⟩ := keyEq_s h
    simp [Instr.sameNow, bytes_beq]

theorem findNow_ok {desc : TypeDesc} {d : KD} {k : Value} (hs : ∀ k' r, keyEq d k k' = some r → Instr.sameNow desc k k' = some r) : ∀ {es : List (Value × V × Nat)} {l : List MapEntry} {r : Option Nat} (i : Nat),
    idxK d k es = some r → All2 (ERel β) es l → Instr.findNow desc k l i = some (match r with | none => none | some j => (l[j]?).map fun e => (i + j, e.val))
  | [], [], r, i, h, _ => by simp only [idxK, Option.some.injEq] at h; subst h; rfl
  | (k', v, n) :: es, e :: l, r, i, h, hall => by
    simp only [idxK] at h
    have hkey : e.key = k' := hall.1.1
    split at h
    · rename_i hk
      simp only [Option.some.injEq] at h
      subst h
      simp [Instr.findNow, hkey, hs k' true hk]
    · rename_i hk
      simp only [Option.map_eq_some_iff] at h
      obtain ⟨r', h1, rfl⟩ := h
      have ih := findNow_ok hs (i + 1) h1 hall.2
      simp only [Instr.findNow, hkey, hs k' false hk, ih]
      cases r' with
      | none => rfl
      | some j => simp [Nat.add_assoc, Nat.add_comm 1 j]
    · cases h
  | [], _ :: _, _, _, _, h => h.elim
  | _ :: _, [], _, _, _, h => h.elim

theorem findAsking_ok (hF : FlatOk P X) {t : TypeId} {ks : List CK} (hf : X.flat t = some ks) {k : Value} : ∀ {es : List (Value × V × Nat)} {l : List MapEntry} {r : Option Nat} (i : Nat),
    idxK (.cells t ks) k es = some r → All2 (ERel β) es l → (Instr.findAsking t k l i).run P w = .ok (match r with | none => none | some j => (l[j]?).map fun e => (i + j, e.val)) w
  | [], [], r, i, h, _ => by simp only [idxK, Option.some.injEq] at h; subst h; rfl
  | (k', v, n) :: es, e :: l, r, i, h, hall => by
    simp only [idxK] at h
    have hkey : e.key = k' := hall.1.1
    have heq : ∀ q, keyEq (.cells t ks) k k' = some q → (Op.equal t k e.key).run P w = .ok q w := fun q hq => by
      obtain ⟨xs, ys, rfl, rfl, hq'⟩ := keyEq_cells hq
      rw [hkey]
      exact ((hF _ _ hf).2 _ _ _ hq' w).1
    split at h
    · rename_i hk
      simp only [Option.some.injEq] at h
      subst h
      simp [Instr.findAsking, heq true hk]
    · rename_i hk
      simp only [Option.map_eq_some_iff] at h
      obtain ⟨r', h1, rfl⟩ := h
      have ih := findAsking_ok hF hf (i + 1) h1 hall.2
      simp only [Instr.findAsking, Sem.run_bind, heq false hk, Result.andThen_ok, Bool.false_eq_true, if_false, ih]
      cases r' with
      | none => rfl
      | some j => simp [Nat.add_assoc, Nat.add_comm 1 j]
    · cases h
  | [], _ :: _, _, _, _, h => h.elim
  | _ :: _, [], _, _, _, h => h.elim

theorem findKey_ok (hF : FlatOk P X) {t : TypeId} {d : KD} (hd : KdOk P X t d) {k : Value} {es : List (Value × V × Nat)} {l : List MapEntry} {r : Option Nat} (h : idxK d k es = some r) (hall : All2 (ERel β) es l) :
    (Instr.findKey t k l).run P w = .ok (match r with | none => none | some j => (l[j]?).map fun e => (j, e.val)) w := by
  cases d with
  | cell c =>
    obtain ⟨desc, hu, hs⟩ := sameNow_ok hd
    have := findNow_ok (fun k' r => hs k k' r) 0 h hall
    simp only [Instr.findKey, Sem.run_bind, run_underlying hu w, Result.andThen_ok, this]
    cases r <;> simp
  | cells t' ks =>
    obtain ⟨rfl, hf, desc, hu, hagg⟩ := hd
    have h1 := findAsking_ok (w := w) hF hf 0 h hall
    simp only [Instr.findKey, Sem.run_bind, run_underlying hu w, Result.andThen_ok]
    cases l with
    | nil =>
      cases es with
      | nil => simp only [idxK, Option.some.injEq] at h; subst h; rfl
      | cons => exact hall.elim
    | cons e l =>
      have : Instr.findNow desc k (e :: l) 0 = none := by
        simp only [Instr.findNow]
        cases desc <;> simp [isAggD] at hagg <;> rfl
      simp only [this, h1]
      cases r <;> simp

theorem map_info (hT : TtOk P X) {t : TypeId} {d : KD} {et : TI} (h : mapKD X t = some (d, et)) :
    ∃ k e i, P.underlying t = some (.map k e) ∧ KdOk P X k d ∧ P.info? e = some i ∧ i.zero = et.zero := by
  unfold mapKD at h
  split at h
  case h_2 => cases h
  rename_i ti hti
  obtain ⟨i, hi, hs, hb, hz, hu⟩ := tt_info hT hti
  split at h
  · rename_i k e hd
    split at h
    · rename_i d' et' hk he
      simp only [Option.some.injEq, Prod.mk.injEq] at h
      obtain ⟨rfl, rfl⟩ := h
      obtain ⟨i', hi', _, _, hz', _⟩ := tt_info hT he
      exact ⟨k, e, i', by rw [hu, hd], kd_ok hT hk, hi', hz'⟩
    · cases h
  · cases h

theorem VRel.down {v : V} {x : Value} (hv : VRel β noF v x) (h : ∀ vs, v ≠ .tup vs) : VRel1 β μ v x := by
  cases v with
  | one c => exact CRel.up (fun _ _ h => h) (fun _ _ _ h => by cases h) hv
  | agg cs =>
    obtain ⟨l, h1, h2⟩ := hv
    exact ⟨l, h1, h2.mono fun _ _ _ => CRel.up (fun _ _ h => h) (fun _ _ _ h => by cases h)⟩
  | tup vs => exact absurd rfl (h vs)

theorem ofVal_notup (z : Value) : ∀ vs, V.ofVal z ≠ .tup vs := by
  intro vs h
  cases z <;> simp [V.ofVal] at h

theorem op_lookup (hT : TtOk P X) (hF : FlatOk P X) (hN : N ≤ N') (hS : SRel N β μ nt σ a w) {t : TypeId} {x y : Operand} {ok : Bool} (ho : o.op = .lookup t x y ok) (h : op P X fi nm o σ = some (v, σ')) : OpOk P fi N' nm β μ nt σ a w o v σ' := by
  simp only [op, ho] at h
  obtain ⟨c, h3, h4⟩ := onC_some h
  obtain ⟨u, h5, h6⟩ := onV_some h4
  split at h6
  case h_2 => cases h6
  rename_i k hk
  have hy : a.eval y = k := val_ok hk (ev_ok hS h5)
  simp only [Option.map_eq_some_iff, Prod.mk.injEq] at h6
  obtain ⟨v', h7, rfl, rfl⟩ := h6
  unfold lookupE at h7
  split at h7
  case h_2 => cases h7
  rename_i d et es hm hes
  obtain ⟨kt, e, i, hu, hkd, hie, hze⟩ := map_info hT hm
  split at h7
  case isFalse => cases h7
  rename_i hkok
  have hcheck : ∀ b, (Instr.checkKey b 10000 kt k).run P w = .ok () w := check_ok hF hkd hkok
  have hent : ∃ l : Array MapEntry, All2 (ERel β) es l.toList ∧ ((a.eval x = .map none ∧ l = #[]) ∨ ∃ r clock, a.eval x = .map (some r) ∧ w.heap[r]? = some (.map l clock)) := by
    rcases entries_ok hS hes (ev_ok hS h3) with ⟨hx, rfl⟩ | ⟨r, arr, clock, hx, h8, h9⟩
    · exact ⟨#[], trivial, .inl ⟨hx, rfl⟩⟩
    · exact ⟨arr, h9, .inr ⟨r, clock, hx, h8⟩⟩
  obtain ⟨l, hall, hl⟩ := hent
  suffices hh : ∃ z b, ((∃ i, (Instr.findKey kt k l.toList).run P w = .ok (some (i, z)) w ∧ b = true) ∨ ((Instr.findKey kt k l.toList).run P w = .ok none w ∧ (zeroValue e).run P w = .ok z w ∧ b = false)) ∧ VRel β μ v' (if ok then .tuple #[z, .bool b] else z) by
    obtain ⟨z, b, g1, g2⟩ := hh
    refine OpOk.val hN hS (x := if ok then .tuple #[z, .bool b] else z) ?_ g2
    unfold execOp
    simp only [ho, Instr.lookup, Sem.run_bind, run_underlying hu w, Result.andThen_ok, hy]
    rcases hl with ⟨hx, rfl⟩ | ⟨r, clock, hx, h8⟩ <;> rcases g1 with ⟨i, g1, rfl⟩ | ⟨g1, g3, rfl⟩ <;> rw [hx]
    · simp only [Sem.run_bind, Sem.run_pure, Result.andThen_ok, hcheck, g1]
    · simp only [Sem.run_bind, Sem.run_pure, Result.andThen_ok, hcheck, g1, g3]
    · simp only [Sem.run_bind, run_getMap h8, Sem.run_pure, Result.andThen_ok, hcheck, g1]
    · simp only [Sem.run_bind, run_getMap h8, Sem.run_pure, Result.andThen_ok, hcheck, g1, g3]
  have fin : ∀ u z b, VRel1 β μ u z → v' = (if ok then V.tup [u, .one (.lit (.bool b))] else u) → VRel β μ v' (if ok then .tuple #[z, .bool b] else z) := fun u z b h1 h2 => by
    subst h2
    cases ok with
    | false => exact h1.up
    | true => exact ⟨_, rfl, h1, rfl, trivial⟩
  split at h7
  · rename_i u n hfind
    obtain ⟨j, k', hidx, hget, hkeq⟩ := findK_some hfind
    obtain ⟨en, hen, hrel⟩ := hall.get hget
    have hrun := findKey_ok (w := w) hF hkd hidx hall
    refine ⟨en.val, true, .inl ⟨j, ?_, rfl⟩, ?_⟩
    · simp only [hrun]
      simp [hen]
    · cases ok with
      | false =>
        simp only [Bool.false_eq_true, if_false, Option.some.injEq] at h7 ⊢
        subst h7
        exact hrel.2.1.ups (fun _ _ h => h) (fun _ _ _ h => by cases h)
      | true =>
        simp only [if_true] at h7 ⊢
        split at h7
        · cases h7
        · rename_i hnt
          simp only [Option.some.injEq] at h7
          subst h7
          exact ⟨_, rfl, hrel.2.1.down hnt, rfl, trivial⟩
  · rename_i hfind
    have hrun := findKey_ok (w := w) hF hkd (findK_none hfind) hall
    split at h7
    case h_2 => cases h7
    rename_i z hz
    simp only [Option.some.injEq] at h7
    refine ⟨z, false, .inr ⟨hrun, ?_, rfl⟩, fin (V.ofVal z) z false ((vrel_ofVal β noF z).down (ofVal_notup z)) h7.symm⟩
    simp [zeroValue, typeInfo, hie, hze, hz]
  · cases h7

theorem okV_notup {v : V} (h : v.okV = true) : ∀ vs, v ≠ .tup vs := fun vs he => by subst he; simp [V.okV] at h

theorem vrel_noF {v : V} {x : Value} (h : v.okV = true) (hv : VRel β μ v x) : VRel β noF v x := by
  cases v with
  | one c => exact CRel.noF h hv
  | agg cs =>
    obtain ⟨l, h1, h2⟩ := hv
    exact ⟨l, h1, all2_noF h h2⟩
  | tup vs => simp [V.okV] at h

def World.setObj (w : World) (r : Nat) (o : Obj) : World := { w with heap := w.heap.setIfInBounds r o }

theorem run_setMap {r : Nat} {arr arr' : Array MapEntry} {clock clock' : Nat} (h : w.heap[r]? = some (.map arr clock)) : (Go.setObj r (.map arr' clock')).run P w = .ok () (World.setObj w r (.map arr' clock')) := by
  simp [Go.setObj, Sem.run, h, World.setObj]

theorem setObj_same {r : Nat} {ob : Obj} (h : r < w.heap.size) : (World.setObj w r ob).heap[r]? = some ob := by
  simp [World.setObj, h]
theorem setObj_other {r k : Nat} {ob : Obj} (h : k ≠ r) : (World.setObj w r ob).heap[k]? = w.heap[k]? := by
  simp [World.setObj, Array.getElem?_setIfInBounds_ne (Ne.symm h)]
theorem same_setObj (w : World) (r : Nat) (ob : Obj) : Same w (World.setObj w r ob) := ⟨rfl, rfl, rfl, by simp [World.setObj]⟩

theorem mp_ok (hS : SRel N β μ nt σ a w) {b : Nat} {es : List (Value × V × Nat)} {clock : Nat} (hb : σ.h.get b = some (.map es clock)) {x : Value} (hx : CRel β μ (.mp b) x) :
    ∃ p arr, β b = some p ∧ x = .map (some p.rb) ∧ p.ro = 0 ∧ w.heap[p.rb]? = some (.map arr clock) ∧ All2 (ERel β) es arr.toList := by
  obtain ⟨p, hβ, rfl⟩ := hx
  obtain ⟨p', g1, h0, arr, h1, h2⟩ := hS.heap.blk b _ hb
  rw [hβ, Option.some.injEq] at g1
  subst g1
  exact ⟨p, arr, hβ, rfl, h0, h1, h2⟩

/-- A map written. -/
theorem setMap_ok (hN : N ≤ N') (hS : SRel N β μ nt σ a w) {b : Nat} {es es' : List (Value × V × Nat)} {clock clock' : Nat} (hb : σ.h.get b = some (.map es clock)) {p : Pl} {arr arr' : Array MapEntry}
    (hβ : β b = some p) (h0 : p.ro = 0) (hh : w.heap[p.rb]? = some (.map arr clock)) (hall : All2 (ERel β) es' arr'.toList) :
    SRel N' β μ nt { σ with h := σ.h.set b (.map es' clock') } a (World.setObj w p.rb (.map arr' clock')) ∧ Step β μ σ w β μ { σ with h := σ.h.set b (.map es' clock') } (World.setObj w p.rb (.map arr' clock')) := by
  have hlt : p.rb < w.heap.size := (Array.getElem?_eq_some_iff.1 hh).1
  exact ⟨(hS.write (x1 := .map es' clock') hb rfl hβ (fun q _ hq => setObj_other hq) ⟨h0, arr', setObj_same hlt, hall⟩).wider hN, Step.write (same_setObj w _ _) hb rfl hβ fun q _ hq => setObj_other hq⟩

theorem all2_set {α γ : Type} {R : α → γ → Prop} {x : α} {y : γ} (hxy : R x y) : ∀ {xs : List α} {ys : List γ} (i : Nat), All2 R xs ys → All2 R (xs.set i x) (ys.set i y)
  | [], [], _, _ => by simp [All2]
  | _ :: _, _ :: _, 0, h => ⟨hxy, h.2⟩
  | _ :: _, _ :: _, i + 1, h => ⟨h.1, all2_set hxy i h.2⟩
  | [], _ :: _, _, h => h.elim
  | _ :: _, [], _, h => h.elim

theorem all2_eraseIdx {α γ : Type} {R : α → γ → Prop} : ∀ {xs : List α} {ys : List γ} (i : Nat), All2 R xs ys → All2 R (xs.eraseIdx i) (ys.eraseIdx i)
  | [], [], _, _ => by simp [All2]
  | _ :: _, _ :: _, 0, h => h.2
  | _ :: _, _ :: _, i + 1, h => ⟨h.1, all2_eraseIdx i h.2⟩
  | [], _ :: _, _, h => h.elim
  | _ :: _, [], _, h => h.elim

theorem sameBits_cells (d : Nat) : ∀ {ks : List CK} {xs ys : List Value}, eqK ks (xs.map .lit) (ys.map .lit) = some true → xs.length = ys.length ∧ ((xs.zip ys).all fun (x, y) => Instr.sameBits d x y) = true
  | [], [], [], _ => ⟨rfl, rfl⟩
  | k :: ks, x :: xs, y :: ys, h => by
    simp only [List.map_cons, eqK] at h
    split at h
    · rename_i b1 b2 h1 h2
      simp only [Option.some.injEq, Bool.and_eq_true] at h
      obtain ⟨rfl, rfl⟩ := h
      obtain ⟨g1, g2⟩ := sameBits_cells d h2
      refine ⟨by simp [g1], ?_⟩
      simp only [List.zip_cons_cons, List.all_cons, g2, Bool.and_true]
      cases k with
      | i => obtain ⟨_, _, _, rfl, rfl, h3⟩ := keyEq_i (u := x) (u' := y) h1; simp [Instr.sameBits]; simpa using h3.symm
      | b => obtain ⟨_, _, rfl, rfl, h3⟩ := keyEq_b (u := x) (u' := y) h1; simp [Instr.sameBits]; simpa using h3.symm
      | s => obtain ⟨_, _, rfl, rfl, h3⟩ := keyEq_s (u := x) (u' := y) h1; simp [Instr.sameBits, bytes_beq]; exact h3.symm
    · cases h
  | [], [], _ :: _, h => by simp [eqK] at h
  | [], _ :: _, _, h => by simp [eqK] at h
  | _ :: _, [], _, h => by simp [eqK] at h
  | _ :: _, _ :: _, [], h => by simp [eqK] at h

theorem keyEq_swap {d : KD} {k k' : Value} (h : keyEq d k k' = some true) (n : Nat) : Instr.sameBits (n + 1) k' k = true := by
  cases d with
  | cell c =>
    cases c with
    | i => obtain ⟨_, i, j, rfl, rfl, h3⟩ := keyEq_i h; have h4 : i = j := by simpa using h3.symm
           subst h4; simp [Instr.sameBits]
    | b => obtain ⟨i, j, rfl, rfl, h3⟩ := keyEq_b h; have h4 : i = j := by simpa using h3.symm
           subst h4; simp [Instr.sameBits]
    | s =>
      obtain ⟨i, j, rfl, rfl, h3⟩ := keyEq_s h
      have : i.data.toList = j.data.toList := by simpa [strEq] using h3.symm
      simp [Instr.sameBits, bytes_beq, strEq, this]
  | cells t ks =>
    obtain ⟨xs, ys, rfl, rfl, h3⟩ := keyEq_cells h
    have swap : ∀ {ks : List CK} {xs ys : List Value}, eqK ks (xs.map .lit) (ys.map .lit) = some true → eqK ks (ys.map .lit) (xs.map .lit) = some true := by
      intro ks
      induction ks with
      | nil => intro xs ys h; cases xs <;> cases ys <;> simp_all [eqK]
      | cons k ks ih =>
        intro xs ys h
        cases xs with
        | nil => simp [eqK] at h
        | cons x xs => cases ys with
          | nil => simp [eqK] at h
          | cons y ys =>
            simp only [List.map_cons, eqK] at h ⊢
            split at h
            · rename_i b1 b2 h1 h2
              simp only [Option.some.injEq, Bool.and_eq_true] at h
              obtain ⟨rfl, rfl⟩ := h
              rw [ih h2]
              cases k with
              | i => obtain ⟨_, _, _, rfl, rfl, h3⟩ := keyEq_i (u := x) (u' := y) h1; have := h3.symm; simp at this; subst this; simp [eqK1]
              | b => obtain ⟨_, _, rfl, rfl, h3⟩ := keyEq_b (u := x) (u' := y) h1; have := h3.symm; simp at this; subst this; simp [eqK1]
              | s =>
                obtain ⟨i, j, rfl, rfl, h3⟩ := keyEq_s (u := x) (u' := y) h1
                have h4 : i.data.toList = j.data.toList := by simpa [strEq] using h3.symm
                simp [eqK1, strEq, h4]
            · cases h
    obtain ⟨g1, g2⟩ := sameBits_cells n (swap h3)
    simp only [Instr.sameBits, Bool.and_eq_true]
    exact ⟨by simpa using g1, g2⟩

theorem run_keyStays {d : KD} {k k' : Value} (h : keyEq d k k' = some true) : (Instr.keyThatStays k' k).run P w = .ok k w := by
  unfold Instr.keyThatStays
  rw [if_pos (keyEq_swap h 9999)]
  rfl

theorem update_ok (hT : TtOk P X) (hF : FlatOk P X) (hN : N ≤ N') (hS : SRel N β μ nt σ a w) {t : TypeId} {c : C} {k : Value} {u : V} {x y : Value} (hx : CRel β μ c x) (hy : VRel β μ u y) (h : updateE X t σ c k u = some σ') :
    ∃ w', (Instr.mapUpdate t x k y).run P w = .ok () w' ∧ SRel N' β μ nt σ' a w' ∧ Step β μ σ w β μ σ' w' ∧ σ'.h.next = σ.h.next := by
  unfold updateE at h
  split at h
  case h_2 => cases h
  rename_i d et b hm
  obtain ⟨kt, e, i, hu, hkd, hie, hze⟩ := map_info hT hm
  split at h
  case h_2 => cases h
  rename_i es clock hb
  split at h
  case isFalse => cases h
  rename_i hck
  simp only [Bool.and_eq_true] at hck
  obtain ⟨hkok, hokv⟩ := hck
  obtain ⟨p, arr, hβ, rfl, h0, hh, hall⟩ := mp_ok hS hb hx
  have hcheck := check_ok (w := w) hF hkd hkok false
  split at h
  · rename_i q hfind
    obtain ⟨v0, n0⟩ := q
    simp only [Option.map_eq_some_iff] at h
    obtain ⟨es', hset, rfl⟩ := h
    obtain ⟨j, k', v1, n1, hidx, hget, rfl, hkeq⟩ := setK_some hset
    obtain ⟨en, hen, hrel⟩ := hall.get hget
    have hrun := findKey_ok (w := w) hF hkd hidx hall
    have hen' : arr[j]? = some en := by simpa using hen
    simp only [hen, Option.map_some] at hrun
    have hk' : en.key = k' := hrel.1
    have hmod : (arr.modify j fun e => { e with key := k, val := y }).toList = arr.toList.set j { en with key := k, val := y } := by
      apply List.ext_getElem?
      intro m
      simp only [Array.getElem?_toList, Array.getElem?_modify, List.getElem?_set]
      by_cases hjm : j = m
      · subst hjm
        have hlt : j < arr.size := (Array.getElem?_eq_some_iff.1 hen').1
        simp [hlt]
        rw [(Array.getElem?_eq_some_iff.1 hen').2]
      · simp [hjm]
    obtain ⟨g1, g2⟩ := setMap_ok (es' := es.set j (k, u, n1)) (clock' := clock) (arr' := arr.modify j fun e => { e with key := k, val := y }) hN hS hb hβ h0 hh (by
      rw [hmod]
      exact all2_set ⟨rfl, vrel_noF hokv hy, hrel.2.2⟩ j hall)
    refine ⟨_, ?_, g1, g2, rfl⟩
    simp only [Instr.mapUpdate, Sem.run_bind, run_underlying hu w, Result.andThen_ok, run_getMap hh, hcheck, hrun, hen', Option.map_some, Option.getD_some, hk', run_keyStays hkeq]
    exact run_setMap hh
  · rename_i hfind
    simp only [Option.some.injEq] at h
    subst h
    have hrun := findKey_ok (w := w) hF hkd (findK_none hfind) hall
    simp only at hrun
    obtain ⟨g1, g2⟩ := setMap_ok (es' := es ++ [(k, u, clock)]) (clock' := clock + 1) (arr' := arr.push { key := k, val := y, born := clock }) hN hS hb hβ h0 hh (by
      simp only [Array.toList_push]
      exact hall.append ⟨⟨rfl, vrel_noF hokv hy, rfl⟩, trivial⟩)
    refine ⟨_, ?_, g1, g2, rfl⟩
    simp only [Instr.mapUpdate, Sem.run_bind, run_underlying hu w, Result.andThen_ok, run_getMap hh, hcheck, hrun]
    exact run_setMap hh
  · cases h

theorem op_mapUpdate (hT : TtOk P X) (hF : FlatOk P X) (hN : N ≤ N') (hS : SRel N β μ nt σ a w) {t : TypeId} {m x y : Operand} (ho : o.op = .mapUpdate t m x y ∨ o.op = .insert t m x y) (h : op P X fi nm o σ = some (v, σ')) : OpOk P fi N' nm β μ nt σ a w o v σ' := by
  have h' : (onC σ m fun c => onV σ x fun kv => onV σ y fun v => match kv.val? with
    | some kv => (updateE X t σ c kv v).map fun σ' => (undefC, σ')
    | none => none) = some (v, σ') := by
    rcases ho with ho | ho <;> (simp only [op, ho] at h; exact h)
  obtain ⟨c, h3, h4⟩ := onC_some h'
  obtain ⟨kv, h5, h6⟩ := onV_some h4
  obtain ⟨u, h7, h8⟩ := onV_some h6
  split at h8
  case h_2 => cases h8
  rename_i k hk
  have hxk : a.eval x = k := val_ok hk (ev_ok hS h5)
  simp only [Option.map_eq_some_iff, Prod.mk.injEq] at h8
  obtain ⟨σ1, h9, rfl, rfl⟩ := h8
  obtain ⟨w', g1, g2, g3, g4⟩ := update_ok (P := P) hT hF hN hS (ev_ok hS h3) (ev_ok hS h7) h9
  refine ⟨.skip, undef, w', β, μ, ?_, .inr ⟨rfl, rfl⟩, rfl, g2, g3, fun _ _ => rfl, fun _ _ => rfl, g4⟩
  unfold execOp
  rcases ho with ho | ho <;> simp only [ho, hxk, Sem.run_bind, g1, Result.andThen_ok] <;> rfl

theorem op_delete (hT : TtOk P X) (hF : FlatOk P X) (hN : N ≤ N') (hS : SRel N β μ nt σ a w) {ts : Array TypeId} {t : TypeId} (ht : ts[0]? = some t) {c : C} {k x : Value} (hx : CRel β μ c x)
    (h : deleteE X t σ c k = some σ') {ty : TypeId} (hrun : ∀ y w', (Builtin.delete_ ts ty #[x, k]).run P w = .ok y w' → (execOp a.eval o).run P w = .ok (.value y) w') : OpOk P fi N' nm β μ nt σ a w o (.one (.lit (.tuple #[]))) σ' := by
  unfold deleteE at h
  split at h
  case h_2 => cases h
  rename_i d et b hm
  obtain ⟨kt, e, i, hu, hkd, hie, hze⟩ := map_info hT hm
  split at h
  case h_2 => cases h
  rename_i es clock hb
  split at h
  case isFalse => cases h
  rename_i hkok
  obtain ⟨p, arr, hβ, rfl, h0, hh, hall⟩ := mp_ok hS hb hx
  have hcheck := check_ok (w := w) hF hkd hkok arr.isEmpty
  simp only [Option.map_eq_some_iff] at h
  obtain ⟨es', hdrop, rfl⟩ := h
  rcases dropK_some hdrop with ⟨j, hidx, hlt, rfl⟩ | ⟨hidx, rfl⟩
  · have hfk := findKey_ok (w := w) hF hkd hidx hall
    have hlen := hall.length
    have hja : j < arr.size := by simp at hlen; omega
    have hen : arr.toList[j]? = some arr[j] := by simp [hja]
    simp only [hen, Option.map_some] at hfk
    obtain ⟨g1, g2⟩ := setMap_ok (es' := es.eraseIdx j) (clock' := clock) (arr' := arr.eraseIdxIfInBounds j) hN hS hb hβ h0 hh (by
      rw [Array.eraseIdxIfInBounds, dif_pos hja, Array.toList_eraseIdx]
      exact all2_eraseIdx j hall)
    refine ⟨_, .tuple #[], _, β, μ, hrun _ _ ?_, .inl rfl, rfl, g1, g2, fun _ _ => rfl, fun _ _ => rfl, rfl⟩
    simp [Builtin.delete_, ht, run_underlying hu, run_getMap hh, hcheck, hfk, run_setMap hh]
  · have hfk := findKey_ok (w := w) hF hkd hidx hall
    simp only at hfk
    obtain ⟨g1, g2⟩ := setMap_ok (es' := es') (clock' := clock) (arr' := arr) hN hS hb hβ h0 hh hall
    refine ⟨_, .tuple #[], _, β, μ, hrun _ _ ?_, .inl rfl, rfl, g1, g2, fun _ _ => rfl, fun _ _ => rfl, rfl⟩
    simp [Builtin.delete_, ht, run_underlying hu, run_getMap hh, hcheck, hfk, run_setMap hh]
end ops
end E
end Go.Proofs.Ytibdplfdmncgiaa

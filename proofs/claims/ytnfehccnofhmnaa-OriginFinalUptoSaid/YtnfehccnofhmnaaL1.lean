/-
  Walk: the law OriginFinal. No condition.
-/
import Derived.Test.YtnfehccnofhmnaaW9
import Derived.Test.YtnfehccnofhmnaaW10
import Derived.Test.YtnfehccnofhmnaaFloat
import Derived.Test.YtnfehccnofhmnaaP1
namespace Go.Proofs.Ytnfehccnofhmnaa
open Go.RowKit
attribute [local go_sem ↓] eql_lEq eql_sEq eql_eEq eql_oEq neq_lEq neq_sEq neq_eEq neq_oEq
attribute [local go_sem] ExtOf.cell ExtOf.frozen ExtOf.lt ExtOf.le
attribute [local go_sem high] ExtOf.cell2 ExtOf.frozen2 ExtOf.lt2 ExtOf.cell3 ExtOf.frozen3 ExtOf.lt3 ExtOf.cellB ExtOf.frozenB ExtOf.cellX ExtOf.frozenX ExtOf.cellX' ExtOf.frozenX'
attribute [local go_sem] BelOf.cell BelOf.frozen BelOf.lt

/-- The facts that a loop over events reads of its element. -/
theorem ev_cellsO {w : World} {g off : Nat} {L : List Ev} {k : Nat} {x : Ev} (h : ∀ j u, (L.flatMap Ev.cs)[j]? = some u → w.cell? ⟨g, off + j, none⟩ = some u) (hx : L[k]? = some x) :
    w.cell? ⟨g, off + k * 8, none⟩ = some (.int .i64 x.k) ∧ w.cell? ⟨g, off + k * 8 + 1, none⟩ = some (.int .u64 x.c) ∧ w.cell? ⟨g, off + k * 8 + 2, none⟩ = some (.string x.t) ∧ w.cell? ⟨g, off + k * 8 + 3, none⟩ = some (.int .i64 x.l.k) ∧ w.cell? ⟨g, off + k * 8 + 4, none⟩ = some (.int .i64 x.l.f) ∧ w.cell? ⟨g, off + k * 8 + 5, none⟩ = some (.int .u64 x.l.c) ∧ w.cell? ⟨g, off + k * 8 + 6, none⟩ = some (.string x.l.t) ∧ w.cell? ⟨g, off + k * 8 + 7, none⟩ = some (.bool x.l.b) := by
  have f := fun j hj => flat_get Ev.cs 8 (fun _ => rfl) L k x hx j hj
  have F : ∀ j u, (Ev.cs x)[j]? = some u → j < 8 → w.cell? ⟨g, off + k * 8 + j, none⟩ = some u := fun j u hu hj => by
    rw [Nat.add_assoc]; exact h _ _ ((f j hj).trans hu)
  exact ⟨F 0 _ rfl (by omega), F 1 _ rfl (by omega), F 2 _ rfl (by omega), F 3 _ rfl (by omega), F 4 _ rfl (by omega), F 5 _ rfl (by omega), F 6 _ rfl (by omega), F 7 _ rfl (by omega)⟩

theorem view_ext {w w' : World} {n base : Nat} {a : Option Addr} {xs : List Value} (h : 0 < n → ∃ g, a = some ⟨g, 0, none⟩ ∧ base ≤ g ∧ g < w.heap.size ∧ ∀ j u, xs[j]? = some u → w.cell? ⟨g, j, none⟩ = some u) (e : Ext w w') :
    0 < n → ∃ g, a = some ⟨g, 0, none⟩ ∧ base ≤ g ∧ g < w'.heap.size ∧ ∀ j u, xs[j]? = some u → w'.cell? ⟨g, j, none⟩ = some u := fun hn =>
  let ⟨g, h1, h2, h3, h4⟩ := h hn
  ⟨g, h1, h2, Nat.lt_of_lt_of_le h3 e.size, fun j u hj => cell_keep (h4 j u hj) e⟩

theorem fin_key {sn T : St} {x : Ev} {O : List Ou} (h : stepS sn x = (T, O)) (hf : finS sn = true) :
    sEq T.r T.c T.t T.ph T.p.k T.p.f T.p.c T.p.t T.p.b sn.r sn.c sn.t sn.ph sn.p.k sn.p.f sn.p.c sn.p.t sn.p.b = true ∧ (O.length : Int) ≤ 0 := by
  rw [fin_step sn x hf] at h
  simp only [Prod.mk.injEq] at h
  obtain ⟨rfl, rfl⟩ := h
  exact ⟨by simp [sEq], by simp⟩
theorem inv_key {sn T : St} {x : Ev} {O : List Ou} {sent B : Bool} (h : stepS sn x = (T, O)) (hi : Inv (sent || (stepS sn x).2.any (fun o => o.l.k == 2)) (stepS sn x).1) (hb : (sent || O.any (fun o => o.l.k == 2)) = B) :
    Inv B T ∧ (B = true → (T.ph == 7) = false) := by
  rw [h] at hi
  simp only at hi
  rw [hb] at hi
  exact ⟨hi, fun hB => by simpa using inv_abort hi hB⟩
theorem no_key {sn T : St} {x : Ev} {O : List Ou} (h : stepS sn x = (T, O)) (hp : (sn.ph == 3) = true) : (T.ph == 7) = false := by
  have := no_abort (s := sn) x (by simpa using hp)
  rw [h] at this
  simpa using this

set_option maxRecDepth 100000 in
set_option maxHeartbeats 1600000 in
theorem final_loop (r c : Int) (t : ByteArray) (ph k f c2 : Int) (t2 : ByteArray) (fk : Bool) (v : Value) (L : List Ev) (w : World) (hR : Row w 8 v L.length (L.flatMap Ev.cs)) (hsz : ∀ e ∈ L, e.t.size ≤ 1048576 ∧ e.l.t.size ≤ 1048576) (ht : (t.size : Int) ≤ 6000) (hl : longS L = false) :
    Calls Try.prog 4 #[.agg #[.int .i64 r, .int .u64 c, .string t, .int .i64 ph, .int .i64 k, .int .i64 f, .int .u64 c2, .string t2, .bool fk], v] w fun e w' => e = .returned (.bool true) ∧ Ext w w' := by
  have HR := Lib.hid hR
  have HS := Lib.hid hsz
  have HL := Lib.hid hl
  obtain ⟨a, cap, rfl, hm, hvw⟩ := row_view hR
  have HV := Lib.hid hvw
  clear hvw hR hsz hl
  unfold maxLen at hm
  go_enter Try.func4, Try.ntmps4
  go_wp2_with fail
  refine (long_any _ L _ (HR.out.ext ((Ext.refl _).alloc _)) HS.out).mono ?_
  rintro e w1 ⟨rfl, hx1⟩
  rw [HL.out]
  have h1a := heap_ext (heap_new (w := w) rfl) hx1
  have hX1 : Ext w w1 := ((Ext.refl _).alloc _).trans hx1
  have HX1 := Lib.hid hX1
  clear hX1 hx1
  go_wp2_with fail
  go_loopw [5, 6] (fun b i wr => ∃ (n : Nat) (sn : St) (sent : Bool), n ≤ L.length ∧ i = .int .i64 n ∧ b = .bool sent ∧ Inv sent sn ∧ wr.heap[w.heap.size]? = some (.cells #[.int .i64 sn.r, .int .u64 sn.c, .string sn.t, .int .i64 sn.ph, .int .i64 sn.p.k, .int .i64 sn.p.f, .int .u64 sn.p.c, .string sn.p.t, .bool sn.p.b] 26 (0, 0)) ∧ Ext w wr) (fun _ i _ => L.length - (intOf i).toNat)
  case atStart => exact ⟨0, ⟨r, c, t, ph, ⟨k, f, c2, t2, fk⟩⟩, false, Nat.zero_le _, rfl, rfl, (fun h => by cases h), h1a, HX1.out⟩
  case round =>
    obtain ⟨n, sn, sent, hn, rfl, rfl, hinv, hbox, hxr⟩ := hrel
    rename_i wr
    have HI := Lib.hid hinv
    have HB := Lib.hid hbox
    have HXR := Lib.hid hxr
    clear hinv h1a
    by_cases hlt : n < L.length
    · obtain ⟨g, off, rfl, hg, hcell⟩ := HV.out (by omega)
      obtain ⟨x, hx⟩ : ∃ x, L[n]? = some x := ⟨_, List.getElem?_eq_getElem hlt⟩
      obtain ⟨q0, q1, q2, q3, q4, q5, q6, q7⟩ := ev_cellsO (fun j u hj => cell_keep (hcell j u hj) hxr) hx
      have hcb := fun j => cell_of_row wr _ j _ _ _ hbox
      have hlb : w.heap.size < wr.heap.size := (Array.getElem?_eq_some_iff.1 hbox).1
      have hgr : g < wr.heap.size := Nat.lt_of_lt_of_le (hg (by omega)) hxr.size
      have i0 : (0 : Int) ≤ (n : Int) := by omega
      have i1 : (n : Int) < (L.length : Int) := by omega
      clear hx hcell hg hbox hxr
      go_wp2_with fail
      refine wp_region_mixF (af := ?af) #[.int .i64 0, .int .u64 0, .string { data := #[] }, .int .i64 0, .int .i64 0, .int .i64 0, .int .u64 0, .string { data := #[] }, .bool false] 26 [true, true, true, true, true, false, false, false, false, false, false, false] [false, false, false, false, false, false, true, true, true, false, false, true] 86 4 (C := Ext wr) (by kernel_rfl) rfl (by kernel_rfl) (fun _ _ h e => Ext.trans h e) (Ext.refl _).drew ?q ?r
      case q =>
        intro w' hw'
        obtain ⟨y, rfl⟩ := ext_of hw'
        simp only [pickT, if_true, if_false, Bool.false_eq_true]
        repeat (go_big_quiet_step (fail))
        exact rfl
      case r =>
        simp only [restL, if_true, if_false, Bool.false_eq_true]
        refine ⟨fun a w => by simp [go_sem], ?_⟩
        intro x1
        go_wp2_with fail
        refine (or_stepT _ _ _ _ _ _ _ _ _ _ _ _ _ _ _ _ _ _).mono ?_
        rintro e w4 ⟨T, O, v, hT, rfl, hv, hx4⟩
        go_wp2_with fail
        refine ⟨hx4, ?_⟩
        refine ⟨_, .inl ⟨rfl, fun w _ => ⟨rfl, rfl⟩⟩, ?_⟩
        refine ⟨_, .inl ⟨rfl, fun w _ => ⟨rfl, rfl⟩⟩, ?_⟩
        refine ⟨_, .inl ⟨rfl, fun w _ => ⟨rfl, rfl⟩⟩, ?_⟩
        intro x2 gT hgT hzT
        have e2 : Ext wr x2.val := (((Ext.refl wr).drew.val x1).trans hx4).val x2
        intro x3
        go_wp2_with (refine wpList_store_row rfl 26 _ _ rfl gT _ rfl rfl 26 _ (heap_ext hzT x3.ext) info_state rfl (by simp [Value.oneCell']) ?_)
        refine ⟨(e2.val x3).setRow hgT _, ?_⟩
        refine ⟨_, .inl ⟨rfl, fun w _ => ⟨rfl, rfl⟩⟩, ?_⟩
        intro x4
        have eT : x4.val.heap[gT]? = some (.cells #[.int .i64 T.r, .int .u64 T.c, .string T.t, .int .i64 T.ph, .int .i64 T.p.k, .int .i64 T.p.f, .int .u64 T.p.c, .string T.p.t, .bool T.p.b] 26 (0, 0)) := heap_ext (setRow_heap _ _ _ _ _ _ (heap_ext hzT x3.ext)) x4.ext
        have eS : x4.val.heap[w.heap.size]? = some (.cells #[.int .i64 sn.r, .int .u64 sn.c, .string sn.t, .int .i64 sn.ph, .int .i64 sn.p.k, .int .i64 sn.p.f, .int .u64 sn.p.c, .string sn.p.t, .bool sn.p.b] 26 (0, 0)) := heap_ext HB.out (((e2.val x3).setRow hgT _).val x4)
        have eV : x4.val.ownsRow wr.heap.size 45 6 v O.length (O.flatMap Ou.cs) := own_ext (own_setRow (own_ext (own_base (b' := wr.heap.size) hv ((Ext.refl wr).drew.val x1).size) (x2.ext.trans x3.ext)) (heap_ext hzT x3.ext) (by decide) _) x4.ext
        have eX : Ext wr x4.val := ((e2.val x3).setRow hgT _).val x4
        obtain ⟨aV, capV, rfl, hmV, hvV⟩ := own_view eV
        generalize x4.val = w5 at eT eS eV eX hvV ⊢
        clear x4 x3 x2 hzT hv hx4 e2 q0 q1 q2 q3 q4 q5 q6 q7 eV
        have hT2 := Lib.hid hT
        have Vw5 := Lib.hid hvV
        have Sw5 := eS
        have Tw5 := eT
        have Xw5 := eX
        have hneq : w.heap.size < gT := Nat.lt_of_lt_of_le hlb hgT
        have hI2 := Lib.hid (inv_step x HI.out)
        clear hT hvV hcb
        have c5s := fun j => cell_of_row w5 _ j _ _ _ eS
        have c5T := fun j => cell_of_row w5 _ j _ _ _ eT
        have l5s : w.heap.size < w5.heap.size := (Array.getElem?_eq_some_iff.1 eS).1
        have l5T : gT < w5.heap.size := (Array.getElem?_eq_some_iff.1 eT).1
        clear eS eT eX
        go_wp2_with fail
        refine (or_final _ _ _ _ _ _ _ _ _ _).mono ?_
        rintro e w6 ⟨rfl, hx6⟩
        rw [show finS ⟨sn.r, sn.c, sn.t, sn.ph, ⟨sn.p.k, sn.p.f, sn.p.c, sn.p.t, sn.p.b⟩⟩ = finS sn from rfl]
        have Sw6 := heap_ext Sw5 hx6
        have Tw6 := heap_ext Tw5 hx6
        have Xw6 := Xw5.trans hx6
        have csw6 := fun j => cell_of_row w6 _ j _ _ _ Sw6
        have ctw6 := fun j => cell_of_row w6 _ j _ _ _ Tw6
        have lsw6 : w.heap.size < w6.heap.size := (Array.getElem?_eq_some_iff.1 Sw6).1
        have ltw6 : gT < w6.heap.size := (Array.getElem?_eq_some_iff.1 Tw6).1
        have Vw6 := Lib.hid (view_ext Vw5.out hx6)
        clear Sw5 Tw5 Xw5 Vw5 hx6 c5s c5T l5s l5T
        have key := fin_key hT2.out
        have h37 := no_key hT2.out
        have HK := Lib.hid h37
        have HXb := Lib.hid Xw6
        clear h37 Xw6
        unfold maxLen at hmV
        rcases hf : finS sn
        · clear key hf
          go_wp2_with fail
          refine (or_check _ _ _ _ _ _ _ _ _ _).mono ?_
          rintro e w7 ⟨rfl, hx7⟩
          have Sw7 := heap_ext Sw6 hx7
          have Tw7 := heap_ext Tw6 hx7
          have HXc := Lib.hid (HXb.out.trans hx7)
          have csw7 := fun j => cell_of_row w7 _ j _ _ _ Sw7
          have ctw7 := fun j => cell_of_row w7 _ j _ _ _ Tw7
          have lsw7 : w.heap.size < w7.heap.size := (Array.getElem?_eq_some_iff.1 Sw7).1
          have ltw7 : gT < w7.heap.size := (Array.getElem?_eq_some_iff.1 Tw7).1
          have Vw7 := Lib.hid (view_ext Vw6.out hx7)
          clear Sw6 Tw6 Vw6 hx7 csw6 ctw6 lsw6 ltw6 HXb
          rcases hc : chk sn.r sn.c sn.t sn.ph sn.p.k sn.p.f sn.p.c sn.p.t sn.p.b
          · clear HK
            go_wp2_with fail
            go_loopw [5, 9] (fun b i wz => ∃ (m : Nat) (z : ExtOf w7), m ≤ O.length ∧ i = .int .i64 m ∧ wz = z.val ∧ b = .bool (sent || (O.take m).any (fun o => o.l.k == 2))) (fun _ i _ => O.length - (intOf i).toNat)
            case atStart => exact ⟨0, ⟨w7, Ext.refl _⟩, Nat.zero_le _, rfl, rfl, by simp⟩
            case round =>
              obtain ⟨m, z, hmn, rfl, rfl, rfl⟩ := hrel
              generalize hB2 : (sent || (O.take m).any (fun o => o.l.k == 2)) = B
              have HB2 := Lib.hid hB2
              clear hB2
              by_cases hlt2 : m < O.length
              · obtain ⟨g2, rfl, hb2, hg2, hcell2⟩ := Vw7.out (by omega)
                obtain ⟨u, hu⟩ : ∃ u, O[m]? = some u := ⟨_, List.getElem?_eq_getElem hlt2⟩
                obtain ⟨p0, p1, p2, p3, p4, p5⟩ := ou_cells hcell2 hu
                have HU := Lib.hid hu
                have j0 : (0 : Int) ≤ (m : Int) := by omega
                have j1 : (m : Int) < (O.length : Int) := by omega
                clear hu hcell2
                cases B
                all_goals
                  go_wp2_with fail
                  go_roundw
                  case rel => exact ⟨m + 1, z, by omega, by go_num, rfl, by rw [any_take _ HU.out, ← Bool.or_assoc, HB2.out]; simp⟩
                  case measure => simp [intOf]; omega
              · obtain rfl : m = O.length := by omega
                rw [List.take_length] at HB2
                go_wp2_with fail
                refine (or_check _ _ _ _ _ _ _ _ _ _).mono ?_
                rintro e w8 ⟨rfl, hx8⟩
                have e8 : Ext w7 w8 := z.ext.trans hx8
                have S8 := heap_ext Sw7 e8
                have T8 := heap_ext Tw7 e8
                have X8 := HXR.out.trans (HXc.out.trans e8)
                have ct8 := fun j => cell_of_row w8 _ j _ _ _ T8
                have lt8 : gT < w8.heap.size := (Array.getElem?_eq_some_iff.1 T8).1
                have hB7 := inv_key hT2.out hI2.out HB2.out
                have HB7 := Lib.hid hB7.1
                have HS8 := Lib.hid S8
                have HX8 := Lib.hid X8
                clear csw7 ctw7 lsw7 ltw7 Sw7 Tw7 T8 S8 X8 hx8 e8
                rcases hcT : chk T.r T.c T.t T.ph T.p.k T.p.f T.p.c T.p.t T.p.b
                all_goals
                  cases B
                all_goals
                  try have h77 := hB7.2 rfl
                  clear hB7
                  go_wp2_with (refine wpList_store_row rfl 26 _ _ rfl w.heap.size _ rfl rfl 26 _ HS8.out info_state rfl (by simp [Value.oneCell']) ?_)
                  go_roundw
                  case rel => exact ⟨n + 1, T, _, by omega, by go_num, rfl, HB7.out, setRow_heap _ _ _ _ _ _ HS8.out, Ext.setRow HX8.out (Nat.le_refl _) _⟩
                  case measure => simp [intOf]; omega
          · rcases h3 : (sn.ph == 3)
            · clear HK
              go_wp2_with fail
              go_loopw [5, 9] (fun b i wz => ∃ (m : Nat) (z : ExtOf w7), m ≤ O.length ∧ i = .int .i64 m ∧ wz = z.val ∧ b = .bool (sent || (O.take m).any (fun o => o.l.k == 2))) (fun _ i _ => O.length - (intOf i).toNat)
              case atStart => exact ⟨0, ⟨w7, Ext.refl _⟩, Nat.zero_le _, rfl, rfl, by simp⟩
              case round =>
                obtain ⟨m, z, hmn, rfl, rfl, rfl⟩ := hrel
                generalize hB2 : (sent || (O.take m).any (fun o => o.l.k == 2)) = B
                have HB2 := Lib.hid hB2
                clear hB2
                by_cases hlt2 : m < O.length
                · obtain ⟨g2, rfl, hb2, hg2, hcell2⟩ := Vw7.out (by omega)
                  obtain ⟨u, hu⟩ : ∃ u, O[m]? = some u := ⟨_, List.getElem?_eq_getElem hlt2⟩
                  obtain ⟨p0, p1, p2, p3, p4, p5⟩ := ou_cells hcell2 hu
                  have HU := Lib.hid hu
                  have j0 : (0 : Int) ≤ (m : Int) := by omega
                  have j1 : (m : Int) < (O.length : Int) := by omega
                  clear hu hcell2
                  cases B
                  all_goals
                    go_wp2_with fail
                    go_roundw
                    case rel => exact ⟨m + 1, z, by omega, by go_num, rfl, by rw [any_take _ HU.out, ← Bool.or_assoc, HB2.out]; simp⟩
                    case measure => simp [intOf]; omega
                · obtain rfl : m = O.length := by omega
                  rw [List.take_length] at HB2
                  go_wp2_with fail
                  refine (or_check _ _ _ _ _ _ _ _ _ _).mono ?_
                  rintro e w8 ⟨rfl, hx8⟩
                  have e8 : Ext w7 w8 := z.ext.trans hx8
                  have S8 := heap_ext Sw7 e8
                  have T8 := heap_ext Tw7 e8
                  have X8 := HXR.out.trans (HXc.out.trans e8)
                  have ct8 := fun j => cell_of_row w8 _ j _ _ _ T8
                  have lt8 : gT < w8.heap.size := (Array.getElem?_eq_some_iff.1 T8).1
                  have hB7 := inv_key hT2.out hI2.out HB2.out
                  have HB7 := Lib.hid hB7.1
                  have HS8 := Lib.hid S8
                  have HX8 := Lib.hid X8
                  clear csw7 ctw7 lsw7 ltw7 Sw7 Tw7 T8 S8 X8 hx8 e8
                  rcases hcT : chk T.r T.c T.t T.ph T.p.k T.p.f T.p.c T.p.t T.p.b
                  all_goals
                    cases B
                  all_goals
                    try have h77 := hB7.2 rfl
                    clear hB7
                    go_wp2_with (refine wpList_store_row rfl 26 _ _ rfl w.heap.size _ rfl rfl 26 _ HS8.out info_state rfl (by simp [Value.oneCell']) ?_)
                    go_roundw
                    case rel => exact ⟨n + 1, T, _, by omega, by go_num, rfl, HB7.out, setRow_heap _ _ _ _ _ _ HS8.out, Ext.setRow HX8.out (Nat.le_refl _) _⟩
                    case measure => simp [intOf]; omega
            · have h7 := HK.out h3
              clear HK
              go_wp2_with fail
              go_loopw [5, 9] (fun b i wz => ∃ (m : Nat) (z : ExtOf w7), m ≤ O.length ∧ i = .int .i64 m ∧ wz = z.val ∧ b = .bool (sent || (O.take m).any (fun o => o.l.k == 2))) (fun _ i _ => O.length - (intOf i).toNat)
              case atStart => exact ⟨0, ⟨w7, Ext.refl _⟩, Nat.zero_le _, rfl, rfl, by simp⟩
              case round =>
                obtain ⟨m, z, hmn, rfl, rfl, rfl⟩ := hrel
                generalize hB2 : (sent || (O.take m).any (fun o => o.l.k == 2)) = B
                have HB2 := Lib.hid hB2
                clear hB2
                by_cases hlt2 : m < O.length
                · obtain ⟨g2, rfl, hb2, hg2, hcell2⟩ := Vw7.out (by omega)
                  obtain ⟨u, hu⟩ : ∃ u, O[m]? = some u := ⟨_, List.getElem?_eq_getElem hlt2⟩
                  obtain ⟨p0, p1, p2, p3, p4, p5⟩ := ou_cells hcell2 hu
                  have HU := Lib.hid hu
                  have j0 : (0 : Int) ≤ (m : Int) := by omega
                  have j1 : (m : Int) < (O.length : Int) := by omega
                  clear hu hcell2
                  cases B
                  all_goals
                    go_wp2_with fail
                    go_roundw
                    case rel => exact ⟨m + 1, z, by omega, by go_num, rfl, by rw [any_take _ HU.out, ← Bool.or_assoc, HB2.out]; simp⟩
                    case measure => simp [intOf]; omega
                · obtain rfl : m = O.length := by omega
                  rw [List.take_length] at HB2
                  go_wp2_with fail
                  refine (or_check _ _ _ _ _ _ _ _ _ _).mono ?_
                  rintro e w8 ⟨rfl, hx8⟩
                  have e8 : Ext w7 w8 := z.ext.trans hx8
                  have S8 := heap_ext Sw7 e8
                  have T8 := heap_ext Tw7 e8
                  have X8 := HXR.out.trans (HXc.out.trans e8)
                  have ct8 := fun j => cell_of_row w8 _ j _ _ _ T8
                  have lt8 : gT < w8.heap.size := (Array.getElem?_eq_some_iff.1 T8).1
                  have hB7 := inv_key hT2.out hI2.out HB2.out
                  have HB7 := Lib.hid hB7.1
                  have HS8 := Lib.hid S8
                  have HX8 := Lib.hid X8
                  clear csw7 ctw7 lsw7 ltw7 Sw7 Tw7 T8 S8 X8 hx8 e8
                  rcases hcT : chk T.r T.c T.t T.ph T.p.k T.p.f T.p.c T.p.t T.p.b
                  all_goals
                    cases B
                  all_goals
                    try have h77 := hB7.2 rfl
                    clear hB7
                    go_wp2_with (refine wpList_store_row rfl 26 _ _ rfl w.heap.size _ rfl rfl 26 _ HS8.out info_state rfl (by simp [Value.oneCell']) ?_)
                    go_roundw
                    case rel => exact ⟨n + 1, T, _, by omega, by go_num, rfl, HB7.out, setRow_heap _ _ _ _ _ _ HS8.out, Ext.setRow HX8.out (Nat.le_refl _) _⟩
                    case measure => simp [intOf]; omega
        · obtain ⟨k1, k2⟩ := key hf
          clear key hf
          go_wp2_with fail
          clear k1
          refine (or_check _ _ _ _ _ _ _ _ _ _).mono ?_
          rintro e w7 ⟨rfl, hx7⟩
          have Sw7 := heap_ext Sw6 hx7
          have Tw7 := heap_ext Tw6 hx7
          have HXc := Lib.hid (HXb.out.trans hx7)
          have csw7 := fun j => cell_of_row w7 _ j _ _ _ Sw7
          have ctw7 := fun j => cell_of_row w7 _ j _ _ _ Tw7
          have lsw7 : w.heap.size < w7.heap.size := (Array.getElem?_eq_some_iff.1 Sw7).1
          have ltw7 : gT < w7.heap.size := (Array.getElem?_eq_some_iff.1 Tw7).1
          have Vw7 := Lib.hid (view_ext Vw6.out hx7)
          clear Sw6 Tw6 Vw6 hx7 csw6 ctw6 lsw6 ltw6 HXb
          rcases hc : chk sn.r sn.c sn.t sn.ph sn.p.k sn.p.f sn.p.c sn.p.t sn.p.b
          · clear HK
            go_wp2_with fail
            go_loopw [5, 9] (fun b i wz => ∃ (m : Nat) (z : ExtOf w7), m ≤ O.length ∧ i = .int .i64 m ∧ wz = z.val ∧ b = .bool (sent || (O.take m).any (fun o => o.l.k == 2))) (fun _ i _ => O.length - (intOf i).toNat)
            case atStart => exact ⟨0, ⟨w7, Ext.refl _⟩, Nat.zero_le _, rfl, rfl, by simp⟩
            case round =>
              obtain ⟨m, z, hmn, rfl, rfl, rfl⟩ := hrel
              generalize hB2 : (sent || (O.take m).any (fun o => o.l.k == 2)) = B
              have HB2 := Lib.hid hB2
              clear hB2
              by_cases hlt2 : m < O.length
              · exact absurd hlt2 (by omega)
              · obtain rfl : m = O.length := by omega
                rw [List.take_length] at HB2
                go_wp2_with fail
                refine (or_check _ _ _ _ _ _ _ _ _ _).mono ?_
                rintro e w8 ⟨rfl, hx8⟩
                have e8 : Ext w7 w8 := z.ext.trans hx8
                have S8 := heap_ext Sw7 e8
                have T8 := heap_ext Tw7 e8
                have X8 := HXR.out.trans (HXc.out.trans e8)
                have ct8 := fun j => cell_of_row w8 _ j _ _ _ T8
                have lt8 : gT < w8.heap.size := (Array.getElem?_eq_some_iff.1 T8).1
                have hB7 := inv_key hT2.out hI2.out HB2.out
                have HB7 := Lib.hid hB7.1
                have HS8 := Lib.hid S8
                have HX8 := Lib.hid X8
                clear csw7 ctw7 lsw7 ltw7 Sw7 Tw7 T8 S8 X8 hx8 e8
                rcases hcT : chk T.r T.c T.t T.ph T.p.k T.p.f T.p.c T.p.t T.p.b
                all_goals
                  cases B
                all_goals
                  try have h77 := hB7.2 rfl
                  clear hB7
                  go_wp2_with (refine wpList_store_row rfl 26 _ _ rfl w.heap.size _ rfl rfl 26 _ HS8.out info_state rfl (by simp [Value.oneCell']) ?_)
                  go_roundw
                  case rel => exact ⟨n + 1, T, _, by omega, by go_num, rfl, HB7.out, setRow_heap _ _ _ _ _ _ HS8.out, Ext.setRow HX8.out (Nat.le_refl _) _⟩
                  case measure => simp [intOf]; omega
          · rcases h3 : (sn.ph == 3)
            · clear HK
              go_wp2_with fail
              go_loopw [5, 9] (fun b i wz => ∃ (m : Nat) (z : ExtOf w7), m ≤ O.length ∧ i = .int .i64 m ∧ wz = z.val ∧ b = .bool (sent || (O.take m).any (fun o => o.l.k == 2))) (fun _ i _ => O.length - (intOf i).toNat)
              case atStart => exact ⟨0, ⟨w7, Ext.refl _⟩, Nat.zero_le _, rfl, rfl, by simp⟩
              case round =>
                obtain ⟨m, z, hmn, rfl, rfl, rfl⟩ := hrel
                generalize hB2 : (sent || (O.take m).any (fun o => o.l.k == 2)) = B
                have HB2 := Lib.hid hB2
                clear hB2
                by_cases hlt2 : m < O.length
                · exact absurd hlt2 (by omega)
                · obtain rfl : m = O.length := by omega
                  rw [List.take_length] at HB2
                  go_wp2_with fail
                  refine (or_check _ _ _ _ _ _ _ _ _ _).mono ?_
                  rintro e w8 ⟨rfl, hx8⟩
                  have e8 : Ext w7 w8 := z.ext.trans hx8
                  have S8 := heap_ext Sw7 e8
                  have T8 := heap_ext Tw7 e8
                  have X8 := HXR.out.trans (HXc.out.trans e8)
                  have ct8 := fun j => cell_of_row w8 _ j _ _ _ T8
                  have lt8 : gT < w8.heap.size := (Array.getElem?_eq_some_iff.1 T8).1
                  have hB7 := inv_key hT2.out hI2.out HB2.out
                  have HB7 := Lib.hid hB7.1
                  have HS8 := Lib.hid S8
                  have HX8 := Lib.hid X8
                  clear csw7 ctw7 lsw7 ltw7 Sw7 Tw7 T8 S8 X8 hx8 e8
                  rcases hcT : chk T.r T.c T.t T.ph T.p.k T.p.f T.p.c T.p.t T.p.b
                  all_goals
                    cases B
                  all_goals
                    try have h77 := hB7.2 rfl
                    clear hB7
                    go_wp2_with (refine wpList_store_row rfl 26 _ _ rfl w.heap.size _ rfl rfl 26 _ HS8.out info_state rfl (by simp [Value.oneCell']) ?_)
                    go_roundw
                    case rel => exact ⟨n + 1, T, _, by omega, by go_num, rfl, HB7.out, setRow_heap _ _ _ _ _ _ HS8.out, Ext.setRow HX8.out (Nat.le_refl _) _⟩
                    case measure => simp [intOf]; omega
            · have h7 := HK.out h3
              clear HK
              go_wp2_with fail
              go_loopw [5, 9] (fun b i wz => ∃ (m : Nat) (z : ExtOf w7), m ≤ O.length ∧ i = .int .i64 m ∧ wz = z.val ∧ b = .bool (sent || (O.take m).any (fun o => o.l.k == 2))) (fun _ i _ => O.length - (intOf i).toNat)
              case atStart => exact ⟨0, ⟨w7, Ext.refl _⟩, Nat.zero_le _, rfl, rfl, by simp⟩
              case round =>
                obtain ⟨m, z, hmn, rfl, rfl, rfl⟩ := hrel
                generalize hB2 : (sent || (O.take m).any (fun o => o.l.k == 2)) = B
                have HB2 := Lib.hid hB2
                clear hB2
                by_cases hlt2 : m < O.length
                · exact absurd hlt2 (by omega)
                · obtain rfl : m = O.length := by omega
                  rw [List.take_length] at HB2
                  go_wp2_with fail
                  refine (or_check _ _ _ _ _ _ _ _ _ _).mono ?_
                  rintro e w8 ⟨rfl, hx8⟩
                  have e8 : Ext w7 w8 := z.ext.trans hx8
                  have S8 := heap_ext Sw7 e8
                  have T8 := heap_ext Tw7 e8
                  have X8 := HXR.out.trans (HXc.out.trans e8)
                  have ct8 := fun j => cell_of_row w8 _ j _ _ _ T8
                  have lt8 : gT < w8.heap.size := (Array.getElem?_eq_some_iff.1 T8).1
                  have hB7 := inv_key hT2.out hI2.out HB2.out
                  have HB7 := Lib.hid hB7.1
                  have HS8 := Lib.hid S8
                  have HX8 := Lib.hid X8
                  clear csw7 ctw7 lsw7 ltw7 Sw7 Tw7 T8 S8 X8 hx8 e8
                  rcases hcT : chk T.r T.c T.t T.ph T.p.k T.p.f T.p.c T.p.t T.p.b
                  all_goals
                    cases B
                  all_goals
                    try have h77 := hB7.2 rfl
                    clear hB7
                    go_wp2_with (refine wpList_store_row rfl 26 _ _ rfl w.heap.size _ rfl rfl 26 _ HS8.out info_state rfl (by simp [Value.oneCell']) ?_)
                    go_roundw
                    case rel => exact ⟨n + 1, T, _, by omega, by go_num, rfl, HB7.out, setRow_heap _ _ _ _ _ _ HS8.out, Ext.setRow HX8.out (Nat.le_refl _) _⟩
                    case measure => simp [intOf]; omega
    · obtain rfl : n = L.length := by omega
      go_wp2_with fail
      refine (live_any _).mono ?_
      rintro e w9 ⟨rfl, hx9⟩
      go_wp2_with fail
      go_ret
      exact ⟨rfl, HXR.out.trans hx9⟩
end Go.Proofs.Ytnfehccnofhmnaa

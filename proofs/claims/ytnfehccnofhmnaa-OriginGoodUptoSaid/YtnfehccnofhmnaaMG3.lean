/-
  Walk: the law OriginGood. No condition.
-/
import Derived.Test.YtnfehccnofhmnaaMG2
import Derived.Deep.DeepCutAuto
namespace Go.Proofs.Ytnfehccnofhmnaa
open Go.RowKit
attribute [local go_sem ↓] eql_lEq eql_sEq eql_eEq eql_oEq neq_lEq neq_sEq neq_eEq neq_oEq
attribute [local go_sem] ExtOf.cell ExtOf.frozen ExtOf.lt ExtOf.le
attribute [local go_sem high] ExtOf.cell2 ExtOf.frozen2 ExtOf.lt2 ExtOf.cell3 ExtOf.frozen3 ExtOf.lt3 ExtOf.cellB ExtOf.frozenB ExtOf.cellX ExtOf.frozenX ExtOf.cellX' ExtOf.frozenX'
attribute [local go_sem] BelOf.cell BelOf.frozen BelOf.lt

/-- Are two texts the same? -/
def strEq (a b : ByteArray) : Bool := decide (a = b)
theorem neq_str (a b : ByteArray) (w : World) : (binOp .neq 9 (.string a) (.string b)).run Try.prog w = .ok (.bool (!strEq a b)) w := by
  simp [go_sem, toList_beq, strEq]
attribute [local go_sem ↓] neq_str

theorem cell_zero {w w' : World} {g : Nat} {v : Value} {t : TypeId} {z : Array Value} (h : w.cell? ⟨g, 0, none⟩ = some v) (e : Ext w w') (hz : w'.heap[g]? = some (.cells z t (0, 0))) : z[0]? = some v := by
  have := cell_keep h e
  rw [cell_of_row w' g 0 z t (0, 0) hz] at this
  exact this

theorem chk_new (c : Int) : chkS ⟨0, c, { data := #[] }, 0, l0⟩ = true := by
  have h : lEq 0 0 0 { data := #[] } false 0 0 0 { data := #[] } false = true := by kernel_rfl
  have h2 : (ByteArray.toList { data := #[] }).isEmpty = true := by kernel_rfl
  have h3 : ByteArray.size { data := #[] } ≤ 64 := by decide
  unfold chkS chk l0
  simp [h, h2, h3]

theorem good_key {sn T : St} {x : Ev} {O : List Ou} (h : stepS sn x = (T, O)) (hg : chkS (stepS sn x).1 = true ∧ (stepS sn x).1.c = sn.c ∧ (stepS sn x).2.length ≤ 1 ∧ (sn.ph ≠ 0 → (stepS sn x).1.t = sn.t)) :
    chkS T = true ∧ T.c = sn.c ∧ O.length ≤ 1 ∧ (sn.ph ≠ 0 → T.t = sn.t) := by
  rw [h] at hg
  exact hg

set_option maxRecDepth 100000 in
set_option maxHeartbeats 20000000 in
theorem good_loop (c : Int) (v : Value) (L : List Ev) (w : World) (hR : Row w 8 v L.length (L.flatMap Ev.cs)) (hsz : ∀ e ∈ L, e.t.size ≤ 1048576 ∧ e.l.t.size ≤ 1048576) (hl : longS L = false) :
    Calls Try.prog 5 #[.int .u64 c, v] w fun e w' => e = .returned (.bool true) ∧ Ext w w' := by
  have HR := Lib.hid hR
  have HS := Lib.hid hsz
  have HL := Lib.hid hl
  obtain ⟨a, cap, rfl, hm, hvw⟩ := row_view hR
  have HV := Lib.hid hvw
  clear hvw hR hsz hl
  unfold maxLen at hm
  go_enter Try.func5, Try.ntmps5
  go_wp2_with fail
  refine (long_any _ L _ HR.out HS.out).mono ?_
  rintro e w1 ⟨rfl, hx1⟩
  rw [HL.out]
  go_wp2_with fail
  refine (or_new _ _).mono ?_
  rintro e w2 ⟨rfl, hx2⟩
  have HW2 := Lib.hid (hx1.trans hx2)
  clear hx1 hx2
  go_wp2_with fail
  go_loopw [6] (fun i wr => ∃ (n : Nat) (sn : St), n ≤ L.length ∧ i = .int .i64 n ∧ chkS sn = true ∧ sn.c = c ∧ wr.heap[w2.heap.size]? = some (.cells #[.int .i64 sn.r, .int .u64 sn.c, .string sn.t, .int .i64 sn.ph, .int .i64 sn.p.k, .int .i64 sn.p.f, .int .u64 sn.p.c, .string sn.p.t, .bool sn.p.b] 26 (0, 0)) ∧ Ext w wr) (fun i _ => L.length - (intOf i).toNat)
  case atStart => exact ⟨0, ⟨0, c, { data := #[] }, 0, l0⟩, Nat.zero_le _, rfl, chk_new c, rfl, heap_new rfl, HW2.out.alloc _⟩
  case round =>
    obtain ⟨n, sn, hn, rfl, hck, hsc, hbox, hxr⟩ := hrel
    rename_i wr
    have HCk := Lib.hid hck
    have HC0 := Lib.hid hsc
    have HB := Lib.hid hbox
    have HXR := Lib.hid hxr
    clear hck hsc
    by_cases hlt : n < L.length
    · obtain ⟨g, off, rfl, hg, hcell⟩ := HV.out (by omega)
      obtain ⟨x, hx⟩ : ∃ x, L[n]? = some x := ⟨_, List.getElem?_eq_getElem hlt⟩
      obtain ⟨q0, q1, q2, q3, q4, q5, q6, q7⟩ := ev_cellsO (fun j u hj => cell_keep (hcell j u hj) hxr) hx
      have hcb := fun j => cell_of_row wr _ j _ _ _ hbox
      have hlb : w2.heap.size < wr.heap.size := (Array.getElem?_eq_some_iff.1 hbox).1
      have hgr : g < wr.heap.size := Nat.lt_of_lt_of_le (hg (by omega)) hxr.size
      have i0 : (0 : Int) ≤ (n : Int) := by omega
      have i1 : (n : Int) < (L.length : Int) := by omega
      clear hx hcell hg hbox hxr
      go_wp2_with fail
      refine wp_region_mixF (af := ?af) #[.int .i64 0, .int .u64 0, .string { data := #[] }, .int .i64 0, .int .i64 0, .int .i64 0, .int .u64 0, .string { data := #[] }, .bool false] 26 [true, true, true, true, true, false, false, false, false, false, false, false] [false, false, false, false, false, false, true, true, true, false, false, true] 114 4 (C := Ext wr) (by kernel_rfl) rfl (by kernel_rfl) (fun _ _ h e => Ext.trans h e) (Ext.refl _).drew ?q ?r
      case q =>
        intro w' hw'
        obtain ⟨y, rfl⟩ := ext_of hw'
        simp only [pickT, if_true, if_false, Bool.false_eq_true]
        repeat (go_big_quiet_step (fail))
        exact rfl
      case r =>
        simp only [restL, if_true, if_false, Bool.false_eq_true]
        refine ⟨fun a w => by simp [go_sem], ?_⟩
        intro x1
        go_wp2_with fail
        refine (or_stepT _ _ _ _ _ _ _ _ _ _ _ _ _ _ _ _ _ _).mono ?_
        rintro e w4 ⟨T, O, v, hT, rfl, hv, hx4⟩
        go_wp2_with fail
        refine ⟨hx4, ?_⟩
        refine ⟨_, .inl ⟨rfl, fun w _ => ⟨rfl, rfl⟩⟩, ?_⟩
        refine ⟨_, .inl ⟨rfl, fun w _ => ⟨rfl, rfl⟩⟩, ?_⟩
        refine ⟨_, .inl ⟨rfl, fun w _ => ⟨rfl, rfl⟩⟩, ?_⟩
        intro x2 gT hgT hzT
        have e2 : Ext wr x2.val := (((Ext.refl wr).drew.val x1).trans hx4).val x2
        intro x3
        go_wp2_with (refine wpList_store_row rfl 26 _ _ rfl gT _ rfl rfl 26 _ (heap_ext hzT x3.ext) info_state rfl (by simp [Value.oneCell']) ?_)
        refine ⟨(e2.val x3).setRow hgT _, ?_⟩
        refine ⟨_, .inl ⟨rfl, fun w _ => ⟨rfl, rfl⟩⟩, ?_⟩
        intro x4
        have eT : x4.val.heap[gT]? = some (.cells #[.int .i64 T.r, .int .u64 T.c, .string T.t, .int .i64 T.ph, .int .i64 T.p.k, .int .i64 T.p.f, .int .u64 T.p.c, .string T.p.t, .bool T.p.b] 26 (0, 0)) := heap_ext (setRow_heap _ _ _ _ _ _ (heap_ext hzT x3.ext)) x4.ext
        have eS : x4.val.heap[w2.heap.size]? = some (.cells #[.int .i64 sn.r, .int .u64 sn.c, .string sn.t, .int .i64 sn.ph, .int .i64 sn.p.k, .int .i64 sn.p.f, .int .u64 sn.p.c, .string sn.p.t, .bool sn.p.b] 26 (0, 0)) := heap_ext HB.out (((e2.val x3).setRow hgT _).val x4)
        have eX : Ext wr x4.val := ((e2.val x3).setRow hgT _).val x4
        have eV := (own_view hv)
        obtain ⟨aV, capV, rfl, hmV, -⟩ := eV
        generalize x4.val = w5 at eT eS eX ⊢
        clear x4 x3 x2 hzT hv hx4 e2 q0 q1 q2 q3 q4 q5 q6 q7
        have hgood := good_step x HCk.out
        have hneq : w2.heap.size < gT := Nat.lt_of_lt_of_le hlb hgT
        have HG := Lib.hid (good_key hT hgood)
        have hO : (O.length : Int) ≤ 1 := by have := HG.out.2.2.1; omega
        have Sw5 := eS
        have Tw5 := eT
        have Xw5 := Lib.hid eX
        clear hT hcb hgood eT eS eX
        have ct5 := fun j => cell_of_row w5 _ j _ _ _ Tw5
        have lt5 : gT < w5.heap.size := (Array.getElem?_eq_some_iff.1 Tw5).1
        unfold maxLen at hmV
        go_wp2_with fail
        refine (or_check _ _ _ _ _ _ _ _ _ _).mono ?_
        rintro e w6 ⟨rfl, hx6⟩
        rw [show chk T.r T.c T.t T.ph T.p.k T.p.f T.p.c T.p.t T.p.b = true from HG.out.1]
        have Sw6 := heap_ext Sw5 hx6
        have Tw6 := heap_ext Tw5 hx6
        have Xw6 := Lib.hid (Xw5.out.trans hx6)
        have csw6 := fun j => cell_of_row w6 _ j _ _ _ Sw6
        have ctw6 := fun j => cell_of_row w6 _ j _ _ _ Tw6
        have lsw6 : w2.heap.size < w6.heap.size := (Array.getElem?_eq_some_iff.1 Sw6).1
        have ltw6 : gT < w6.heap.size := (Array.getElem?_eq_some_iff.1 Tw6).1
        clear hx6 ct5 lt5 Sw5 Tw5 Xw5
        have kcc : (T.c != c) = false := by rw [HG.out.2.1, HC0.out]; simp
        have HGC := Lib.hid (good_cases HG.out.1)
        go_upto_region 10 with fail
        go_cut [54] (fun v wx => v = .bool false ∧ wx.heap[w2.heap.size]? = some (.cells #[.int .i64 sn.r, .int .u64 sn.c, .string sn.t, .int .i64 sn.ph, .int .i64 sn.p.k, .int .i64 sn.p.f, .int .u64 sn.p.c, .string sn.p.t, .bool sn.p.b] 26 (0, 0)) ∧ wx.heap[gT]? = some (.cells #[.int .i64 T.r, .int .u64 T.c, .string T.t, .int .i64 T.ph, .int .i64 T.p.k, .int .i64 T.p.f, .int .u64 T.p.c, .string T.p.t, .bool T.p.b] 26 (0, 0)) ∧ Hid (Ext wr wx))
        case first =>
          rcases hs0 : (sn.ph != 0)
          · go_wp2_with fail
            go_meet
            exact ⟨rfl, Sw6, Tw6, Xw6⟩
          · have kts : T.t.toList = sn.t.toList := by
              have h0 : sn.ph ≠ 0 := by simpa using hs0
              rw [HG.out.2.2.2 h0]
            go_wp2_with fail
            go_meet
            exact ⟨rfl, Sw6, Tw6, Xw6⟩
        case rest =>
          clear Sw6 Tw6 Xw6 csw6 ctw6 lsw6 ltw6
          obtain ⟨rfl, hcut⟩ := hcut
          have Swa := hcut.1
          have Twa := hcut.2.1
          have Xwa := hcut.2.2
          have cswa := fun j => cell_of_row wc _ j _ _ _ Swa
          have ctwa := fun j => cell_of_row wc _ j _ _ _ Twa
          have lswa : w2.heap.size < wc.heap.size := (Array.getElem?_eq_some_iff.1 Swa).1
          have ltwa : gT < wc.heap.size := (Array.getElem?_eq_some_iff.1 Twa).1
          clear hcut
          go_upto_region 12 with fail
          go_cut [85] (fun v wx => v = .bool false ∧ wx.heap[w2.heap.size]? = some (.cells #[.int .i64 sn.r, .int .u64 sn.c, .string sn.t, .int .i64 sn.ph, .int .i64 sn.p.k, .int .i64 sn.p.f, .int .u64 sn.p.c, .string sn.p.t, .bool sn.p.b] 26 (0, 0)) ∧ wx.heap[gT]? = some (.cells #[.int .i64 T.r, .int .u64 T.c, .string T.t, .int .i64 T.ph, .int .i64 T.p.k, .int .i64 T.p.f, .int .u64 T.p.c, .string T.p.t, .bool T.p.b] 26 (0, 0)) ∧ Hid (Ext wr wx))
          case first =>
            rcases HGC.out with ⟨k6, k0, hfin, kc, kt, kk⟩ | ⟨k6, k0, hfin⟩ | ⟨k6, k0⟩ | ⟨k6, k0, hfin, T2, o2, htick, hto⟩
            · have kt' : T.p.t.toList = T.t.toList := by rw [kt]
              clear kt
              rcases kk with kk | kk
              · have k2 : (T.p.k != 2) = false := by simp [kk]
                clear kk
                go_wp2_with fail
                go_meet
                exact ⟨rfl, Swa, Twa, Xwa⟩
              · have k2 : (T.p.k != 2) = true := by simp [kk]
                have k3 : (T.p.k != 6) = false := by simp [kk]
                clear kk
                go_wp2_with fail
                go_meet
                exact ⟨rfl, Swa, Twa, Xwa⟩
            · clear hfin
              go_wp2_with fail
              go_meet
              exact ⟨rfl, Swa, Twa, Xwa⟩
            · go_wp2_with fail
              go_meet
              exact ⟨rfl, Swa, Twa, Xwa⟩
            · clear hfin htick hto
              go_wp2_with fail
              go_meet
              exact ⟨rfl, Swa, Twa, Xwa⟩
          case rest =>
            clear Swa Twa Xwa cswa ctwa lswa ltwa
            obtain ⟨rfl, hcut⟩ := hcut
            have Swb := hcut.1
            have Twb := hcut.2.1
            have Xwb := hcut.2.2
            have cswb := fun j => cell_of_row wc _ j _ _ _ Swb
            have ctwb := fun j => cell_of_row wc _ j _ _ _ Twb
            have lswb : w2.heap.size < wc.heap.size := (Array.getElem?_eq_some_iff.1 Swb).1
            have ltwb : gT < wc.heap.size := (Array.getElem?_eq_some_iff.1 Twb).1
            clear hcut
            go_upto_region 14 with fail
            go_cut [93] (fun v wx => v = .bool ((T.ph != 0) && !finS T) ∧ wx.heap[w2.heap.size]? = some (.cells #[.int .i64 sn.r, .int .u64 sn.c, .string sn.t, .int .i64 sn.ph, .int .i64 sn.p.k, .int .i64 sn.p.f, .int .u64 sn.p.c, .string sn.p.t, .bool sn.p.b] 26 (0, 0)) ∧ wx.heap[gT]? = some (.cells #[.int .i64 T.r, .int .u64 T.c, .string T.t, .int .i64 T.ph, .int .i64 T.p.k, .int .i64 T.p.f, .int .u64 T.p.c, .string T.p.t, .bool T.p.b] 26 (0, 0)) ∧ Hid (Ext wr wx))
            case first =>
              rcases k0 : (T.ph != 0)
              · go_wp2_with fail
                go_meet
                exact ⟨by rw [k0]; rfl, Swb, Twb, Xwb⟩
              · go_wp2_with fail
                refine (or_final _ _ _ _ _ _ _ _ _ _).mono ?_
                rintro e w7 ⟨rfl, hx7⟩
                rw [show finS ⟨T.r, T.c, T.t, T.ph, ⟨T.p.k, T.p.f, T.p.c, T.p.t, T.p.b⟩⟩ = finS T from rfl]
                have Sw7 := heap_ext Swb hx7
                have Tw7 := heap_ext Twb hx7
                have Xw7 := Lib.hid (Xwb.out.trans hx7)
                clear hx7 cswb ctwb lswb ltwb
                go_wp2_with fail
                go_meet
                exact ⟨by rw [k0]; rfl, Sw7, Tw7, Xw7⟩
            case rest =>
              clear Swb Twb Xwb cswb ctwb lswb ltwb
              obtain ⟨rfl, hcut⟩ := hcut
              have Swd := hcut.1
              have Twd := hcut.2.1
              have Xwd := hcut.2.2
              have cswd := fun j => cell_of_row wc _ j _ _ _ Swd
              have ctwd := fun j => cell_of_row wc _ j _ _ _ Twd
              have lswd : w2.heap.size < wc.heap.size := (Array.getElem?_eq_some_iff.1 Swd).1
              have ltwd : gT < wc.heap.size := (Array.getElem?_eq_some_iff.1 Twd).1
              clear hcut
              rcases hb : ((T.ph != 0) && !finS T)
              · go_wp2_with (refine wpList_store_row rfl 26 _ _ rfl w2.heap.size _ rfl rfl 26 _ Swd info_state rfl (by simp [Value.oneCell']) ?_)
                go_roundw
                case rel => exact ⟨n + 1, T, by omega, by go_num, HG.out.1, HG.out.2.1.trans HC0.out, setRow_heap _ _ _ _ _ _ Swd, Ext.setRow (HXR.out.trans Xwd.out) HW2.out.size _⟩
                case measure => simp [intOf]; omega
              · obtain ⟨T2, o2, htick, hto⟩ : ∃ T2 o2, stepS T (tickE T.c) = (T2, [o2]) ∧ o2.to = 2 := by
                  rcases HGC.out with ⟨k6, k0, hfin, kc, kt, kk⟩ | ⟨k6, k0, hfin⟩ | ⟨k6, k0⟩ | ⟨k6, k0, hfin, T2, o2, htick, hto⟩
                  · simp [hfin] at hb
                  · simp [hfin] at hb
                  · simp [k0] at hb
                  · exact ⟨T2, o2, htick, hto⟩
                go_wp2_with fail
                refine (or_step1 _ _ _ _ _ _ _ _ _ _ _ _ _ _ _ _ _ _ T2 o2 htick).mono ?_
                rintro e w8 ⟨g8, cap8, rfl, hg8, hp8, -, hx8⟩
                rw [hto] at hp8
                have Sw8 := heap_ext Swd hx8
                have Tw8 := heap_ext Twd hx8
                have Xw8 := Lib.hid (Xwd.out.trans hx8)
                have csw8 := fun j => cell_of_row w8 _ j _ _ _ Sw8
                have ctw8 := fun j => cell_of_row w8 _ j _ _ _ Tw8
                have lsw8 : w2.heap.size < w8.heap.size := (Array.getElem?_eq_some_iff.1 Sw8).1
                have ltw8 : gT < w8.heap.size := (Array.getElem?_eq_some_iff.1 Tw8).1
                clear hx8 cswd ctwd lswd ltwd htick hto hb
                go_wp2_with (refine wpList_store_row rfl 26 _ _ rfl w2.heap.size _ rfl rfl 26 _ (heap_ext Sw8 ((Ext.refl _).alloc _)) info_state rfl (by simp [Value.oneCell']) ?_)
                go_roundw
                case rel => exact ⟨n + 1, T, by omega, by go_num, HG.out.1, HG.out.2.1.trans HC0.out, setRow_heap _ _ _ _ _ _ (heap_ext Sw8 ((Ext.refl _).alloc _)), Ext.setRow ((HXR.out.trans Xw8.out).alloc _) HW2.out.size _⟩
                case measure => simp [intOf]; omega
    · obtain rfl : n = L.length := by omega
      go_wp2_with fail
      refine (live_any _).mono ?_
      rintro e w9 ⟨rfl, hx9⟩
      go_wp2_with fail
      go_ret
      exact ⟨rfl, HXR.out.trans hx9⟩
end Go.Proofs.Ytnfehccnofhmnaa

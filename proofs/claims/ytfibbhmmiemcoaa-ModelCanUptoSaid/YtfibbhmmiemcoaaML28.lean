/-
  Walk: a node's term is made: it is laid behind the others. No condition.
-/
import Derived.Test.YtfibbhmmiemcoaaML27
import Derived.Deep.DeepCutAuto
set_option linter.all false
namespace Go.Proofs.Ytfibbhmmiemcoaa
open Go.RowKit
attribute [local go_sem] ExtOf.cell ExtOf.frozen ExtOf.lt ExtOf.le
attribute [local go_sem high] ExtOf.cell2 ExtOf.frozen2 ExtOf.lt2 ExtOf.cell3 ExtOf.frozen3 ExtOf.lt3 ExtOf.cellX ExtOf.frozenX ExtOf.cellX' ExtOf.frozenX'

theorem info_ent : (Try.prog.info? 129).map (fun i => (i.zero, i.size, i.bytes)) = some (some (.agg #[.int .i64 0, .int .i64 0, .int .i64 0, .int .u64 0, .string { data := #[] }, .int .i64 0, .int .i64 0, .int .i64 0, .int .i64 0]), 9, 80) := by kernel_rfl

theorem non_ofK {a b : World} (e : Ext a b) : a.grownBy b none := ⟨e.os, e.tape, e.output, e.size, fun k hk _ => e.block k hk⟩
theorem non_extK {a b c : World} (h : a.grownBy b none) (e : Ext b c) : a.grownBy c none := but_trans h (non_ofK e)

section
variable {P : Program} {ops : Array Oper} {rest : List Oper} {o : Oper} {a : Act} {w : World} {Q : Exit → Act → World → Prop}
theorem wpList_updateG {α : Type} [DecidableEq α] {kv : α → Value} {T kt et : TypeId} (hgd : o.guard = none) (m k x : Operand) (ho : o.op = .mapUpdate T m k x) (hK : KeysOk P kt kv) (hT : P.underlying T = some (.map kt et)) (b : Nat) (S : List (α × Value)) (y : α) (v : Value)
    (hm : a.eval m = .map (some b)) (hkv : a.eval k = kv y) (hx : a.eval x = v) (hM : MapG kv b S w)
    (h : ∀ ob, MapG kv b (putM S y v) (setB w b ob) → wpList P ops Q rest (a.put o.dst undef) (setB w b ob)) : wpList P ops Q (o :: rest) a w := by
  refine wpList_plain hgd fun _ hK' => ?_
  obtain ⟨ob, hr, hM'⟩ := run_updateG hK hT hM y v
  unfold Oper.wp execOp
  simp only [ho, hm, hkv, hx, Sem.run_bind, hr, Result.andThen_ok]
  exact hK' _ _ (h ob hM')
end

theorem row_lo {w : World} {B : Nat} {e : TypeId} {size n : Nat} {v : Value} {xs : List Value} (h : w.ownsRow B e size v n xs) : ∀ g ∈ rowB v, B ≤ g := by
  intro g hg
  rcases h.2 with ⟨h0, _⟩ | ⟨g', c', cur, h0, hb, _⟩
  · subst h0; simp [rowB, Value.ownBlock] at hg
  · subst h0
    simp [rowB, Value.ownBlock] at hg
    omega
/-- What is behind the append: the row with one more entry, the head that holds it. -/
def LaidP (B pb mb : Nat) (v : Value) (L : List Tt) (nd : Nd) (sz dp : Int) (w wx : World) : Prop :=
  ∃ v', wx.heap[pb]? = some (.cells #[v', .map (some mb)] 74 (0, 0)) ∧ wx.ownsRow B 129 9 v' (L.length + 1) (L.flatMap (entC L) ++ [.int .i64 nd.k, .int .i64 nd.f, .int .i64 nd.t, .int .u64 nd.n, .string nd.s, .int .i64 nd.a, .int .i64 nd.b, .int .i64 sz, .int .i64 dp]) ∧ Keeps (pb :: rowB v) w wx ∧ (∀ g ∈ rowB v', g ∈ rowB v ∨ w.heap.size ≤ g) ∧ wx.heap[w.heap.size]? = some (.cells #[.int .i64 nd.k, .int .i64 nd.f, .int .i64 nd.t, .int .u64 nd.n, .string nd.s, .int .i64 nd.a, .int .i64 nd.b] 85 (0, 0))

set_option maxRecDepth 100000 in
set_option maxHeartbeats 8000000 in
theorem te_make_new (B pb mb : Nat) (v : Value) (L : List Tt) (nd : Nd) (r sz dp : Int) (hr : lookG (L.map fun t => (ndT L t, .int .i64 (idT L t))) nd (.int .i64 0) true = .tuple #[.int .i64 r, .bool false]) (w : World) (hP : PoolAt B pb mb v L w) (hL : L.length ≤ 60000)
    (hck : ∀ w', Ext w w' → Calls Try.prog 68 #[.pointer (some ⟨pb, 0, none⟩), ndV nd] w' fun e w'' => e = .returned (.tuple #[.int .i64 sz, .int .i64 dp, .int .i64 0]) ∧ Ext w' w'') :
    Calls Try.prog 33 #[.pointer (some ⟨pb, 0, none⟩), ndV nd] w fun e w' => e = .returned (.tuple #[.int .i64 ((L.length : Int) + 1), .int .i64 0]) ∧ ∃ v', Keeps (pb :: mb :: rowB v) w w' ∧ w'.heap[pb]? = some (.cells #[v', .map (some mb)] 74 (0, 0)) ∧ w'.ownsRow B 129 9 v' (L.length + 1) (L.flatMap (entC L) ++ [.int .i64 nd.k, .int .i64 nd.f, .int .i64 nd.t, .int .u64 nd.n, .string nd.s, .int .i64 nd.a, .int .i64 nd.b, .int .i64 sz, .int .i64 dp]) ∧ MapG ndV mb (putM (L.map fun t => (ndT L t, .int .i64 (idT L t))) nd (.int .i64 ((L.length : Int) + 1))) w' ∧ ∀ g ∈ rowB v', g ∈ rowB v ∨ w.heap.size ≤ g := by
  obtain ⟨ti0, hi, hz0, hz1, hz2⟩ := info_parts info_ent
  have hlk := fun w' (e : Ext w w') => look_nd (hP.ext e) nd
  simp only [hr] at hlk
  unfold ndV at hlk hck ⊢
  have hb := hP.head
  have lb : pb < w.heap.size := (Array.getElem?_eq_some_iff.1 hb).1
  have HP := Lib.hid hP
  obtain ⟨a, cap, rfl, hm, _⟩ := own_view hP.row
  have hcb := fun j => cell_of_row w _ j _ _ _ hb
  have HLK := Lib.hid hlk
  have HCK := Lib.hid hck
  have hlen : ¬ (65536 : Int) ≤ (L.length : Int) := by omega
  clear hlk hr hb hck hP
  go_enter Try.func33, Try.ntmps33
  go_wp2_with fail
  refine (HCK.out _ ((Ext.refl w).alloc _)).mono ?_
  rintro e w1 ⟨rfl, hx1⟩
  obtain ⟨y1, rfl⟩ := ext_of hx1
  clear hx1
  go_upto_region 6 with fail
  have hk := HLK.out _ (((Ext.refl w).alloc (.cells #[.int .i64 nd.k, .int .i64 nd.f, .int .i64 nd.t, .int .u64 nd.n, .string nd.s, .int .i64 nd.a, .int .i64 nd.b] 85)).trans y1.ext).drew
  have HX : Hid (Ext w y1.val.drew) := Lib.hid (((Ext.refl w).alloc (.cells #[.int .i64 nd.k, .int .i64 nd.f, .int .i64 nd.t, .int .u64 nd.n, .string nd.s, .int .i64 nd.a, .int .i64 nd.b] 85)).trans y1.ext).drew
  go_cut [9, 10] (fun u b wx => u = .int .i64 r ∧ b = .bool false ∧ Hid (Ext w wx ∧ wx.heap[w.heap.size]? = some (.cells #[.int .i64 nd.k, .int .i64 nd.f, .int .i64 nd.t, .int .u64 nd.n, .string nd.s, .int .i64 nd.a, .int .i64 nd.b] 85 (0, 0))))
  case first =>
    go_region
    all_goals go_wp2_with fail
    all_goals go_meet
    all_goals exact ⟨rfl, rfl, Lib.hid ⟨HX.out, heap_ext (heap_new rfl) (y1.ext.drew)⟩⟩
  case rest =>
    obtain ⟨rfl, rfl, HC⟩ := hcut
    obtain ⟨hxw, hnd⟩ := HC.out
    obtain ⟨y2, rfl⟩ := ext_of hxw
    have HND := Lib.hid hnd
    clear hnd hxw HC HCK HLK hk HX
    go_upto_region 9 with fail
    clear hlen
    have hlen : ¬ (65536 : Int) ≤ (L.length : Int) := by omega
    have hlen2 : ¬ 65536 ≤ L.length := by omega
    clear hL hm
    go_upto_region 11 with fail
    have HG : Hid (∀ g, a = some ⟨g, 0, none⟩ → g < w.heap.size) := Lib.hid fun g hg => by
      rcases HP.out.row.2 with ⟨h0, _⟩ | ⟨g', c', cur, h0, _, hh, _⟩
      · simp [hg] at h0
      · simp only [Value.slice.injEq, hg, Option.some.injEq, Addr.mk.injEq] at h0
        rw [h0.1.1]; exact (Array.getElem?_eq_some_iff.1 hh).1
    have hb1 := heap_ext HP.out.head y2.ext
    have ho1 := own_ext HP.out.row y2.ext
    have hlo := HP.out.lo
    go_cut [] (fun wx => Hid (LaidP B pb mb (.slice a L.length cap) L nd sz dp w wx))
    case first =>
      obtain ⟨w1, hw1⟩ : ∃ w1, w1 = y2.val := ⟨_, rfl⟩
      have hx1 : Ext w w1 := by rw [hw1]; exact y2.ext
      have HND1 := HND.out
      rw [← hw1] at hb1 ho1 HND1 ⊢
      clear hw1 HND hcb
      have hcb := fun j => cell_of_row w1 _ j _ _ _ hb1
      have hcn := fun j => cell_of_row w1 _ j _ _ _ HND1
      have lb1 : pb < w1.heap.size := (Array.getElem?_eq_some_iff.1 hb1).1
      have ln1 : w.heap.size < w1.heap.size := (Array.getElem?_eq_some_iff.1 HND1).1
      have HB1 := Lib.hid hb1
      have HX1 := Lib.hid hx1
      have HO1 := Lib.hid ho1
      have HN1 := Lib.hid HND1
      clear hb1 hx1 ho1 HND1
      rcases HO1.out.2 with ⟨hv, hn⟩ | ⟨g, cap2, cur, hv, hbg, hg, hnc, hcm, hcs, htk⟩
      · obtain rfl : L = [] := List.length_eq_zero_iff.1 hn
        cases hv
        refine wp_region_late (af := ?af1) [true, true, true, true, true, true, true, true, true, false, false, false, false, false] [false, false, false, false, false, false, false, false, false, false, false, true, true, true] 66 (fun w' => w1.grownBy w' none) (by kernel_rfl) rfl (by kernel_rfl) (fun _ _ h e => non_extK h e) (non_ofK (Ext.refl w1).drew) ?q ?r
        case q =>
          intro w' hw'
          obtain ⟨y, rfl⟩ : ∃ y : ExtOf w1, w' = y.val := ⟨⟨w', ext_grown hw'⟩, rfl⟩
          simp only [pickT, if_true, if_false, Bool.false_eq_true]
          repeat (go_big_quiet_step (fail))
          exact rfl
        case r =>
          simp only [pickN, if_true, if_false, Bool.false_eq_true]
          intro x1
          have e1 : Ext w1 x1.val := (Ext.refl _).drew.val x1
          go_wp2_with fail
          refine ⟨non_ofK (e1.alloc _), ?_⟩
          intro x2
          have e2 : Ext w1 x2.val := (e1.alloc _).val x2
          go_wp2_with (at_builtin; refine unHd ?_)
          unfold Hd2
          have hbx2 : B ≤ x2.val.heap.size := by have := HX1.out.size; have := e2.size; omega
          refine wpList_app5 B 72 129 ti0 _ 9 80 Try.underlying72 hi hz0 hz1 hz2 rfl (by decide) rfl _ _ rfl _ 0 _ rfl (own_ext HO1.out e2) hbx2 x1.val.heap.size 1 1 #[.int .i64 nd.k, .int .i64 nd.f, .int .i64 nd.t, .int .u64 nd.n, .string nd.s, .int .i64 nd.a, .int .i64 nd.b, .int .i64 sz, .int .i64 dp] (by decide) rfl (heap_ext (heap_new rfl) x2.ext) rfl (by simp [Value.oneCell']) (by unfold maxLen; omega) (by omega) ?_
          intro v2 w2 hown2 hg2 hr2
          obtain ⟨g2, cap3, rfl⟩ : ∃ g2 cap3, v2 = .slice (some ⟨g2, 0, none⟩) (0 + 1) cap3 := by
            rcases hown2.2 with ⟨_, h0⟩ | ⟨g2, cap2, _, h0, _⟩
            · omega
            · exact ⟨g2, cap2, h0⟩
          have c2 : w1.grownBy w2 none := but_trans (non_ofK e2) hg2
          refine ⟨c2, ?_⟩
          intro x3
          go_wp2_with fail
          try refine ⟨fun h => absurd h (by decide), ?_⟩
          intro x4
          go_wp2_with fail
          try refine ⟨fun h => absurd h (by decide), ?_⟩
          intro x5
          have c5 : w1.grownBy x5.val none := non_extK c2 ((x3.ext.trans x4.ext).trans x5.ext)
          have hb5 : x5.val.heap[pb]? = some (.cells #[.slice none 0 0, .map (some mb)] 74 (0, 0)) := (c5.block pb lb1 (by simp)).trans HB1.out
          have hn5 := (c5.block w.heap.size ln1 (by simp)).trans HN1.out
          have o5 := own_ext hown2 ((x3.ext.trans x4.ext).trans x5.ext)
          have hcb5 := fun j => cell_of_row x5.val _ j _ _ _ hb5
          have hfb5 := fun j => frozen_of_row x5.val _ j _ _ hb5
          generalize x5.val = w5 at c5 hb5 hn5 o5 hcb5 hfb5 ⊢
          have HB5 := Lib.hid hb5
          have HN5 := Lib.hid hn5
          clear hb5 hn5
          go_wp2_with fail
          try refine ⟨fun h => absurd h (by decide), ?_⟩
          intro x6
          go_wp2_with fail
          go_meet
          refine Lib.hid ⟨.slice (some ⟨g2, 0, none⟩) (0 + 1) cap3, by simpa using heap_ext (setCell_row HB5.out _) x6.ext, ?_, ?_, fun k hk => (hr2 k hk).imp id (fun h => by have := HX1.out.size; have := e2.size; omega), heap_ext ((cell_other (by omega)).trans HN5.out) x6.ext⟩
          · have := own_ext (own_same o5 (fun k hk _ => cell_other (o := 0) (v := .slice (some ⟨g2, 0, none⟩) (0 + 1) cap3) (show k ≠ pb by omega))) x6.ext
            simpa using this
          · exact ((keeps_grown ((Keeps.refl _ w).ext HX1.out) (v := .slice none 0 0) c5 (fun _ h => List.mem_cons_of_mem _ h)).setCell (.inl (.head _)) 0 _).ext x6.ext
      · simp only [Value.slice.injEq, true_and] at hv
        obtain ⟨rfl, rfl⟩ := hv
        have lg : g < w1.heap.size := (Array.getElem?_eq_some_iff.1 hg).1
        have lgw : g < w.heap.size := HG.out g rfl
        have lbg : pb < g := by omega
        clear hg hnc hcm hcs htk
        refine wp_region_late (af := ?af2) [true, true, true, true, true, true, true, true, true, false, false, false, false, false] [false, false, false, false, false, false, false, false, false, false, false, true, true, true] 66 (fun w' => w1.grownBy w' (some g)) (by kernel_rfl) rfl (by kernel_rfl) (fun _ _ h e => but_ext h e) (but_ext (but_refl g w1) (Ext.refl w1).drew) ?q ?r
        case q =>
          intro w' hw'
          obtain ⟨y, rfl⟩ : ∃ y : ButOf g w1, w' = y.val := ⟨⟨w', hw'⟩, rfl⟩
          simp only [pickT, if_true, if_false, Bool.false_eq_true]
          repeat (go_big_quiet_step (fail))
          exact rfl
        case r =>
          simp only [pickN, if_true, if_false, Bool.false_eq_true]
          intro x1
          have e1 : Ext w1 x1.val := (Ext.refl _).drew.val x1
          go_wp2_with fail
          refine ⟨but_ext (but_refl g w1) (e1.alloc _), ?_⟩
          intro x2
          have e2 : Ext w1 x2.val := (e1.alloc _).val x2
          go_wp2_with (at_builtin; refine unHd ?_)
          unfold Hd2
          have hbx2 : B ≤ x2.val.heap.size := by have := HX1.out.size; have := e2.size; omega
          refine wpList_app5 B 72 129 ti0 _ 9 80 Try.underlying72 hi hz0 hz1 hz2 rfl (by decide) rfl _ _ rfl _ L.length _ rfl (own_ext HO1.out e2) hbx2 x1.val.heap.size 1 1 #[.int .i64 nd.k, .int .i64 nd.f, .int .i64 nd.t, .int .u64 nd.n, .string nd.s, .int .i64 nd.a, .int .i64 nd.b, .int .i64 sz, .int .i64 dp] (by decide) rfl (heap_ext (heap_new rfl) x2.ext) rfl (by simp [Value.oneCell']) (by unfold maxLen; omega) (by omega) ?_
          intro v2 w2 hown2 hg2 hr2
          obtain ⟨g2, cap3, rfl⟩ : ∃ g2 cap3, v2 = .slice (some ⟨g2, 0, none⟩) (L.length + 1) cap3 := by
            rcases hown2.2 with ⟨_, h0⟩ | ⟨g2, cap2, _, h0, _⟩
            · omega
            · exact ⟨g2, cap2, h0⟩
          have c2 : w1.grownBy w2 (some g) := but_trans (but_ext (but_refl g w1) e2) hg2
          refine ⟨c2, ?_⟩
          intro x3
          go_wp2_with fail
          try refine ⟨fun h => absurd h (by decide), ?_⟩
          intro x4
          go_wp2_with fail
          try refine ⟨fun h => absurd h (by decide), ?_⟩
          intro x5
          have c5 : w1.grownBy x5.val (some g) := but_ext c2 ((x3.ext.trans x4.ext).trans x5.ext)
          have hb5 : x5.val.heap[pb]? = some (.cells #[.slice (some ⟨g, 0, none⟩) L.length cap, .map (some mb)] 74 (0, 0)) := (c5.block pb lb1 (by simp; omega)).trans HB1.out
          have hn5 := (c5.block w.heap.size ln1 (by simp; omega)).trans HN1.out
          have o5 := own_ext hown2 ((x3.ext.trans x4.ext).trans x5.ext)
          have hcb5 := fun j => cell_of_row x5.val _ j _ _ _ hb5
          have hfb5 := fun j => frozen_of_row x5.val _ j _ _ hb5
          generalize x5.val = w5 at c5 hb5 hn5 o5 hcb5 hfb5 ⊢
          have HB5 := Lib.hid hb5
          have HN5 := Lib.hid hn5
          clear hb5 hn5
          go_wp2_with fail
          try refine ⟨fun h => absurd h (by decide), ?_⟩
          intro x6
          go_wp2_with fail
          go_meet
          refine Lib.hid ⟨.slice (some ⟨g2, 0, none⟩) (L.length + 1) cap3, by simpa using heap_ext (setCell_row HB5.out _) x6.ext, ?_, ?_, fun k hk => (hr2 k hk).imp id (fun h => by have := HX1.out.size; have := e2.size; omega), heap_ext ((cell_other (by omega)).trans HN5.out) x6.ext⟩
          · have := own_ext (own_same o5 (fun k hk _ => cell_other (o := 0) (v := .slice (some ⟨g2, 0, none⟩) (L.length + 1) cap3) (show k ≠ pb by omega))) x6.ext
            simpa using this
          · exact ((keeps_grown ((Keeps.refl _ w).ext HX1.out) (v := .slice (some ⟨g, 0, none⟩) L.length cap) c5 (fun _ h => List.mem_cons_of_mem _ h)).setCell (.inl (.head _)) 0 _).ext x6.ext
    case rest =>
      obtain ⟨v', hb2, ho2, hk2, hr2, hn2⟩ := hcut.out
      obtain ⟨g, cap3, rfl⟩ : ∃ g cap3, v' = .slice (some ⟨g, 0, none⟩) (L.length + 1) cap3 := by
        rcases ho2.2 with ⟨_, h0⟩ | ⟨g2, cap2, _, h0, _⟩
        · omega
        · exact ⟨g2, cap2, h0⟩
      clear hcut hcb hb1 ho1
      have hcb := fun j => cell_of_row wc _ j _ _ _ hb2
      have hcn := fun j => cell_of_row wc _ j _ _ _ hn2
      have lb2 : pb < wc.heap.size := (Array.getElem?_eq_some_iff.1 hb2).1
      have ln2 : w.heap.size < wc.heap.size := (Array.getElem?_eq_some_iff.1 hn2).1
      have HB2 := Lib.hid hb2
      have HN2 := Lib.hid hn2
      have HO2 := Lib.hid ho2
      have HK2 := Lib.hid hk2
      have HR2 := Lib.hid hr2
      clear hb2 hn2 ho2 hk2 hr2
      go_upto_region 13 with fail
      have hM2 := (HP.out.map.same (HK2.out.block mb (by have := HP.out.lo; omega) (by
        have h0 := HP.out.lo
        simp only [List.mem_cons, not_or]
        exact ⟨fun e => h0.2.2.1 e.symm, fun hm => by have := row_lo HP.out.row mb hm; omega⟩)))
      have HM2 := Lib.hid hM2
      clear hM2
      refine wp_region_late (af := ?af3) [true, true, true, true, true, true, false] [false, false, false, false, false, false, true] 66 (Ext wc) (by kernel_rfl) rfl (by kernel_rfl) (fun _ _ h e => Ext.trans h e) (Ext.refl wc).drew ?q ?r
      case q =>
        intro w' hw'
        obtain ⟨y, rfl⟩ : ∃ y : ExtOf wc, w' = y.val := ⟨⟨w', hw'⟩, rfl⟩
        simp only [pickT, if_true, if_false, Bool.false_eq_true]
        repeat (go_big_quiet_step (fail))
        exact rfl
      case r =>
        simp only [pickN, if_true, if_false, Bool.false_eq_true]
        intro x1
        have e1 : Ext wc x1.val := (Ext.refl _).drew.val x1
        refine wpList_updateG rfl _ _ _ rfl keys_nd Try.underlying71 mb _ nd _ rfl rfl rfl (HM2.out.ext e1) fun ob hM' => ?_
        try refine ⟨fun h => absurd h (by decide), ?_⟩
        intro x2
        go_wp2_with fail
        refine bodyPost_ret (results_tmp2 rfl _ _ _) rfl ?_
        have e2 : Ext (setB x1.val mb ob) x2.val := x2.ext
        have hlo2 := HP.out.lo
        have hgB := row_lo HO2.out g (by simp [rowB, Value.ownBlock])
        have hk3 : Keeps (pb :: mb :: rowB (.slice a L.length cap)) w (setB x1.val mb ob) := by
          have h1 := HK2.out.ext e1
          exact ⟨h1.os, h1.tape, h1.output, by simpa [setB] using h1.size, fun k hk hx => (setB_other (fun e => hx (by rw [e]; simp))).trans (h1.block k hk (fun h => hx (by rcases List.mem_cons.1 h with h | h <;> simp [h])))⟩
        exact ⟨rfl, hk3.ext e2, .slice (some ⟨g, 0, none⟩) (L.length + 1) cap3, heap_ext ((setB_other (by omega)).trans (heap_ext HB2.out e1)) e2, own_ext (own_same (own_ext HO2.out e1) (fun k hk _ => setB_other (by omega))) e2, hM'.ext e2, HR2.out⟩
end Go.Proofs.Ytfibbhmmiemcoaa

/-
  A node's term is made, whether it is there or not. No condition.
-/
namespace Go.Proofs.Ytfibbhmmiemcoaa
open Go.RowKit

/-- A term's own fields are in order. -/
def OwnT : Tt → Prop
  | .num _ => True
  | .data s => s.size ≤ 64
  | .pair _ _ => True
  | .key n => 0 ≤ n ∧ n < 16
  | .sign n _ => 0 ≤ n ∧ n < 16
  | .prom f t _ => (0 ≤ f ∧ f < 16) ∧ (0 ≤ t ∧ t < 16) ∧ ¬ t = f
  | .fake f t _ => (0 ≤ f ∧ f < 16) ∧ (0 ≤ t ∧ t < 16) ∧ ¬ t = f
  | _ => False

/-- Behind the making: the pool holds these; what else there was is kept. -/
def Pooled (B pb mb : Nat) (v : Value) (L' : List Tt) (w w' : World) : Prop :=
  ∃ v', PoolAt B pb mb v' L' w' ∧ Keeps (pb :: mb :: rowB v) w w' ∧ ∀ g ∈ rowB v', g ∈ rowB v ∨ w.heap.size ≤ g

theorem te_ck (B pb mb : Nat) (v : Value) (L : List Tt) (t : Tt) (w : World) (hP : PoolAt B pb mb v L w) (hL : L.length ≤ 100000) (hk : ∀ u ∈ kidsT t, u ∈ L) (hf : OwnT t) (hs : ∀ u ∈ kidsT t, sizeT u ≤ 1000 ∧ depthT u ≤ 60) :
    Calls Try.prog 68 #[.pointer (some ⟨pb, 0, none⟩), ndV (ndT L t)] w fun e w' => e = .returned (.tuple #[.int .i64 (sizeT t), .int .i64 (depthT t), .int .i64 0]) ∧ Ext w w' := by
  cases t with
  | name n => exact hf.elim
  | hash a => exact hf.elim
  | num n => exact te_check0 pb 2 0 0 n _ _ _ _ _ (te_plain2 0 0 n _ 0 0 rfl rfl rfl) (te_fields2 0 0 n { data := #[] } 0 0) w
  | data s => exact te_check0 pb 3 0 0 0 s _ _ _ _ (te_plain3 0 0 0 s 0 0 rfl rfl rfl) (te_fields3 0 0 0 s 0 0 hf) w
  | key n => exact te_check0 pb 6 n 0 0 _ _ _ _ _ (te_plain6 n 0 0 _ 0 0 rfl rfl rfl) (te_fields6 n 0 0 { data := #[] } 0 0 hf) w
  | sign n a =>
    obtain ⟨i, h1, h2⟩ := idT_mem (hk a (by simp [kidsT]))
    obtain ⟨s1, d1⟩ := hs a (by simp [kidsT])
    have := te_check1 B pb mb v L i a h2 hL s1 d1 7 n 0 0 { data := #[] } _ _ _ _ (te_plain7 n 0 0 _ _ _ rfl rfl rfl) (te_fields7 n 0 0 { data := #[] } _ _ hf) w hP
    simpa [ndV, ndT, h1, sizeT, depthT] using this
  | prom f t a =>
    obtain ⟨i, h1, h2⟩ := idT_mem (hk a (by simp [kidsT]))
    obtain ⟨s1, d1⟩ := hs a (by simp [kidsT])
    have := te_check1 B pb mb v L i a h2 hL s1 d1 8 f t 0 { data := #[] } _ _ _ _ (te_plain8 f t 0 _ _ _ rfl rfl) (te_fields8 f t 0 { data := #[] } _ _ hf.1 hf.2.1 hf.2.2) w hP
    simpa [ndV, ndT, h1, sizeT, depthT] using this
  | fake f t a =>
    obtain ⟨i, h1, h2⟩ := idT_mem (hk a (by simp [kidsT]))
    obtain ⟨s1, d1⟩ := hs a (by simp [kidsT])
    have := te_check1 B pb mb v L i a h2 hL s1 d1 9 f t 0 { data := #[] } _ _ _ _ (te_plain9 f t 0 _ _ _ rfl rfl) (te_fields9 f t 0 { data := #[] } _ _ hf.1 hf.2.1 hf.2.2) w hP
    simpa [ndV, ndT, h1, sizeT, depthT] using this
  | pair a b =>
    obtain ⟨i, h1, h2⟩ := idT_mem (hk a (by simp [kidsT]))
    obtain ⟨s1, d1⟩ := hs a (by simp [kidsT])
    obtain ⟨j, h3, h4⟩ := idT_mem (hk b (by simp [kidsT]))
    obtain ⟨s2, d2⟩ := hs b (by simp [kidsT])
    by_cases hd : depthT a < depthT b
    · have := te_check2a B pb mb v L i j a b h2 h4 hL s1 d1 s2 d2 hd 4 0 0 0 { data := #[] } _ _ _ _ (te_plain4 0 0 0 _ _ _ rfl rfl rfl rfl) (te_fields4 0 0 0 { data := #[] } _ _) w hP
      have e : max (depthT a) (depthT b) = depthT b := Nat.max_eq_right (Nat.le_of_lt hd)
      simpa [ndV, ndT, h1, h3, sizeT, depthT, e] using this
    · have := te_check2b B pb mb v L i j a b h2 h4 hL s1 d1 s2 d2 hd 4 0 0 0 { data := #[] } _ _ _ _ (te_plain4 0 0 0 _ _ _ rfl rfl rfl rfl) (te_fields4 0 0 0 { data := #[] } _ _) w hP
      have e : max (depthT a) (depthT b) = depthT a := Nat.max_eq_left (by omega)
      simpa [ndV, ndT, h1, h3, sizeT, depthT, e] using this

/-- What is found under a node: its term. -/
theorem getM_nd {L : List Tt} (ok : PoolOk L) {t : Tt} (hk : ∀ u ∈ kidsT t, u ∈ L) : getM (L.map fun u => (ndT L u, (Value.int .i64 (idT L u)))) (ndT L t) = if t ∈ L then some (.int .i64 (idT L t)) else none := by
  unfold getM
  split
  · rename_i h
    have h1 : ∃ p, (L.map fun u => (ndT L u, (Value.int .i64 (idT L u)))).find? (fun p => decide (p.1 = ndT L t)) = some p := by
      cases hf : (L.map fun u => (ndT L u, (Value.int .i64 (idT L u)))).find? (fun p => decide (p.1 = ndT L t)) with
      | some p => exact ⟨p, rfl⟩
      | none =>
        rw [List.find?_eq_none] at hf
        have := hf (ndT L t, .int .i64 (idT L t)) (List.mem_map.2 ⟨t, h, rfl⟩)
        simp at this
    obtain ⟨p, hp⟩ := h1
    rw [hp]
    have h2 := List.mem_of_find?_eq_some hp
    have h3 : p.1 = ndT L t := by simpa using List.find?_some hp
    obtain ⟨u, hu, rfl⟩ := List.mem_map.1 h2
    have := ndT_inj (ok.kids u hu) hk h3
    subst this
    rfl
  · rename_i h
    have : (L.map fun u => (ndT L u, (Value.int .i64 (idT L u)))).find? (fun p => decide (p.1 = ndT L t)) = none := by
      rw [List.find?_eq_none]
      intro p hp
      obtain ⟨u, hu, rfl⟩ := List.mem_map.1 hp
      simp only [decide_eq_true_eq]
      intro e
      have := ndT_inj (ok.kids u hu) hk e
      subst this
      exact h hu
    rw [this]
    simp
theorem look_t {L : List Tt} (ok : PoolOk L) {t : Tt} (hk : ∀ u ∈ kidsT t, u ∈ L) : lookG (L.map fun u => (ndT L u, (Value.int .i64 (idT L u)))) (ndT L t) (.int .i64 0) true = .tuple #[.int .i64 (idT L t), .bool (decide (t ∈ L))] := by
  unfold lookG
  rw [getM_nd ok hk]
  by_cases h : t ∈ L
  · simp [h]
  · simp [h, idT_not h]

/-- The pool with one more. -/
theorem pool_add {B pb mb : Nat} {v' : Value} {L : List Tt} {t : Tt} {w' : World} (ok : PoolOk L) (hk : ∀ u ∈ kidsT t, u ∈ L) (hn : t ∉ L) (lo : pb < B ∧ mb < B ∧ pb ≠ mb) (hB : B ≤ w'.heap.size)
    (hh : w'.heap[pb]? = some (.cells #[v', .map (some mb)] 74 (0, 0)))
    (hr : w'.ownsRow B 129 9 v' (L.length + 1) (L.flatMap (entC L) ++ (entC L t)))
    (hm : MapG ndV mb (putM (L.map fun u => (ndT L u, .int .i64 (idT L u))) (ndT L t) (.int .i64 ((L.length : Int) + 1))) w') : PoolAt B pb mb v' (L ++ [t]) w' := by
  have ok' : PoolOk (L ++ [t]) := by
    have := (addT_ok ok hk).1
    unfold addT at this
    rwa [if_neg hn] at this
  have e1 : ∀ u ∈ L, entC (L ++ [t]) u = entC L u := fun u hu => by unfold entC; rw [ndT_app (ok.kids u hu)]
  have e2 : entC (L ++ [t]) t = entC L t := by unfold entC; rw [ndT_app hk]
  have e3 : (L ++ [t]).flatMap (entC (L ++ [t])) = L.flatMap (entC L) ++ entC L t := by
    rw [List.flatMap_append]
    rw [List.flatMap_def, List.flatMap_def, List.map_congr_left e1]
    simp [e2, List.flatMap_def]
  refine ⟨hh, ?_, ?_, lo.1, lo.2.1, lo.2.2, hB⟩
  · rw [e3]; simpa using hr
  · have h0 : (L.map fun u => (ndT L u, (Value.int .i64 (idT L u)))).findIdx? (fun p => decide (p.1 = ndT L t)) = none := by
      rw [List.findIdx?_eq_none_iff]
      intro p hp
      obtain ⟨u, hu, rfl⟩ := List.mem_map.1 hp
      simp only [decide_eq_false_iff_not]
      intro e
      have := ndT_inj (ok.kids u hu) hk e
      subst this
      exact hn hu
    unfold putM at hm
    rw [h0] at hm
    have e4 : (L ++ [t]).map (fun u => (ndT (L ++ [t]) u, (Value.int .i64 (idT (L ++ [t]) u)))) = L.map (fun u => (ndT L u, (Value.int .i64 (idT L u)))) ++ [(ndT L t, .int .i64 ((L.length : Int) + 1))] := by
      rw [List.map_append]
      congr 1
      · exact List.map_congr_left fun u hu => by rw [ndT_app (ok.kids u hu), idT_app hu]
      · have : idT (L ++ [t]) t = L.length + 1 := idT_some ok'.nodup (by simp)
        simp [ndT_app hk, this]
    rw [e4]
    exact hm

theorem te_make (B pb mb : Nat) (v : Value) (L : List Tt) (t : Tt) (w : World) (ok : PoolOk L) (hP : PoolAt B pb mb v L w) (hL : L.length ≤ 60000) (hk : ∀ u ∈ kidsT t, u ∈ L) (hf : OwnT t) (hs : ∀ u ∈ kidsT t, sizeT u ≤ 1000 ∧ depthT u ≤ 60) :
    Calls Try.prog 33 #[.pointer (some ⟨pb, 0, none⟩), ndV (ndT L t)] w fun e w' => e = .returned (.tuple #[.int .i64 (idT (addT L t) t), .int .i64 0]) ∧ Pooled B pb mb v (addT L t) w w' := by
  have hck := fun w' (e : Ext w w') => te_ck B pb mb v L t w' (hP.ext e) (by omega) hk hf hs
  have hr := look_t ok hk
  by_cases h : t ∈ L
  · rw [decide_eq_true h] at hr
    refine (te_make_there B pb mb v L (ndT L t) _ _ _ hr w hP hck).mono ?_
    rintro e w' ⟨rfl, hx⟩
    have ha : addT L t = L := if_pos h
    rw [ha]
    exact ⟨rfl, v, hP.ext hx, (Keeps.refl _ w).ext hx, fun g hg => .inl hg⟩
  · rw [decide_eq_false h] at hr
    refine (te_make_new B pb mb v L (ndT L t) _ _ _ hr w hP hL hck).mono ?_
    rintro e w' ⟨rfl, v', h1, h2, h3, h4, h5⟩
    have ha : addT L t = L ++ [t] := if_neg h
    have ok' : PoolOk (L ++ [t]) := ha ▸ (addT_ok ok hk).1
    have hid : idT (L ++ [t]) t = L.length + 1 := idT_some ok'.nodup (by simp)
    rw [ha, hid]
    exact ⟨by simp, v', pool_add ok hk h ⟨hP.lo.1, hP.lo.2.1, hP.lo.2.2.1⟩ (Nat.le_trans hP.lo.2.2.2 h1.size) h2 h3 h4, h1, h5⟩
end Go.Proofs.Ytfibbhmmiemcoaa

/-
  term.looks over a whole tree. No condition.
-/
namespace Go.Proofs.Ytfibbhmmiemcoaa
open Go.RowKit

/-- All fields of a tree are in order. -/
def FitT : Tt → Prop
  | .pair a b => FitT a ∧ FitT b
  | .sign n a => OwnT (.sign n a) ∧ FitT a
  | .prom f t a => OwnT (.prom f t a) ∧ FitT a
  | .fake f t a => OwnT (.fake f t a) ∧ FitT a
  | t => OwnT t
theorem FitT.own {t : Tt} (h : FitT t) : OwnT t := by
  cases t with
  | pair a b => trivial
  | sign n a => exact h.1
  | prom f t a => exact h.1
  | fake f t a => exact h.1
  | _ => exact h
theorem FitT.kids {t u : Tt} (h : FitT t) (hu : u ∈ kidsT t) : FitT u := by
  cases t <;> simp [kidsT] at hu
  case pair a b => rcases hu with rfl | rfl; exact h.1; exact h.2
  case hash a => exact h.elim
  case sign n a => subst hu; exact h.2
  case prom f t a => subst hu; exact h.2
  case fake f t a => subst hu; exact h.2

theorem kids_keep {X : List Nat} {ok : Nat → Prop} {w w' : World} {t : Tt} {k : Value} (h : kidsAt ok w t k) (K : Keeps X w w') (hX : ∀ g, ok g → g ∉ X) : kidsAt ok w' t k :=
  kids_mono (fun g h1 h2 => ⟨h1, Nat.lt_of_lt_of_le h2 K.size, K.block g h2 (hX g h1)⟩) h

theorem te_looks : ∀ (t : Tt) (k : Value) (w : World) (sb : Nat) (n inside : Int), FitT t → kidsAt (fun g => g ≠ sb) w t k → w.heap[sb]? = some (.cells #[.int .i64 n] 3 (0, 0)) → 0 ≤ n → n + sizeT t ≤ 4096 → 0 ≤ inside → inside + depthT t ≤ 64 →
    Calls Try.prog 56 #[trV t k, .int .i64 inside, .pointer (some ⟨sb, 0, none⟩)] w (Looked sb (n + sizeT t) w) := by
  intro t
  have one : ∀ (a : Tt) (x : Value) (w w' : World) (sb g : Nat) (n inside : Int), (∀ (k : Value) (w : World) (sb : Nat) (n inside : Int), FitT a → kidsAt (fun g => g ≠ sb) w a k → w.heap[sb]? = some (.cells #[.int .i64 n] 3 (0, 0)) → 0 ≤ n → n + sizeT a ≤ 4096 → 0 ≤ inside → inside + depthT a ≤ 64 →
      Calls Try.prog 56 #[trV a k, .int .i64 inside, .pointer (some ⟨sb, 0, none⟩)] w (Looked sb (n + sizeT a) w)) → FitT a → kidsAt (fun g => g ≠ sb) w a x → 0 ≤ n → n + 1 + sizeT a ≤ 4096 → 0 ≤ inside → inside + depthT a + 1 ≤ 64 → Keeps [sb] w w' → w'.heap[sb]? = some (.cells #[.int .i64 (n + 1)] 3 (0, 0)) → Calls Try.prog 56 #[trV a x, .int .i64 (inside + 1), .pointer (some ⟨sb, 0, none⟩)] w' (Looked sb (n + 1 + sizeT a) w') := fun a x w w' sb g n inside ih hf hk h1 h2 h3 h4 K hh =>
    ih x w' sb (n + 1) (inside + 1) hf (kids_keep hk K (fun g hg => by simpa using hg)) hh (by omega) h2 (by omega) (by omega)
  induction t with
  | name n => intro k w sb n inside hf; exact hf.elim
  | hash a ih => intro k w sb n inside hf; exact hf.elim
  | num c =>
    intro k w sb n inside hf hk hs h0 h1 hi h2
    rw [show k = .slice none 0 0 from hk]
    simp only [sizeT, depthT] at h1 h2
    have := te_looks0 sb n inside 2 0 0 c _ _ _ _ _ w (te_plain2 0 0 c _ 0 0 rfl rfl rfl) (te_fields2 0 0 c { data := #[] } 0 0) hs h0 (by omega) hi (by omega)
    rw [show n + ((sizeT (.num c) : Nat) : Int) = n + 1 by simp only [sizeT]; omega]
    exact this
  | data s =>
    intro k w sb n inside hf hk hs h0 h1 hi h2
    rw [show k = .slice none 0 0 from hk]
    simp only [sizeT, depthT] at h1 h2
    have := te_looks0 sb n inside 3 0 0 0 s _ _ _ _ w (te_plain3 0 0 0 s 0 0 rfl rfl rfl) (te_fields3 0 0 0 s 0 0 hf) hs h0 (by omega) hi (by omega)
    rw [show n + ((sizeT (.data s) : Nat) : Int) = n + 1 by simp only [sizeT]; omega]
    exact this
  | key c =>
    intro k w sb n inside hf hk hs h0 h1 hi h2
    rw [show k = .slice none 0 0 from hk]
    simp only [sizeT, depthT] at h1 h2
    have := te_looks0 sb n inside 6 c 0 0 _ _ _ _ _ w (te_plain6 c 0 0 _ 0 0 rfl rfl rfl) (te_fields6 c 0 0 { data := #[] } 0 0 hf) hs h0 (by omega) hi (by omega)
    rw [show n + ((sizeT (.key c) : Nat) : Int) = n + 1 by simp only [sizeT]; omega]
    exact this
  | sign c a ih =>
    intro k w sb n inside hf hk hs h0 h1 hi h2
    obtain ⟨g, x, rfl, hok, hlt, hc, hka⟩ := hk
    simp only [sizeT, depthT] at h1 h2
    have := te_looks1 sb n inside 7 c 0 0 { data := #[] } _ _ _ _ _ _ _ _ _ x (sizeT a) g w (te_plain7 c 0 0 _ 0 0 rfl rfl rfl) (te_fields7 c 0 0 { data := #[] } 0 0 hf.1)
      (fun w' K hh => one a x w w' sb g n inside ih hf.2 hka h0 (by omega) hi (by omega) K hh) (fun w' K j u hj => K.cell (by simpa using hok) (hc j u hj)) (fun w' K => Nat.lt_of_lt_of_le hlt K.size) hs h0 (by omega) hi (by omega)
    rw [show n + ((sizeT (.sign c a) : Nat) : Int) = n + 1 + (sizeT a : Int) by simp only [sizeT]; omega]
    exact this
  | prom f t a ih =>
    intro k w sb n inside hf hk hs h0 h1 hi h2
    obtain ⟨g, x, rfl, hok, hlt, hc, hka⟩ := hk
    simp only [sizeT, depthT] at h1 h2
    have := te_looks1 sb n inside 8 f t 0 { data := #[] } _ _ _ _ _ _ _ _ _ x (sizeT a) g w (te_plain8 f t 0 _ 0 0 rfl rfl) (te_fields8 f t 0 { data := #[] } 0 0 hf.1.1 hf.1.2.1 hf.1.2.2)
      (fun w' K hh => one a x w w' sb g n inside ih hf.2 hka h0 (by omega) hi (by omega) K hh) (fun w' K j u hj => K.cell (by simpa using hok) (hc j u hj)) (fun w' K => Nat.lt_of_lt_of_le hlt K.size) hs h0 (by omega) hi (by omega)
    rw [show n + ((sizeT (.prom f t a) : Nat) : Int) = n + 1 + (sizeT a : Int) by simp only [sizeT]; omega]
    exact this
  | fake f t a ih =>
    intro k w sb n inside hf hk hs h0 h1 hi h2
    obtain ⟨g, x, rfl, hok, hlt, hc, hka⟩ := hk
    simp only [sizeT, depthT] at h1 h2
    have := te_looks1 sb n inside 9 f t 0 { data := #[] } _ _ _ _ _ _ _ _ _ x (sizeT a) g w (te_plain9 f t 0 _ 0 0 rfl rfl) (te_fields9 f t 0 { data := #[] } 0 0 hf.1.1 hf.1.2.1 hf.1.2.2)
      (fun w' K hh => one a x w w' sb g n inside ih hf.2 hka h0 (by omega) hi (by omega) K hh) (fun w' K j u hj => K.cell (by simpa using hok) (hc j u hj)) (fun w' K => Nat.lt_of_lt_of_le hlt K.size) hs h0 (by omega) hi (by omega)
    rw [show n + ((sizeT (.fake f t a) : Nat) : Int) = n + 1 + (sizeT a : Int) by simp only [sizeT]; omega]
    exact this
  | pair a b iha ihb =>
    intro k w sb n inside hf hk hs h0 h1 hi h2
    obtain ⟨g, x, y, rfl, hok, hlt, hc, hka, hkb⟩ := hk
    simp only [sizeT, depthT] at h1 h2
    have := te_looks2 sb n inside 4 0 0 0 { data := #[] } _ _ _ _ _ _ _ _ _ x (sizeT a) _ _ _ _ _ y (sizeT b) g w (te_plain4 0 0 0 _ 0 0 rfl rfl rfl rfl) (te_fields4 0 0 0 { data := #[] } 0 0)
      (fun w' K hh => one a x w w' sb g n inside iha hf.1 hka h0 (by omega) hi (by omega) K hh)
      (fun w' K hh => ihb y w' sb (n + 1 + sizeT a) (inside + 1) hf.2 (kids_keep hkb K (fun g hg => by simpa using hg)) hh (by omega) (by omega) (by omega) (by omega))
      (fun w' K j u hj => K.cell (by simpa using hok) (hc j u hj)) (fun w' K => Nat.lt_of_lt_of_le hlt K.size) hs h0 (by omega) hi (by omega)
    rw [show n + ((sizeT (.pair a b) : Nat) : Int) = n + 1 + (sizeT a : Int) + (sizeT b : Int) by simp only [sizeT]; omega]
    exact this
end Go.Proofs.Ytfibbhmmiemcoaa

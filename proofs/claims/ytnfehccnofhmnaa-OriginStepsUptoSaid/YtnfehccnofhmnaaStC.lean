/-
  Proved: the law OriginSteps returns true for every input whose bulk is at most the row's bound, and each argument reads behind the call as it read before. Conditions: the row's own bound on the bulk of what is read (the second form, '..UptoSaid').
-/
import Derived.Test.YtnfehccnofhmnaaSt1
import Derived.Test.YtnfehccnofhmnaaSt2
import Derived.Test.YtnfehccnofhmnaaSt3
import Derived.Test.YtnfehccnofhmnaaSt4
set_option linter.all false
namespace Go.Proofs.Ytnfehccnofhmnaa
open Go.ChangeShapes Go.WideShapes Go.ChangeAt Go.RowKit Go.Deep
namespace E

theorem w_all {ρ : Env} : ∃ h', ACall Try.prog 3 ([stS 0, evS 100].map (V.den ρ)) ⟨0, []⟩ (.one (.lit (.bool true))) h' :=
  (splitK true (.int .i64 6000) (.iface 2 (.iface 1 (.int .i64 2))) (fun h => acall_of_ways origin_live w0 h) (splitK true (.int .i64 6000) (.iface 3 (.agg ⟨[.int .i64 0, .iface 3 (.agg ⟨[.int .i64 0, .int .i64 0, .iface 2 (.iface 1 (.int .i64 102))]⟩), .iface 2 (.iface 1 (.int .i64 106))]⟩)) (fun h => acall_of_ways origin_live w1 h) (splitK false (.iface 0 (.int .i64 0)) (.int .i64 0) (splitK true (.int .i64 64) (.iface 2 (.iface 1 (.int .i64 2))) (fun h => acall_of_ways origin_live w2 h) (splitK false (.iface 0 (.int .i64 3)) (.int .i64 6) (splitK false (.iface 0 (.int .i64 4)) (.int .i64 2) (splitK false (.iface 0 (.int .i64 5)) (.int .i64 1) (fun h => acall_of_ways origin_live w3 h) (fun h => acall_of_ways origin_live w4 h)) (splitK false (.iface 0 (.int .i64 4)) (.int .i64 6) (splitK false (.iface 0 (.int .i64 5)) (.int .i64 0) (fun h => acall_of_ways origin_live w5 h) (fun h => acall_of_ways origin_live w6 h)) (splitK false (.iface 0 (.int .i64 4)) (.int .i64 0) (splitK false (.iface 0 (.int .i64 5)) (.int .i64 0) (fun h => acall_of_ways origin_live w7 h) (fun h => acall_of_ways origin_live w8 h)) (fun h => acall_of_ways origin_live w9 h)))) (splitK false (.iface 0 (.int .i64 3)) (.int .i64 0) (splitK false (.iface 1 (.int .i64 2)) (.string ⟨#[]⟩) (splitK false (.iface 0 (.int .i64 4)) (.int .i64 0) (splitK false (.iface 0 (.int .i64 5)) (.int .i64 0) (splitK false (.iface 0 (.int .u64 6)) (.int .u64 0) (splitK false (.iface 1 (.int .i64 7)) (.string ⟨#[]⟩) (splitK false (.iface 4 (.int .i64 8)) (.bool true) (fun h => acall_of_ways origin_live w10 h) (fun h => acall_of_ways origin_live w11 h)) (fun h => acall_of_ways origin_live w12 h)) (fun h => acall_of_ways origin_live w13 h)) (fun h => acall_of_ways origin_live w14 h)) (fun h => acall_of_ways origin_live w15 h)) (splitK false (.iface 0 (.int .i64 4)) (.int .i64 0) (splitK false (.iface 0 (.int .i64 5)) (.int .i64 0) (fun h => acall_of_ways origin_live w16 h) (fun h => acall_of_ways origin_live w17 h)) (fun h => acall_of_ways origin_live w18 h))) (splitK false (.iface 0 (.int .i64 3)) (.int .i64 2) (splitK false (.iface 0 (.int .i64 4)) (.int .i64 0) (splitK false (.iface 0 (.int .i64 5)) (.int .i64 0) (splitK false (.iface 0 (.int .u64 6)) (.int .u64 0) (splitK false (.iface 1 (.int .i64 7)) (.string ⟨#[]⟩) (splitK false (.iface 4 (.int .i64 8)) (.bool true) (fun h => acall_of_ways origin_live w19 h) (splitK false (.iface 0 (.int .i64 100)) (.int .i64 2) (splitK false (.iface 0 (.int .i64 103)) (.int .i64 1) (splitK false (.iface 0 (.int .i64 104)) (.int .i64 1) (fun h => acall_of_ways origin_live w20 h) (fun h => acall_of_ways origin_live w21 h)) (fun h => acall_of_ways origin_live w22 h)) (fun h => acall_of_ways origin_live w23 h))) (fun h => acall_of_ways origin_live w24 h)) (fun h => acall_of_ways origin_live w25 h)) (fun h => acall_of_ways origin_live w26 h)) (fun h => acall_of_ways origin_live w27 h)) (splitK false (.iface 0 (.int .i64 3)) (.int .i64 3) (splitK false (.iface 0 (.int .i64 4)) (.int .i64 0) (splitK false (.iface 0 (.int .i64 5)) (.int .i64 0) (splitK false (.iface 0 (.int .u64 6)) (.int .u64 0) (splitK false (.iface 1 (.int .i64 7)) (.string ⟨#[]⟩) (splitK false (.iface 4 (.int .i64 8)) (.bool true) (fun h => acall_of_ways origin_live w28 h) (splitK false (.iface 0 (.int .i64 100)) (.int .i64 2) (splitK false (.iface 0 (.int .i64 103)) (.int .i64 1) (splitK false (.iface 0 (.int .i64 104)) (.int .i64 1) (fun h => acall_of_ways origin_live w29 h) (fun h => acall_of_ways origin_live w30 h)) (splitK false (.iface 0 (.int .i64 103)) (.int .i64 2) (splitK false (.iface 0 (.int .i64 104)) (.int .i64 1) (fun h => acall_of_ways origin_live w31 h) (fun h => acall_of_ways origin_live w32 h)) (fun h => acall_of_ways origin_live w33 h))) (fun h => acall_of_ways origin_live w34 h))) (fun h => acall_of_ways origin_live w35 h)) (fun h => acall_of_ways origin_live w36 h)) (fun h => acall_of_ways origin_live w37 h)) (fun h => acall_of_ways origin_live w38 h)) (splitK false (.iface 0 (.int .i64 3)) (.int .i64 4) (splitK false (.iface 0 (.int .i64 4)) (.int .i64 0) (splitK false (.iface 0 (.int .i64 5)) (.int .i64 0) (splitK false (.iface 0 (.int .u64 6)) (.int .u64 0) (splitK false (.iface 1 (.int .i64 7)) (.string ⟨#[]⟩) (splitK false (.iface 4 (.int .i64 8)) (.bool true) (fun h => acall_of_ways origin_live w39 h) (splitK false (.iface 0 (.int .i64 100)) (.int .i64 3) (fun h => acall_of_ways origin_live w40 h) (splitK false (.iface 0 (.int .i64 100)) (.int .i64 2) (splitK false (.iface 0 (.int .i64 103)) (.int .i64 5) (splitK false (.iface 0 (.int .i64 104)) (.int .i64 0) (fun h => acall_of_ways origin_live w41 h) (fun h => acall_of_ways origin_live w42 h)) (splitK false (.iface 0 (.int .i64 103)) (.int .i64 6) (splitK false (.iface 0 (.int .i64 104)) (.int .i64 0) (fun h => acall_of_ways origin_live w43 h) (fun h => acall_of_ways origin_live w44 h)) (fun h => acall_of_ways origin_live w45 h))) (fun h => acall_of_ways origin_live w46 h)))) (fun h => acall_of_ways origin_live w47 h)) (fun h => acall_of_ways origin_live w48 h)) (fun h => acall_of_ways origin_live w49 h)) (fun h => acall_of_ways origin_live w50 h)) (splitK false (.iface 0 (.int .i64 3)) (.int .i64 5) (splitK false (.iface 0 (.int .i64 4)) (.int .i64 0) (splitK false (.iface 0 (.int .i64 5)) (.int .i64 0) (splitK false (.iface 0 (.int .u64 6)) (.int .u64 0) (splitK false (.iface 1 (.int .i64 7)) (.string ⟨#[]⟩) (splitK false (.iface 4 (.int .i64 8)) (.bool true) (fun h => acall_of_ways origin_live w51 h) (splitK false (.iface 0 (.int .i64 100)) (.int .i64 3) (fun h => acall_of_ways origin_live w52 h) (splitK false (.iface 0 (.int .i64 100)) (.int .i64 2) (splitK false (.iface 0 (.int .i64 103)) (.int .i64 2) (splitK false (.iface 0 (.int .i64 104)) (.int .i64 1) (fun h => acall_of_ways origin_live w53 h) (fun h => acall_of_ways origin_live w54 h)) (splitK false (.iface 0 (.int .i64 103)) (.int .i64 6) (splitK false (.iface 0 (.int .i64 104)) (.int .i64 0) (fun h => acall_of_ways origin_live w55 h) (fun h => acall_of_ways origin_live w56 h)) (fun h => acall_of_ways origin_live w57 h))) (fun h => acall_of_ways origin_live w58 h)))) (fun h => acall_of_ways origin_live w59 h)) (fun h => acall_of_ways origin_live w60 h)) (fun h => acall_of_ways origin_live w61 h)) (fun h => acall_of_ways origin_live w62 h)) (splitK false (.iface 0 (.int .i64 3)) (.int .i64 7) (splitK false (.iface 0 (.int .i64 4)) (.int .i64 0) (splitK false (.iface 0 (.int .i64 5)) (.int .i64 0) (fun h => acall_of_ways origin_live w63 h) (fun h => acall_of_ways origin_live w64 h)) (fun h => acall_of_ways origin_live w65 h)) (splitK false (.iface 0 (.int .i64 4)) (.int .i64 0) (splitK false (.iface 0 (.int .i64 5)) (.int .i64 0) (fun h => acall_of_ways origin_live w66 h) (fun h => acall_of_ways origin_live w67 h)) (fun h => acall_of_ways origin_live w68 h)))))))))) (fun h => acall_of_ways origin_live w69 h)))) (fun _ h => by cases h)

def valEnv (r c : Int) (t : ByteArray) (ph k f c2 : Int) (t2 : ByteArray) (b2 : Bool) (ek ec : Int) (et : ByteArray) (lk lf lc : Int) (lt : ByteArray) (lb : Bool) : Env where
  I := fun
    | 0 => r | 1 => c | 3 => ph | 4 => k | 5 => f | 6 => c2 | 100 => ek | 101 => ec | 103 => lk | 104 => lf | 105 => lc | _ => 0
  S := fun
    | 2 => t | 7 => t2 | 102 => et | 106 => lt | _ => ⟨#[]⟩
  B := fun
    | 8 => b2 | 107 => lb | _ => false

theorem steps_any (r c : Int) (t : ByteArray) (ph k f c2 : Int) (t2 : ByteArray) (b2 : Bool) (ek ec : Int) (et : ByteArray) (lk lf lc : Int) (lt : ByteArray) (lb : Bool) (W : World) :
    Calls Try.prog 3 #[.agg #[.int .i64 r, .int .u64 c, .string t, .int .i64 ph, .int .i64 k, .int .i64 f, .int .u64 c2, .string t2, .bool b2], .agg #[.int .i64 ek, .int .u64 ec, .string et, .int .i64 lk, .int .i64 lf, .int .u64 lc, .string lt, .bool lb]] W
      fun e w' => e = .returned (.bool true) ∧ Below W.heap.size W w' := by
  obtain ⟨h', _, _, hc⟩ := w_all (ρ := valEnv r c t ph k f c2 t2 b2 ek ec et lk lf lc lt lb)
  refine (hc (fun _ => none) W [.agg #[.int .i64 r, .int .u64 c, .string t, .int .i64 ph, .int .i64 k, .int .i64 f, .int .u64 c2, .string t2, .bool b2], .agg #[.int .i64 ek, .int .u64 ec, .string et, .int .i64 lk, .int .i64 lf, .int .u64 lc, .string lt, .bool lb]] ⟨fun _ _ => rfl, (fun b x e => by cases e), (fun b b' x x' p p' _ e => by cases e)⟩ ?_).mono fun e w' he => ?_
  · simp [stS, evS, letS, V.den, C.den, sI, sS, sB, den, All2, VRel, CRel, valEnv]
  · obtain ⟨x, β', rfl, hv, _, hst, _⟩ := he
    have hx : x = .bool true := hv
    exact ⟨by rw [hx], step_below (h := ⟨0, []⟩) (fun b x e => by cases e) hst⟩

theorem cells_int : Try.prog.cellsOf 3 = 1 := by kernel_rfl
theorem cells_u64 : Try.prog.cellsOf 22 = 1 := by kernel_rfl
theorem cells_str : Try.prog.cellsOf 9 = 1 := by kernel_rfl
theorem cells_bool : Try.prog.cellsOf 4 = 1 := by kernel_rfl
theorem cells_letter : Try.prog.cellsOf 24 = 5 := by kernel_rfl
theorem cells_state : Try.prog.cellsOf 26 = 9 := by kernel_rfl
theorem cells_event : Try.prog.cellsOf 28 = 8 := by kernel_rfl

section
variable {H : Type} {enc : TypeId × Value → H} {w : World} {base : Nat} {spare : Nat → Bool} {held : Bool}

theorem open_letter {fuel : Nat} {cs : List Value} {x : DataW H × List MemPlace} (h : DataW.trod enc Try.prog w base spare held fuel 24 cs = some x) :
    ∃ k f c t b, cs = [.int .i64 k, .int .i64 f, .int .u64 c, .string t, .bool b] := by
  obtain ⟨xs, n, _, hx, hl, hlen, hf⟩ := DataW.trod_struct Try.underlying24 h
  have hl5 : cs.length = 5 := hl.trans cells_letter
  match cs, hl5, xs, hlen with
  | [c0, c1, c2, c3, c4], _, [y0, y1, y2, y3, y4], _ =>
    have g0 := hf 0 _ rfl
    have g1 := hf 1 _ rfl
    have g2 := hf 2 _ rfl
    have g3 := hf 3 _ rfl
    have g4 := hf 4 _ rfl
    simp [cells_int, cells_u64, cells_str, cells_bool] at g0 g1 g2 g3 g4
    obtain ⟨k, e0, rfl, _⟩ := DataW.trod_int Try.underlying3 g0
    obtain ⟨f, e1, rfl, _⟩ := DataW.trod_int Try.underlying3 g1
    obtain ⟨c, e2, rfl, _⟩ := DataW.trod_int Try.underlying22 g2
    obtain ⟨t, e3, rfl, _⟩ := DataW.trod_string Try.underlying9 g3
    obtain ⟨b, e4, rfl⟩ := DataW.trod_bool Try.underlying4 g4
    simp only [List.cons.injEq, and_true] at e0 e1 e2 e3 e4
    subst e0 e1 e2 e3 e4
    exact ⟨k, f, c, t, b, rfl⟩

theorem open_state {fuel : Nat} {cs : List Value} {x : DataW H × List MemPlace} (h : DataW.trod enc Try.prog w base spare held fuel 26 cs = some x) :
    ∃ r c t ph k f c2 t2 b, cs = [.int .i64 r, .int .u64 c, .string t, .int .i64 ph, .int .i64 k, .int .i64 f, .int .u64 c2, .string t2, .bool b] := by
  obtain ⟨xs, n, _, hx, hl, hlen, hf⟩ := DataW.trod_struct Try.underlying26 h
  have hl9 : cs.length = 9 := hl.trans cells_state
  match cs, hl9, xs, hlen with
  | [c0, c1, c2, c3, c4, c5, c6, c7, c8], _, [y0, y1, y2, y3, y4], _ =>
    have g0 := hf 0 _ rfl
    have g1 := hf 1 _ rfl
    have g2 := hf 2 _ rfl
    have g3 := hf 3 _ rfl
    have g4 := hf 4 _ rfl
    simp [cells_int, cells_u64, cells_str, cells_bool, cells_letter] at g0 g1 g2 g3 g4
    obtain ⟨k, e0, rfl, _⟩ := DataW.trod_int Try.underlying3 g0
    obtain ⟨c, e1, rfl, _⟩ := DataW.trod_int Try.underlying22 g1
    obtain ⟨t, e2, rfl, _⟩ := DataW.trod_string Try.underlying9 g2
    obtain ⟨f, e3, rfl, _⟩ := DataW.trod_int Try.underlying3 g3
    obtain ⟨lk, lf, lc, lt, lb, e4⟩ := open_letter g4
    simp only [List.cons.injEq, and_true] at e0 e1 e2 e3 e4
    obtain ⟨e5, e6, e7, e8, e9⟩ := e4
    subst e0 e1 e2 e3 e5 e6 e7 e8 e9
    exact ⟨k, c, t, f, lk, lf, lc, lt, lb, rfl⟩

theorem open_event {fuel : Nat} {cs : List Value} {x : DataW H × List MemPlace} (h : DataW.trod enc Try.prog w base spare held fuel 28 cs = some x) :
    ∃ k c t lk lf lc lt lb, cs = [.int .i64 k, .int .u64 c, .string t, .int .i64 lk, .int .i64 lf, .int .u64 lc, .string lt, .bool lb] := by
  obtain ⟨xs, n, _, hx, hl, hlen, hf⟩ := DataW.trod_struct Try.underlying28 h
  have hl8 : cs.length = 8 := hl.trans cells_event
  match cs, hl8, xs, hlen with
  | [c0, c1, c2, c3, c4, c5, c6, c7], _, [y0, y1, y2, y3], _ =>
    have g0 := hf 0 _ rfl
    have g1 := hf 1 _ rfl
    have g2 := hf 2 _ rfl
    have g3 := hf 3 _ rfl
    simp [cells_int, cells_u64, cells_str, cells_bool, cells_letter] at g0 g1 g2 g3
    obtain ⟨k, e0, rfl, _⟩ := DataW.trod_int Try.underlying3 g0
    obtain ⟨c, e1, rfl, _⟩ := DataW.trod_int Try.underlying22 g1
    obtain ⟨t, e2, rfl, _⟩ := DataW.trod_string Try.underlying9 g2
    obtain ⟨lk, lf, lc, lt, lb, e4⟩ := open_letter g3
    simp only [List.cons.injEq, and_true] at e0 e1 e2 e4
    obtain ⟨e5, e6, e7, e8, e9⟩ := e4
    subst e0 e1 e2 e5 e6 e7 e8 e9
    exact ⟨k, c, t, lk, lf, lc, lt, lb, rfl⟩
end

theorem shut_bool {W : World} {base : Nat} {sp : Nat → Bool} {held : Bool} {H : Type} {enc : TypeId × Value → H} {t : TypeId} (ht : Try.prog.underlying t = some .bool) (b : Bool) : DataW.Trod enc Try.prog W base sp held t (.bool b) (.lit (.bool b)) [] := ⟨1, by simp [DataW.trod, Value.cells, ht]⟩

theorem steps_contract (H : Type) (enc : TypeId × Value → H) (W : World) (base : Nat) (args : Array Value) (ds gs : List (DataW H)) (before : List MemPlace)
    (hval : ∀ (j : Nat) t v, Try.f3.params[j]? = some t → args[j]? = some v → Value.okWide Try.prog W .any base t v)
    (hW : DataW.Whole enc Try.prog Try.f3.params.toList Rows.originStepsSpec.vars false W args.toList ds gs before) :
    Calls Try.prog 3 args W fun e W' => ∃ v, e = .returned v ∧ Rows.originStepsSpec.post enc Try.prog Try.f3 false true false false W args v W' := by
  have hW' := hW
  obtain ⟨p, q, hA0, hV, rfl, hfz, hnd⟩ := hW
  have hA : DataW.TrodAll enc Try.prog W 0 (fun _ => true) true Try.f3.params.toList args.toList ds p := hA0
  rw [Try.params3] at hA hval
  obtain ⟨v0, v1, d0, d1, p0, p1, rfl, rfl, rfl, h0, h1⟩ := trodAll_two hA
  obtain ⟨rfl, rfl⟩ := trodVars_none hV
  clear hA0 hA
  have hlt : ∀ x ∈ p0 ++ p1, x.block < W.heap.size := fun x hx => hW'.lt x (by simpa using hx)
  have k0 := h0
  have k1 := h1
  obtain ⟨cs, rfl, hsz⟩ := okWide_struct Try.underlying26 (hval 0 26 v0 rfl rfl)
  obtain ⟨cs1, rfl, hsz1⟩ := okWide_struct Try.underlying28 (hval 1 28 v1 rfl rfl)
  obtain ⟨fu0, hf0⟩ := h0
  obtain ⟨r, c, t, ph, k, f, c2, t2, b2, hcs⟩ := open_state hf0
  obtain ⟨fu1, hf1⟩ := h1
  obtain ⟨ek, ec, et, lk, lf, lc, lt, lb, hcs1⟩ := open_event hf1
  simp only [Value.cells] at hcs hcs1
  obtain ⟨l⟩ := cs
  obtain ⟨l1⟩ := cs1
  simp only at hcs hcs1
  subst hcs
  subst hcs1
  refine (steps_any r c t ph k f c2 t2 b2 ek ec et lk lf lc lt lb W).mono fun e W' ⟨he, hg⟩ => ?_
  subst he
  exact ⟨_, rfl, post_ext (pa := p0 ++ p1) (pv := []) hW' (fun _ _ _ => trodAll_cons_mk (shut_bool Try.underlying4 _) trodAll_mk0)
    (fun sp hs => trodAll_mk2 (trod_ext prog_laid (by kernel_rfl) (of_decide_eq_true (by kernel_rfl)) k0 hg (fun x hx => hlt x (by simp [hx])) (fun x hx => hs x (by simp [hx])))
      (trod_ext prog_laid (by kernel_rfl) (of_decide_eq_true (by kernel_rfl)) k1 hg (fun x hx => hlt x (by simp [hx])) (fun x hx => hs x (by simp [hx]))))
    (fun _ _ => rfl) rfl hg (ok_one (by kernel_rfl) rfl (okWide_bool_mk Try.underlying4 _))⟩

set_option maxRecDepth 100000 in
theorem steps_lifted (os : Os) (started : os.Started) (H : Type) (enc : TypeId × Value → H) (F : Stop.Interp) :
    ReturnsInHanded {} Try.checked os 3 .any ((Rows.OpenSpec.upto Rows.originStepsSpec).pre6 enc Try.prog Try.f3 Rows.originStepsUptoRow.domain false) (((Rows.OpenSpec.upto Rows.originStepsSpec).at F).post enc Try.prog Try.f3 false true false false) := by
  refine returnsInHanded_of_cond (C := Try.checked) (s := Rows.OpenSpec.upto Rows.originStepsSpec) (k := Rows.uptoSmall) rfl prog_own started (by kernel_rfl) Try.func3
    (OpenSpec.witness (enc := enc) (C := Try.checked) (s := Rows.OpenSpec.upto Rows.originStepsSpec) (k := Rows.uptoSmall) rfl false ⟨#[], #[.agg #[.int .i64 0, .int .u64 0, .string { data := #[] }, .int .i64 0, .int .i64 0, .int .i64 0, .int .u64 0, .string { data := #[] }, .bool false], .agg #[.int .i64 0, .int .u64 0, .string { data := #[] }, .int .i64 0, .int .i64 0, .int .u64 0, .string { data := #[] }, .bool false]], []⟩ 8 (by kernel_rfl) (by kernel_rfl) (by kernel_rfl)
      (x := ([.agg [.lit (.int .i64 0), .lit (.int .u64 0), .lit (.string []), .lit (.int .i64 0), .agg [.lit (.int .i64 0), .lit (.int .i64 0), .lit (.int .u64 0), .lit (.string []), .lit (.bool false)]], .agg [.lit (.int .i64 0), .lit (.int .u64 0), .lit (.string []), .agg [.lit (.int .i64 0), .lit (.int .i64 0), .lit (.int .u64 0), .lit (.string []), .lit (.bool false)]]], [], [])) (by kernel_rfl) rfl (by kernel_rfl)) ?_
  intro W base args ds gs before hval hW _ _ _
  exact steps_contract H enc W base args ds gs before hval hW

end E

theorem origin_steps : Rows.OriginStepsUptoSaid :=
  OpenClaim.holds_of_cond 3 Try.f3 rfl rfl rfl rfl rfl rfl rfl ⟨rfl, rfl, rfl, rfl, rfl⟩ rfl rfl rfl rfl rfl (by kernel_rfl) Try.func3 (by kernel_rfl)
    (of_decide_eq_true (by kernel_rfl)) (by unfold Func.isWrapper; first | (rw [if_pos (by decide +kernel)]; kernel_rfl) | (rw [if_neg (by decide +kernel)]; exact ⟨rfl, rfl⟩))
    (fun os started H enc _ F => E.steps_lifted os started H enc F)
end Go.Proofs.Ytnfehccnofhmnaa

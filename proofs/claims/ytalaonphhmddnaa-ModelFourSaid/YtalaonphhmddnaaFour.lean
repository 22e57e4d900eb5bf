/-
  Proved: the law ModelFour returns true, and each argument reads behind the call as it read before. Conditions: none.
-/
import Derived.Test.YtalaonphhmddnaaS9
set_option linter.all false
namespace Go.Proofs.Ytalaonphhmddnaa
open Go.ChangeShapes Go.WideShapes Go.ChangeAt Go.RowKit
namespace E

set_option maxRecDepth 1000000 in
theorem model_live : isTrue (callN Try.prog X0 FT 100 100 29 [] ⟨0, []⟩) = true := by kernel_rfl

set_option maxRecDepth 1000000 in
theorem four_ways : allTrue (callS Try.prog X1 FT (ovOf 29) (gLiveS 29) 100 100 7 [.one (sI .u64 0), .one (sS 0)] ⟨0, []⟩ []) = true := by kernel_rfl

set_option maxRecDepth 1000000 in
theorem four_any (c : Int) (t : ByteArray) (W : World) : Calls Try.prog 7 #[.int .u64 c, .string t] W fun e w' => e = .returned (.bool true) ∧ Below W.heap.size W w' := by
  refine calls_of_ways (ρ := ⟨fun _ => c, fun _ => t, fun _ => false⟩) (xs := [.int .u64 c, .string t]) model_live four_ways (fun _ h => by cases h) ?_ W
  simp [V.den, C.den, sI, sS, den, All2, VRel, CRel]

theorem shut_bool {W : World} {base : Nat} {sp : Nat → Bool} {held : Bool} {H : Type} {enc : TypeId × Value → H} {t : TypeId} (ht : Try.prog.underlying t = some .bool) (b : Bool) : DataW.Trod enc Try.prog W base sp held t (.bool b) (.lit (.bool b)) [] := ⟨1, by simp [DataW.trod, Value.cells, ht]⟩

set_option maxRecDepth 1000000 in
theorem four_contract (H : Type) (enc : TypeId × Value → H) (W : World) (base : Nat) (args : Array Value) (ds gs : List (DataW H)) (before : List MemPlace)
    (hval : ∀ (j : Nat) t v, Try.f7.params[j]? = some t → args[j]? = some v → Value.okWide Try.prog W .any base t v)
    (hW : DataW.Whole enc Try.prog Try.f7.params.toList Rows.modelFourSpec.vars false W args.toList ds gs before) :
    Calls Try.prog 7 args W fun e W' => ∃ v, e = .returned v ∧ Rows.modelFourSpec.post enc Try.prog Try.f7 false true false false W args v W' := by
  have hW' := hW
  obtain ⟨p, q, hA0, hV, rfl, hfz, hnd⟩ := hW
  have hA : DataW.TrodAll enc Try.prog W 0 (fun _ => true) true Try.f7.params.toList args.toList ds p := hA0
  rw [Try.params7] at hA hval
  obtain ⟨v0, v1, d0, d1, p0, p1, rfl, rfl, rfl, h0, h1⟩ := trodAll_two hA
  obtain ⟨rfl, rfl⟩ := trodVars_none hV
  have hlt : ∀ x ∈ p0 ++ p1, x.block < W.heap.size := fun x hx => hW'.lt x (by simpa using hx)
  have k0 := h0
  have k1 := h1
  obtain ⟨c, rfl⟩ := okWide_int Try.underlying49 (hval 0 49 v0 rfl rfl)
  obtain ⟨t, rfl⟩ := okWide_string Try.underlying9 (hval 1 9 v1 rfl rfl)
  refine (four_any c t W).mono fun e W' ⟨he, hg⟩ => ?_
  subst he
  exact ⟨_, rfl, post_ext (pa := p0 ++ p1) (pv := []) hW' (fun _ _ _ => trodAll_cons_mk (shut_bool Try.underlying4 _) trodAll_mk0)
    (fun sp hs => trodAll_mk2 (trod_ext prog_laid (by kernel_rfl) (of_decide_eq_true (by kernel_rfl)) k0 hg (fun x hx => hlt x (by simp [hx])) (fun x hx => hs x (by simp [hx])))
      (trod_ext prog_laid (by kernel_rfl) (of_decide_eq_true (by kernel_rfl)) k1 hg (fun x hx => hlt x (by simp [hx])) (fun x hx => hs x (by simp [hx]))))
    (fun _ _ => rfl) rfl hg (ok_one (by kernel_rfl) rfl (okWide_bool_mk Try.underlying4 _))⟩

set_option maxRecDepth 1000000 in
theorem four_lifted (os : Os) (started : os.Started) (H : Type) (enc : TypeId × Value → H) :
    ReturnsInHanded {} Try.checked os 7 .any (Rows.modelFourSpec.pre6 enc Try.prog Try.f7 Rows.modelFourRow.domain false) (Rows.modelFourSpec.post enc Try.prog Try.f7 false true false false) := by
  refine returnsInHanded_of_change (C := Try.checked) prog_own started (by kernel_rfl) Try.func7
    (ChangeSpec.witness6 (enc := enc) (C := Try.checked) false ⟨#[], #[.int .u64 0, .string { data := #[] }], []⟩ 8 (by kernel_rfl) (by kernel_rfl) (by kernel_rfl) (by kernel_rfl)) ?_
  intro W base args ds gs before hval hW _ _
  exact four_contract H enc W base args ds gs before hval hW

end E

theorem model_four : Rows.ModelFourSaid :=
  OpenClaim.holds_of_wide 7 Try.f7 rfl rfl rfl rfl rfl rfl rfl ⟨rfl, rfl, rfl, rfl, rfl⟩ rfl rfl rfl rfl rfl (by kernel_rfl) Try.func7 (by kernel_rfl)
    (of_decide_eq_true (by kernel_rfl)) (by unfold Func.isWrapper; first | (rw [if_pos (by decide +kernel)]; kernel_rfl) | (rw [if_neg (by decide +kernel)]; exact ⟨rfl, rfl⟩))
    (fun os started H enc _ => E.four_lifted os started H enc)
end Go.Proofs.Ytalaonphhmddnaa

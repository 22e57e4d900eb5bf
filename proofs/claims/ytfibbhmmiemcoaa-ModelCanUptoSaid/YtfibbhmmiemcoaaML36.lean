/-
  says over all terms; the walks of Proof and Derives. No condition.
-/
import Derived.Test.YtfibbhmmiemcoaaML35
set_option linter.all false
namespace Go.Proofs.Ytfibbhmmiemcoaa
open Go.RowKit
attribute [local go_sem] ExtOf.cell ExtOf.frozen ExtOf.lt ExtOf.le
attribute [local go_sem high] ExtOf.cell2 ExtOf.frozen2 ExtOf.lt2 ExtOf.cell3 ExtOf.frozen3 ExtOf.lt3

theorem der_seen {seen : Tt → Bool} {t : Tt} (h : seen t = true) : derT seen t = true := by
  cases t <;> simp [derT, h]
theorem look_none {S : List (Int × Value)} {x : Int} (h : getM S x = none) (z : Value) : lookG S x z true = .tuple #[z, .bool false] ∧ lookG S x z false = z := by
  unfold lookG; rw [h]; exact ⟨rfl, rfl⟩
theorem look_some {S : List (Int × Value)} {x : Int} {v : Value} (h : getM S x = some v) (z : Value) : lookG S x z true = .tuple #[v, .bool true] ∧ lookG S x z false = v := by
  unfold lookG; rw [h]; exact ⟨rfl, rfl⟩

section
variable {C B pb mb kb sb : Nat} {v gv lv : Value} {L G K : List Tt} {W : List (Int × Int)}
theorem SaysPost.mono {b : Bool} {d d' : Nat} {rv : Value} {n : Nat} {w w' : World} {e : Ending} (h : SaysPost C B pb mb kb sb v gv lv L G K W b d rv n w e w') (hd : d ≤ d') : SaysPost C B pb mb kb sb v gv lv L G K W b d' rv n w e w' := by
  obtain ⟨i, rv', n', h1, h2, h3, h4, h5⟩ := h
  exact ⟨i, rv', n', h1, h2, h3, h4, by omega⟩

/-- says of a term: so it answers, so many steps are laid at most. -/
def SayOk (C B pb mb kb sb : Nat) (v gv lv : Value) (L G K : List Tt) (W : List (Int × Int)) (t : Tt) (b : Bool) (d : Nat) : Prop :=
  ∀ (rv : Value) (n : Nat) (w : World), SaysInv C B pb mb kb sb v gv lv L G K W rv n w → n + d ≤ 30000 → Calls Try.prog 69 #[.int .i64 (idT L t), .pointer (some ⟨C + 3, 0, none⟩), .pointer (some ⟨C + 5, 0, none⟩), .pointer (some ⟨C, 0, none⟩), .pointer (some ⟨C + 6, 0, none⟩), .pointer (some ⟨C + 1, 0, none⟩)] w (SaysPost C B pb mb kb sb v gv lv L G K W b d rv n w)

theorem SayOk.mono {t : Tt} {b : Bool} {d d' : Nat} (h : SayOk C B pb mb kb sb v gv lv L G K W t b d) (hd : d ≤ d') : SayOk C B pb mb kb sb v gv lv L G K W t b d' :=
  fun rv n w hI hn => (h rv n w hI (by omega)).mono fun _ _ p => p.mono hd

theorem says_seen : ∀ (i : Nat) (t : Tt), K[i]? = some t → SayOk C B pb mb kb sb v gv lv L G K W t true (i + 1) := by
  intro i
  induction i using Nat.strongRecOn with
  | ind i ih =>
    intro t hi rv n w hI hn
    obtain ⟨S1, S2, xs, h, hA, hB⟩ := hI
    have htK := List.mem_of_getElem? hi
    have ht : t ∈ L := h.st.KL t htK
    have hd : derK K t = true := der_seen (by simpa using htK)
    cases h1 : getM S1 (idT L t : Int) with
    | some u =>
      obtain ⟨⟨i1, rfl⟩, _⟩ := hA t ht u h1
      exact (sa_at C B pb mb kb sb v gv lv L G K W S1 S2 rv n xs t w h hA hB ht (by omega) ⟨i1, (look_some h1 _).1⟩).mono fun _ _ p => p.mono (by omega)
    | none =>
      have h2 : getM S2 (idT L t : Int) = none := by
        cases h2 : getM S2 (idT L t : Int) with
        | none => rfl
        | some u => have := (hB t ht u h2).2; rw [hd] at this; cases this
      obtain ⟨p, hp⟩ : ∃ p, W[i]? = some p := ⟨_, List.getElem?_eq_getElem (by rw [h.st.know.len]; exact (List.getElem?_eq_some_iff.1 hi).1)⟩
      have h3 := (look_some (getM_at h.st.KL h.st.nd hi hp) (wyV (0, 0))).1
      rcases h.st.way i p hp with h0 | ⟨h0, j, u, hj, hu, hpu⟩
      · obtain ⟨p1, p2⟩ := p
        simp only at h0
        subst h0
        exact (sa_given C B pb mb kb sb v gv lv L G K W S1 S2 rv n xs t w h hA hB ht (by omega) ⟨0, (look_none h1 _).1⟩ (look_none h2 _).2 p2 h3 hd).mono fun _ _ p => p.mono (by omega)
      · obtain ⟨p1, p2⟩ := p
        simp only at h0 hpu
        subst hpu
        exact (sa_from C B pb mb kb sb v gv lv L G K W S1 S2 rv n xs t w h hA hB ht (by omega) ⟨0, (look_none h1 _).1⟩ (look_none h2 _).2 p1 _ h0 h3 hd (j + 1) (by omega) (fun rv' n' w' hI' hn' => ih j hj u hu rv' n' w' hI' (by omega))).mono fun _ _ p => p.mono (by omega)

theorem pos_id {t : Tt} (h : t ∈ L) : (0 : Int) < (idT L t : Int) := by
  obtain ⟨i, hi, _⟩ := idT_mem h
  rw [hi]; omega

theorem says_all (hok : PoolOk L) (hKL : ∀ u ∈ K, u ∈ L) (hL : L.length ≤ 60000) : ∀ (t : Tt), t ∈ L → SayOk C B pb mb kb sb v gv lv L G K W t (derK K t) (sizeT t * (K.length + 1)) := by
  intro t
  -- a term that is seen; one that is not: what is left when neither map tells it
  have seen : ∀ t, t ∈ K → SayOk C B pb mb kb sb v gv lv L G K W t (derK K t) (K.length + 1) := fun t ht => by
    obtain ⟨i, hi, he⟩ := List.getElem_of_mem ht
    rw [show derK K t = true from der_seen (by simpa using ht)]
    exact (says_seen i t (by rw [List.getElem?_eq_getElem hi, he])).mono (by omega)
  have go : ∀ (t : Tt) (d : Nat), t ∈ L → 1 ≤ d → (t ∈ K → K.length + 1 ≤ d) →
      (t ∉ K → ∀ (rv : Value) (n : Nat) (w : World) (S1 S2 : List (Int × Value)) (xs : List Value), SaysAt C B pb mb kb sb v gv lv L G K W S1 S2 rv n xs w → InvA L K S1 → InvB L K S2 → n + d ≤ 30000 → (∃ i1 : Int, lookG S1 (idT L t : Int) (.int .i64 0) true = .tuple #[.int .i64 i1, .bool false]) → lookG S2 (idT L t : Int) (.bool false) false = .bool false → lookG (seenL L K W) (idT L t : Int) (wyV (0, 0)) true = .tuple #[.agg #[.int .i64 0, .int .i64 0], .bool false] →
        Calls Try.prog 69 #[.int .i64 (idT L t), .pointer (some ⟨C + 3, 0, none⟩), .pointer (some ⟨C + 5, 0, none⟩), .pointer (some ⟨C, 0, none⟩), .pointer (some ⟨C + 6, 0, none⟩), .pointer (some ⟨C + 1, 0, none⟩)] w (SaysPost C B pb mb kb sb v gv lv L G K W (derK K t) d rv n w)) →
      SayOk C B pb mb kb sb v gv lv L G K W t (derK K t) d := by
    intro t d ht h1d hs hns
    by_cases hK : t ∈ K
    · exact (seen t hK).mono (hs hK)
    · intro rv n w hI hn
      obtain ⟨S1, S2, xs, h, hA, hB⟩ := hI
      cases h1 : getM S1 (idT L t : Int) with
      | some u =>
        obtain ⟨⟨i1, rfl⟩, hd⟩ := hA t ht u h1
        rw [hd]
        exact (sa_at C B pb mb kb sb v gv lv L G K W S1 S2 rv n xs t w h hA hB ht (by omega) ⟨i1, (look_some h1 _).1⟩).mono fun _ _ p => p.mono h1d
      | none =>
        have h3 : lookG (seenL L K W) (idT L t : Int) (wyV (0, 0)) true = .tuple #[.agg #[.int .i64 0, .int .i64 0], .bool false] := (look_none (getM_not ht h.st.KL hK) _).1
        cases h2 : getM S2 (idT L t : Int) with
        | some u =>
          obtain ⟨rfl, hd⟩ := hB t ht u h2
          rw [hd]
          exact (sa_barred C B pb mb kb sb v gv lv L G K W S1 S2 rv n xs t w h hA hB ht (by omega) ⟨0, (look_none h1 _).1⟩ (look_some h2 _).2 0 0 h3 hd).mono fun _ _ p => p.mono h1d
        | none => exact hns hK rv n w S1 S2 xs h hA hB hn ⟨0, (look_none h1 _).1⟩ (look_none h2 _).2 h3
  have free : ∀ (t : Tt), t ∈ L → L.length ≤ 60000 → mkT L K t = ⟨0, 0, true, true⟩ → derK K t = true → sizeT t = 1 → SayOk C B pb mb kb sb v gv lv L G K W t (derK K t) (sizeT t * (K.length + 1)) := by
    intro t ht hL hm hd hz
    rw [hz, Nat.one_mul]
    refine go t (K.length + 1) ht (by omega) (fun _ => Nat.le_refl _) fun hK rv n w S1 S2 xs h hA hB hn h1 h2 h3 => ?_
    rw [hd]
    refine (sa_free C B pb mb kb sb v gv lv L G K W S1 S2 rv n xs t w h hA hB ht (by omega) h1 h2 h3 (fun w' e => ?_) hd).mono fun _ _ p => p.mono (by omega)
    have := du_made B pb mb kb sb v gv lv L G K W t w' (h.ext e).st ht hL
    rw [hm] at this
    exact this
  have signed : ∀ (t a : Tt) (k : Int), kidsT t = [a] → t ∈ L → L.length ≤ 60000 → PoolOk L → (∀ u ∈ K, u ∈ L) → mkT L K t = ⟨idT L a, idT L (.key k), false, decide (Tt.key k ∈ K)⟩ → (t ∉ K → derK K t = (derK K a && decide (Tt.key k ∈ K))) → sizeT t = 1 + sizeT a → SayOk C B pb mb kb sb v gv lv L G K W a (derK K a) (sizeT a * (K.length + 1)) → SayOk C B pb mb kb sb v gv lv L G K W t (derK K t) (sizeT t * (K.length + 1)) := by
    intro t a k hk ht hL hok hKL hm hd hz ih
    have haL : a ∈ L := hok.kids t ht a (by rw [hk]; simp)
    have e0 : sizeT t * (K.length + 1) = sizeT a * (K.length + 1) + (K.length + 1) := by rw [hz, Nat.add_mul]; omega
    rw [e0]
    refine go t _ ht (by omega) (fun _ => by omega) fun hK rv n w S1 S2 xs h hA hB hn h1 h2 h3 => ?_
    have HM : ∀ w', Ext w w' → _ := fun w' e => du_made B pb mb kb sb v gv lv L G K W t w' (h.ext e).st ht hL
    rw [hm] at HM
    have hdt := hd hK
    by_cases hkK : Tt.key k ∈ K
    · have hkd : decide (Tt.key k ∈ K) = true := by simpa using hkK
      rw [hkd] at HM hdt
      cases hda : derK K a with
      | false =>
        rw [hda] at hdt ih
        rw [hdt]
        exact (sa_afail C B pb mb kb sb v gv lv L G K W S1 S2 rv n xs t w h hA hB ht (by omega) h1 h2 h3 _ _ (pos_id haL) HM hdt (sizeT a * (K.length + 1)) (by omega) (fun rv' n' w' hI' hn' => ih rv' n' w' hI' (by omega))).mono fun _ _ p => p.mono (by omega)
      | true =>
        rw [hda] at hdt ih
        rw [hdt]
        have hkd' : derK K (.key k) = true := der_seen hkd
        obtain ⟨i, hi, he⟩ := List.getElem_of_mem hkK
        have hkey := says_seen (C := C) (B := B) (pb := pb) (mb := mb) (kb := kb) (sb := sb) (v := v) (gv := gv) (lv := lv) (L := L) (G := G) (W := W) i (.key k) (by rw [List.getElem?_eq_getElem hi, he])
        exact (sa_two C B pb mb kb sb v gv lv L G K W S1 S2 rv n xs t w h hA hB ht (by omega) h1 h2 h3 _ _ (pos_id haL) (pos_id (hKL _ hkK)) HM hdt (sizeT a * (K.length + 1)) (i + 1) (by omega) (fun rv' n' w' hI' hn' => ih rv' n' w' hI' (by omega)) (fun rv' n' w' hI' hn' => hkey rv' n' w' hI' (by omega))).mono fun _ _ p => p.mono (by omega)
    · have hkd : decide (Tt.key k ∈ K) = false := by simpa using hkK
      rw [hkd] at HM hdt
      rw [Bool.and_false] at hdt
      rw [hdt]
      exact (sa_no C B pb mb kb sb v gv lv L G K W S1 S2 rv n xs t w h hA hB ht (by omega) h1 h2 h3 _ _ HM hdt).mono fun _ _ p => p.mono (by omega)
  induction t with
  | name c => intro ht; exact free _ ht hL rfl (by simp [derK, derT]) rfl
  | num c => intro ht; exact free _ ht hL rfl (by simp [derK, derT]) rfl
  | data c => intro ht; exact free _ ht hL rfl (by simp [derK, derT]) rfl
  | key c =>
    intro ht
    rw [show sizeT (.key c) = 1 from rfl, Nat.one_mul]
    refine go (.key c) (K.length + 1) ht (by omega) (fun _ => Nat.le_refl _) fun hK rv n w S1 S2 xs h hA hB hn h1 h2 h3 => ?_
    have hd : derK K (.key c) = false := by
      show decide (Tt.key c ∈ K) = false
      simpa using hK
    rw [hd]
    refine (sa_no C B pb mb kb sb v gv lv L G K W S1 S2 rv n xs (.key c) w h hA hB ht (by omega) h1 h2 h3 0 0 (fun w' e => ?_) hd).mono fun _ _ p => p.mono (by omega)
    exact du_made B pb mb kb sb v gv lv L G K W (.key c) w' (h.ext e).st ht hL
  | hash a ih =>
    intro ht
    have haL : a ∈ L := hok.kids _ ht a (by simp [kidsT])
    have ih := ih haL
    have e0 : sizeT (.hash a) * (K.length + 1) = sizeT a * (K.length + 1) + (K.length + 1) := by rw [show sizeT (.hash a) = 1 + sizeT a from rfl, Nat.add_mul]; omega
    rw [e0]
    refine go (.hash a) _ ht (by omega) (fun _ => by omega) fun hK rv n w S1 S2 xs h hA hB hn h1 h2 h3 => ?_
    have HM : ∀ w', Ext w w' → _ := fun w' e => du_made B pb mb kb sb v gv lv L G K W (.hash a) w' (h.ext e).st ht hL
    have hdt : derK K (.hash a) = derK K a := by
      show (decide (Tt.hash a ∈ K) || derK K a) = derK K a
      rw [show decide (Tt.hash a ∈ K) = false by simpa using hK, Bool.false_or]
    cases hda : derK K a with
    | false =>
      rw [hda] at hdt ih
      rw [hdt]
      exact (sa_afail C B pb mb kb sb v gv lv L G K W S1 S2 rv n xs (.hash a) w h hA hB ht (by omega) h1 h2 h3 _ 0 (pos_id haL) HM hdt (sizeT a * (K.length + 1)) (by omega) (fun rv' n' w' hI' hn' => ih rv' n' w' hI' (by omega))).mono fun _ _ p => p.mono (by omega)
    | true =>
      rw [hda] at hdt ih
      rw [hdt]
      exact (sa_one C B pb mb kb sb v gv lv L G K W S1 S2 rv n xs (.hash a) w h hA hB ht (by omega) h1 h2 h3 _ (pos_id haL) HM hdt (sizeT a * (K.length + 1)) (by omega) (fun rv' n' w' hI' hn' => ih rv' n' w' hI' (by omega))).mono fun _ _ p => p.mono (by omega)
  | sign c a ih =>
    intro ht
    have haL : a ∈ L := hok.kids _ ht a (by simp [kidsT])
    refine signed (.sign c a) a c rfl ht hL hok hKL rfl (fun hK => ?_) rfl (ih haL)
    show (decide (Tt.sign c a ∈ K) || (derK K a && decide (Tt.key c ∈ K))) = _
    rw [show decide (Tt.sign c a ∈ K) = false by simpa using hK, Bool.false_or]
  | prom f t a ih =>
    intro ht
    have haL : a ∈ L := hok.kids _ ht a (by simp [kidsT])
    refine signed (.prom f t a) a f rfl ht hL hok hKL rfl (fun hK => ?_) rfl (ih haL)
    show (decide (Tt.prom f t a ∈ K) || (derK K a && decide (Tt.key f ∈ K))) = _
    rw [show decide (Tt.prom f t a ∈ K) = false by simpa using hK, Bool.false_or]
  | fake f t a ih =>
    intro ht
    have haL : a ∈ L := hok.kids _ ht a (by simp [kidsT])
    refine signed (.fake f t a) a t rfl ht hL hok hKL rfl (fun hK => ?_) rfl (ih haL)
    show (decide (Tt.fake f t a ∈ K) || (derK K a && decide (Tt.key t ∈ K))) = _
    rw [show decide (Tt.fake f t a ∈ K) = false by simpa using hK, Bool.false_or]
  | pair a b iha ihb =>
    intro ht
    have haL : a ∈ L := hok.kids _ ht a (by simp [kidsT])
    have hbL : b ∈ L := hok.kids _ ht b (by simp [kidsT])
    have iha := iha haL
    have ihb := ihb hbL
    have e0 : sizeT (.pair a b) * (K.length + 1) = sizeT a * (K.length + 1) + sizeT b * (K.length + 1) + (K.length + 1) := by rw [show sizeT (.pair a b) = 1 + sizeT a + sizeT b from rfl, Nat.add_mul, Nat.add_mul]; omega
    rw [e0]
    refine go (.pair a b) _ ht (by omega) (fun _ => by omega) fun hK rv n w S1 S2 xs h hA hB hn h1 h2 h3 => ?_
    have HM : ∀ w', Ext w w' → _ := fun w' e => du_made B pb mb kb sb v gv lv L G K W (.pair a b) w' (h.ext e).st ht hL
    have hdt : derK K (.pair a b) = (derK K a && derK K b) := by
      show (decide (Tt.pair a b ∈ K) || (derK K a && derK K b)) = _
      rw [show decide (Tt.pair a b ∈ K) = false by simpa using hK, Bool.false_or]
    cases hda : derK K a with
    | false =>
      rw [hda, Bool.false_and] at hdt
      rw [hda] at iha
      rw [hdt]
      exact (sa_afail C B pb mb kb sb v gv lv L G K W S1 S2 rv n xs (.pair a b) w h hA hB ht (by omega) h1 h2 h3 _ _ (pos_id haL) HM hdt (sizeT a * (K.length + 1)) (by omega) (fun rv' n' w' hI' hn' => iha rv' n' w' hI' (by omega))).mono fun _ _ p => p.mono (by omega)
    | true =>
      rw [hda, Bool.true_and] at hdt
      rw [hda] at iha
      rw [hdt]
      cases hdb : derK K b with
      | false =>
        rw [hdb] at hdt ihb
        exact (sa_bfail C B pb mb kb sb v gv lv L G K W S1 S2 rv n xs (.pair a b) w h hA hB ht (by omega) h1 h2 h3 _ _ (pos_id haL) (pos_id hbL) HM hdt (sizeT a * (K.length + 1)) (sizeT b * (K.length + 1)) (by omega) (fun rv' n' w' hI' hn' => iha rv' n' w' hI' (by omega)) (fun rv' n' w' hI' hn' => ihb rv' n' w' hI' (by omega))).mono fun _ _ p => p.mono (by omega)
      | true =>
        rw [hdb] at hdt ihb
        exact (sa_two C B pb mb kb sb v gv lv L G K W S1 S2 rv n xs (.pair a b) w h hA hB ht (by omega) h1 h2 h3 _ _ (pos_id haL) (pos_id hbL) HM hdt (sizeT a * (K.length + 1)) (sizeT b * (K.length + 1)) (by omega) (fun rv' n' w' hI' hn' => iha rv' n' w' hI' (by omega)) (fun rv' n' w' hI' hn' => ihb rv' n' w' hI' (by omega))).mono fun _ _ p => p.mono (by omega)
end
end Go.Proofs.Ytfibbhmmiemcoaa

/-
  The walks of Proof and Derives. No condition.
-/
namespace Go.Proofs.Ytfibbhmmiemcoaa
open Go.RowKit
attribute [local go_sem] ExtOf.cell ExtOf.frozen ExtOf.lt ExtOf.le
attribute [local go_sem high] ExtOf.cell2 ExtOf.frozen2 ExtOf.lt2 ExtOf.cell3 ExtOf.frozen3 ExtOf.lt3
theorem run_store_funcS {P : Program} {w : World} {a : Addr} {m : Mode} (fn : Fn) (first captured : Array Value) : (store a (.func fn first captured) m).run P w = stored P w a (.func fn first captured) m := run_store P w a _ m rfl
attribute [local go_sem] run_store_funcS

theorem says_start {B pb mb kb sb : Nat} {v gv lv : Value} {L G K : List Tt} {W : List (Int × Int)} {w w' : World} (hS : StAt B pb mb kb sb v gv lv L G K W w) (e : Ext w w') (hk : w'.heap[w.heap.size]? = some (.cells #[.pointer (some ⟨kb, 0, none⟩)] 42 (0, 0))) (hl : w'.heap[w.heap.size + 1]? = some (.cells #[.slice none 0 0] 93 (0, 0)))
    (m1 : w'.heap[w.heap.size + 2]? = some (.map #[] 0)) (ha : w'.heap[w.heap.size + 3]? = some (.cells #[.map (some (w.heap.size + 2))] 136 (0, 0))) (m2 : w'.heap[w.heap.size + 4]? = some (.map #[] 0)) (hb : w'.heap[w.heap.size + 5]? = some (.cells #[.map (some (w.heap.size + 4))] 137 (0, 0)))
    (hs : w'.heap[w.heap.size + 6]? = some (.cells #[sayV w.heap.size] 138 (0, 0))) : SaysInv w.heap.size B pb mb kb sb v gv lv L G K W (.slice none 0 0) 0 w' := by
  have l6 := (Array.getElem?_eq_some_iff.1 hs).1
  refine ⟨[], [], [], ⟨hS.ext e, hk, hl, ⟨#[], 0, m1, rfl⟩, ha, ⟨#[], 0, m2, rfl⟩, hb, hs, World.ownsRow_nil _ _ _ _, ?_, ?_, ?_, ?_, ?_, by omega⟩, fun t _ u h => by simp [getM] at h, fun t _ u h => by simp [getM] at h⟩
  · exact (Array.getElem?_eq_some_iff.1 hS.pool.head).1
  · exact hS.pool.map.lt
  · exact (Array.getElem?_eq_some_iff.1 hS.know.head).1
  · exact hS.know.map.lt
  · intro g hg
    simp only [List.mem_append] at hg
    rcases hg with h | h | h
    · exact row_lt hS.pool.row g h
    · exact row_lt hS.know.given g h
    · exact row_lt hS.know.list g h

/-- Seven blocks are made, one behind the other. -/
theorem seven (w : World) (o0 o1 o2 o3 o4 o5 o6 : Obj) : ∃ W, W = ((((((w.alloc o0).alloc o1).alloc o2).alloc o3).alloc o4).alloc o5).alloc o6 ∧ Ext w W ∧ W.heap[w.heap.size]? = some o0 ∧ W.heap[w.heap.size + 1]? = some o1 ∧ W.heap[w.heap.size + 2]? = some o2 ∧ W.heap[w.heap.size + 3]? = some o3 ∧ W.heap[w.heap.size + 4]? = some o4 ∧ W.heap[w.heap.size + 5]? = some o5 ∧ W.heap[w.heap.size + 6]? = some o6 := by
  refine ⟨_, rfl, ((((((((Ext.refl w).alloc _).alloc _).alloc _).alloc _).alloc _).alloc _).alloc _), ?_, ?_, ?_, ?_, ?_, ?_, ?_⟩
  · exact heap_ext (heap_new rfl) (((((((Ext.refl _).alloc _).alloc _).alloc _).alloc _).alloc _).alloc _)
  · exact heap_ext (heap_new (by simp)) ((((((Ext.refl _).alloc _).alloc _).alloc _).alloc _).alloc _)
  · exact heap_ext (heap_new (by simp)) (((((Ext.refl _).alloc _).alloc _).alloc _).alloc _)
  · exact heap_ext (heap_new (by simp)) ((((Ext.refl _).alloc _).alloc _).alloc _)
  · exact heap_ext (heap_new (by simp)) (((Ext.refl _).alloc _).alloc _)
  · exact heap_ext (heap_new (by simp)) ((Ext.refl _).alloc _)
  · exact heap_new (by simp)

set_option maxRecDepth 100000 in
set_option maxHeartbeats 6400000 in
theorem du_proof (B pb mb kb sb : Nat) (v gv lv : Value) (L G K : List Tt) (W : List (Int × Int)) (t : Tt) (w : World) (hS : StAt B pb mb kb sb v gv lv L G K W w) (ht : t ∈ L) (hL : L.length ≤ 60000) (hd : sizeT t * (K.length + 1) ≤ 30000) :
    Calls Try.prog 34 #[.pointer (some ⟨kb, 0, none⟩), .int .i64 (idT L t)] w fun e w' => ∃ r : Value, e = .returned (.tuple #[r, .bool (derK K t)]) ∧ Ext w w' := by
  have hmm := @run_makeMap Try.prog
  have HS := Lib.hid hS
  have HSAY := Lib.hid (says_all (C := w.heap.size) (B := B) (pb := pb) (mb := mb) (kb := kb) (sb := sb) (v := v) (gv := gv) (lv := lv) (G := G) (W := W) hS.ok hS.KL hL t ht)
  have HD := Lib.hid hd
  have lb : kb < w.heap.size := (Array.getElem?_eq_some_iff.1 hS.know.head).1
  clear hS ht hL hd
  generalize hnt : (idT L t : Int) = nt
  have HNT := Lib.hid hnt
  clear hnt
  generalize hdk : derK K t = b at HSAY ⊢
  clear hdk
  go_enter Try.func34, Try.ntmps34
  go_upto_region 8 with fail
  obtain ⟨w1, hw1, e1, q0, q1, q2, q3, q4, q5, q6⟩ := seven w (.cells #[.pointer (some ⟨kb, 0, none⟩)] 42) (.cells #[.slice none 0 0] 93) (.map #[] 0) (.cells #[.map (some (w.heap.size + 2))] 136) (.map #[] 0) (.cells #[.map (some (w.heap.size + 4))] 137) (.cells #[sayV w.heap.size] 138)
  have hI := says_start HS.out e1 q0 q1 q2 q3 q4 q5 q6
  refine wp_forget (fun w' => Hid (SaysInv w.heap.size B pb mb kb sb v gv lv L G K W (.slice none 0 0) 0 w' ∧ Ext w w' ∧ w'.heap[w.heap.size + 6]? = some (.cells #[sayV w.heap.size] 138 (0, 0)))) (Lib.hid (by rw [hw1] at hI e1 q6; exact ⟨hI, e1, q6⟩)) ?_
  clear hw1 e1 q0 q1 q2 q3 q4 q5 q6 hI w1
  intro w1 H1
  have cs := fun j => cell_of_row w1 _ j _ _ _ H1.out.2.2
  have zs := (Array.getElem?_eq_some_iff.1 H1.out.2.2).1
  simp only [sayV] at cs
  go_wp2_with fail
  have hsy := HSAY.out (.slice none 0 0) 0 w1 H1.out.1 (by have := HD.out; omega)
  rw [HNT.out] at hsy
  refine hsy.mono ?_
  intro e w2 hp
  obtain ⟨i2, rv2, n2, rfl, hI2, hk2, hf2, _⟩ := hp
  have hx2 : Ext w w2 := keeps_ext' H1.out.2.1 hk2 (fun g hg => by
    simp only [rowB, Value.ownBlock, List.mem_cons, List.not_mem_nil, or_false] at hg
    omega)
  obtain ⟨s1, s2, ys, hA, _, _⟩ := hI2
  have HX := Lib.hid hx2
  have HA := Lib.hid hA
  obtain ⟨ar, cr, hrv, _, _⟩ := own_view hA.row
  subst hrv
  have cl := fun j => cell_of_row w2 _ j _ _ _ hA.hl
  have zl : w.heap.size + 1 < w2.heap.size := by have := hA.lo.2.2.2.2.2; omega
  clear hk2 hf2 hx2 hA cs zs hsy
  cases b with
  | true =>
    go_wp2_with fail
    refine bodyPost_ret (results_tmp2 rfl _ _ _) rfl ?_
    exact ⟨_, rfl, HX.out⟩
  | false =>
    go_wp2_with fail
    refine bodyPost_ret (results_tmp2 rfl _ _ _) rfl ?_
    exact ⟨_, rfl, HX.out⟩

set_option maxRecDepth 100000 in
set_option maxHeartbeats 6400000 in
theorem du_derives (B pb mb kb sb : Nat) (v gv lv : Value) (L G K : List Tt) (W : List (Int × Int)) (t : Tt) (w : World) (hS : StAt B pb mb kb sb v gv lv L G K W w) (ht : t ∈ L) (hL : L.length ≤ 60000) (hd : sizeT t * (K.length + 1) ≤ 30000) :
    Calls Try.prog 15 #[.pointer (some ⟨kb, 0, none⟩), .int .i64 (idT L t)] w fun e w' => e = .returned (.bool (derK K t)) ∧ Ext w w' := by
  have HP := Lib.hid (du_proof B pb mb kb sb v gv lv L G K W t w hS ht hL hd)
  clear hS ht hL hd
  generalize (idT L t : Int) = nt at HP ⊢
  go_enter Try.func15, Try.ntmps15
  go_wp2_with fail
  refine HP.out.mono ?_
  rintro e w1 ⟨r, rfl, hx⟩
  have HX := Lib.hid hx
  clear hx
  go_wp2_with fail
  go_ret
  exact ⟨rfl, HX.out⟩
end Go.Proofs.Ytfibbhmmiemcoaa

/-
  Plain laws: terms as trees, a pool of them, what they show, what is derived; what can be said is what is derived. No condition.
-/
import Derived.Test.YtfibbhmmiemcoaaML18
set_option linter.all false
namespace Go.Proofs.Ytfibbhmmiemcoaa

/-- A term as a tree. -/
inductive Tt where
  | name (n : Int)
  | num (n : Int)
  | data (s : ByteArray)
  | pair (a b : Tt)
  | hash (a : Tt)
  | key (n : Int)
  | sign (n : Int) (a : Tt)
  | prom (f t : Int) (a : Tt)
  | fake (f t : Int) (a : Tt)
  deriving DecidableEq

def wDeal : ByteArray := { data := #[100, 101, 97, 108] }
def wAbort : ByteArray := { data := #[97, 98, 111, 114, 116] }
def wResolve : ByteArray := { data := #[114, 101, 115, 111, 108, 118, 101] }
def wAborted : ByteArray := { data := #[97, 98, 111, 114, 116, 101, 100] }
def wInstead : ByteArray := { data := #[105, 110, 115, 116, 101, 97, 100] }
def wFull : ByteArray := { data := #[102, 117, 108, 108] }

def dealT (c : Int) (s : ByteArray) : Tt := .pair (.data wDeal) (.pair (.num c) (.data s))
def prmT (f : Int) (b : Bool) (d : Tt) : Tt := if b then .fake f (1 - f) d else .prom f (1 - f) d
/-- The tree of a letter's term. -/
def treeL (l : Lt) : Tt :=
  if l.k = 1 then prmT l.f l.b (dealT l.c l.t)
  else if l.k = 2 then .sign l.f (dealT l.c l.t)
  else if l.k = 3 then .sign 0 (.pair (.data wAbort) (.num l.c))
  else if l.k = 4 then .sign l.f (.pair (.data wResolve) (.pair (prmT 0 l.b (dealT l.c l.t)) (prmT 1 l.b (dealT l.c l.t))))
  else if l.k = 5 then .sign 2 (.pair (.data wAborted) (.num l.c))
  else if l.k = 6 then .sign 2 (.pair (.data wInstead) (dealT l.c l.t))
  else .pair (.data wFull) (.num l.c)

/-- What a term shows: itself, and what stands in what it shows. -/
def visT : Tt → List Tt
  | .pair a b => .pair a b :: (visT a ++ visT b)
  | .sign n a => .sign n a :: visT a
  | .prom f t a => .prom f t a :: visT a
  | .fake f t a => .fake f t a :: visT a
  | t => [t]

/-- Is a term made, of what is seen? -/
def derT (seen : Tt → Bool) : Tt → Bool
  | .name n => seen (.name n) || true
  | .num n => seen (.num n) || true
  | .data s => seen (.data s) || true
  | .pair a b => seen (.pair a b) || (derT seen a && derT seen b)
  | .hash a => seen (.hash a) || derT seen a
  | .key n => seen (.key n)
  | .sign n a => seen (.sign n a) || (derT seen a && seen (.key n))
  | .prom f t a => seen (.prom f t a) || (derT seen a && seen (.key f))
  | .fake f t a => seen (.fake f t a) || (derT seen a && seen (.key t))

/-- Is a letter one? -/
structure OkL (l : Lt) : Prop where
  k : 1 ≤ l.k ∧ l.k ≤ 7
  f : l.f = 0 ∨ l.f = 1
  f0 : l.k ≠ 1 → l.k ≠ 2 → l.k ≠ 4 → l.f = 0
  t0 : l.k ≠ 1 → l.k ≠ 2 → l.k ≠ 4 → l.k ≠ 6 → l.t = { data := #[] }
  b0 : l.k ≠ 1 → l.k ≠ 4 → l.b = false

def seenG (G : List Tt) (t : Tt) : Bool := G.any fun g => (visT g).contains t
def givenG (H : List Lt) (bad : Int → Bool) : List Tt := H.map treeL ++ (if bad 0 then [.key 0] else []) ++ (if bad 1 then [.key 1] else [])

def canQ (H : List Lt) (bad : Int → Bool) (c : Int) (f : Int) (b : Bool) (t : ByteArray) : Bool :=
  H.contains ⟨1, f, c, t, b⟩ || (bad (if b then 1 - f else f) || H.any fun h => h.k == 4 && h.b == b && decide (h.t = t))
/-- What model.Can says of a letter of the contract. -/
def canL (H : List Lt) (bad : Int → Bool) (l : Lt) : Bool :=
  H.contains l ||
    (if l.k = 1 then bad (if l.b then 1 - l.f else l.f) || H.any fun h => h.k == 4 && h.b == l.b && decide (h.t = l.t)
    else if l.k = 2 then bad l.f
    else if l.k = 3 then bad 0
    else if l.k = 4 then bad l.f && (canQ H bad l.c 0 l.b l.t && canQ H bad l.c 1 l.b l.t)
    else l.k == 7)

theorem words_ne : wDeal ≠ wAbort ∧ wDeal ≠ wResolve ∧ wDeal ≠ wAborted ∧ wDeal ≠ wInstead ∧ wDeal ≠ wFull ∧ wAbort ≠ wResolve ∧ wAbort ≠ wAborted ∧ wAbort ≠ wInstead ∧ wAbort ≠ wFull ∧ wResolve ≠ wAborted ∧ wResolve ≠ wInstead ∧ wResolve ≠ wFull ∧ wAborted ≠ wInstead ∧ wAborted ≠ wFull ∧ wInstead ≠ wFull := by decide

theorem kinds7 {k : Int} (h : 1 ≤ k ∧ k ≤ 7) : k = 1 ∨ k = 2 ∨ k = 3 ∨ k = 4 ∨ k = 5 ∨ k = 6 ∨ k = 7 := by omega

/-- Where a promise is shown. -/
theorem vis_prm {h : Lt} (ok : OkL h) {f c : Int} {b : Bool} {t : ByteArray} (hf : f = 0 ∨ f = 1) :
    prmT f b (dealT c t) ∈ visT (treeL h) ↔ (h = ⟨1, f, c, t, b⟩) ∨ (h.k = 4 ∧ h.b = b ∧ h.c = c ∧ h.t = t) := by
  obtain ⟨k, f', c', t', b'⟩ := h
  obtain ⟨hk, hf', h3, h4, h5⟩ := ok
  simp only at hk hf' h3 h4 h5
  rcases hf with rfl | rfl <;> rcases hf' with rfl | rfl <;> rcases kinds7 hk with rfl | rfl | rfl | rfl | rfl | rfl | rfl <;> cases b <;> cases b' <;>
    simp_all [treeL, prmT, dealT, visT, eq_comm]

theorem sign_top {h : Lt} {n : Int} {a : Tt} (hm : Tt.sign n a ∈ visT (treeL h)) : treeL h = .sign n a := by
  obtain ⟨k, f, c, t, b⟩ := h
  unfold treeL at hm ⊢
  repeat' split
  all_goals (simp_all only [if_true, if_false])
  all_goals (cases b <;> simp_all [prmT, dealT, visT, eq_comm])

theorem prm_inj {f f' : Int} {b b' : Bool} {d d' : Tt} (h : prmT f b d = prmT f' b' d') : f = f' ∧ b = b' ∧ d = d' := by
  unfold prmT at h
  cases b <;> cases b' <;> simp_all
theorem deal_inj {c c' : Int} {t t' : ByteArray} (h : dealT c t = dealT c' t') : c = c' ∧ t = t' := by
  simpa [dealT] using h
/-- The kind of a letter, read off its tree. -/
def kdT : Tt → Int
  | .prom _ _ _ => 1
  | .fake _ _ _ => 1
  | .sign _ (.pair (.data w) _) => if w = wDeal then 2 else if w = wAbort then 3 else if w = wResolve then 4 else if w = wAborted then 5 else 6
  | _ => 7
theorem kd_tree {l : Lt} (h : 1 ≤ l.k ∧ l.k ≤ 7) : kdT (treeL l) = l.k := by
  obtain ⟨k, f, c, t, b⟩ := l
  simp only at h
  have n1 : ¬ wAbort = wDeal := by decide
  have n2 : ¬ wResolve = wDeal := by decide
  have n3 : ¬ wResolve = wAbort := by decide
  have n4 : ¬ wAborted = wDeal := by decide
  have n5 : ¬ wAborted = wAbort := by decide
  have n6 : ¬ wAborted = wResolve := by decide
  have n7 : ¬ wInstead = wDeal := by decide
  have n8 : ¬ wInstead = wAbort := by decide
  have n9 : ¬ wInstead = wResolve := by decide
  have na : ¬ wInstead = wAborted := by decide
  rcases kinds7 h with rfl | rfl | rfl | rfl | rfl | rfl | rfl
  · cases b <;> simp [treeL, kdT, prmT]
  all_goals simp [treeL, kdT, dealT, n1, n2, n3, n4, n5, n6, n7, n8, n9, na]
theorem tree_inj {h l : Lt} (ok : OkL h) (okl : OkL l) (he : treeL h = treeL l) : h = l := by
  have hk : h.k = l.k := by rw [← kd_tree ok.k, he, kd_tree okl.k]
  obtain ⟨k, f, c, t, b⟩ := h
  obtain ⟨k', f', c', t', b'⟩ := l
  obtain ⟨h1, h2, h3, h4, h5⟩ := ok
  obtain ⟨g1, g2, g3, g4, g5⟩ := okl
  simp only at h1 h2 h3 h4 h5 g1 g2 g3 g4 g5 hk
  subst hk
  rcases kinds7 h1 with rfl | rfl | rfl | rfl | rfl | rfl | rfl
  · simp only [treeL, if_true] at he
    obtain ⟨rfl, rfl, hd⟩ := prm_inj he
    obtain ⟨rfl, rfl⟩ := deal_inj hd
    rfl
  · simp [treeL] at he
    obtain ⟨rfl, hd⟩ := he
    obtain ⟨rfl, rfl⟩ := deal_inj hd
    simp at h5 g5
    rw [h5, g5]
  · simp [treeL] at he
    simp at h3 h4 h5 g3 g4 g5
    simp [h3, h4, h5, g3, g4, g5, he]
  · simp [treeL] at he
    obtain ⟨rfl, hp, _⟩ := he
    obtain ⟨_, rfl, hd⟩ := prm_inj hp
    obtain ⟨rfl, rfl⟩ := deal_inj hd
    rfl
  · simp [treeL] at he
    simp at h3 h4 h5 g3 g4 g5
    simp [h3, h4, h5, g3, g4, g5, he]
  · simp [treeL] at he
    obtain ⟨rfl, rfl⟩ := deal_inj he
    simp at h3 h5 g3 g5
    simp [h3, h5, g3, g5]
  · simp [treeL] at he
    simp at h3 h4 h5 g3 g4 g5
    simp [h3, h4, h5, g3, g4, g5, he]
/-- Where a signature that is a letter's tree is shown: in the letter alone. -/
theorem vis_sign {h l : Lt} (ok : OkL h) (okl : OkL l) (hk : l.k = 2 ∨ l.k = 3 ∨ l.k = 4 ∨ l.k = 5 ∨ l.k = 6) : treeL l ∈ visT (treeL h) ↔ h = l := by
  constructor
  · intro hm
    have : ∃ n a, treeL l = .sign n a := by
      unfold treeL
      rcases hk with e | e | e | e | e <;> simp [e]
    obtain ⟨n, a, e⟩ := this
    rw [e] at hm
    exact tree_inj ok okl ((sign_top hm).trans e.symm)
  · rintro rfl
    unfold treeL
    rcases hk with e | e | e | e | e <;> simp [e, visT]

/-- No letter shows a key. -/
theorem vis_key {h : Lt} (n : Int) : Tt.key n ∉ visT (treeL h) := by
  obtain ⟨k, f, c, t, b⟩ := h
  unfold treeL
  repeat' split
  all_goals (cases b <;> simp [prmT, dealT, visT])

theorem seenG_iff {G : List Tt} {t : Tt} : seenG G t = true ↔ ∃ g ∈ G, t ∈ visT g := by simp [seenG]
theorem seen_letters {H : List Lt} {bad : Int → Bool} {t : Tt} (ht : ∀ n, t ≠ .key n) : seenG (givenG H bad) t = true ↔ ∃ h ∈ H, t ∈ visT (treeL h) := by
  rw [seenG_iff]
  unfold givenG
  constructor
  · rintro ⟨g, hg, hv⟩
    simp only [List.mem_append, List.mem_map] at hg
    rcases hg with (⟨h, hh, rfl⟩ | hg) | hg
    · exact ⟨h, hh, hv⟩
    · split at hg
      · simp at hg; subst hg; simp [visT] at hv; exact absurd hv (ht 0)
      · simp at hg
    · split at hg
      · simp at hg; subst hg; simp [visT] at hv; exact absurd hv (ht 1)
      · simp at hg
  · rintro ⟨h, hh, hv⟩
    exact ⟨treeL h, by simp; exact .inl ⟨h, hh, rfl⟩, hv⟩
theorem seen_key {H : List Lt} {bad : Int → Bool} (n : Int) : seenG (givenG H bad) (.key n) = ((n == 0 && bad 0) || (n == 1 && bad 1)) := by
  rw [Bool.eq_iff_iff, seenG_iff]
  unfold givenG
  constructor
  · rintro ⟨g, hg, hv⟩
    simp only [List.mem_append, List.mem_map] at hg
    rcases hg with (⟨h, hh, rfl⟩ | hg) | hg
    · exact absurd hv (vis_key n)
    · split at hg
      · rename_i hb
        simp at hg; subst hg; simp [visT] at hv; subst hv; simp [hb]
      · simp at hg
    · split at hg
      · rename_i hb
        simp at hg; subst hg; simp [visT] at hv; subst hv; simp [hb]
      · simp at hg
  · intro h
    simp only [Bool.or_eq_true, Bool.and_eq_true, beq_iff_eq] at h
    rcases h with ⟨rfl, hb⟩ | ⟨rfl, hb⟩
    · exact ⟨.key 0, by simp [hb], by simp [visT]⟩
    · exact ⟨.key 1, by simp [hb], by simp [visT]⟩

theorem der_deal (seen : Tt → Bool) (c : Int) (t : ByteArray) : derT seen (dealT c t) = true := by simp [dealT, derT]

theorem pair_prm {h : Lt} {b : Bool} {t : ByteArray} {c : Int} (hk : 1 ≤ h.k ∧ h.k ≤ 7) (hm : Tt.pair (prmT 0 b (dealT c t)) (prmT 1 b (dealT c t)) ∈ visT (treeL h)) : h.k = 4 ∧ h.b = b ∧ h.t = t := by
  obtain ⟨k, f, c', t', b'⟩ := h
  simp only at hk ⊢
  rcases kinds7 hk with rfl | rfl | rfl | rfl | rfl | rfl | rfl <;> cases b <;> cases b' <;> simp [treeL, prmT, dealT, visT] at hm ⊢
  all_goals exact hm.2.symm
theorem pair_res {h : Lt} {b : Bool} {t : ByteArray} {c : Int} (hk : 1 ≤ h.k ∧ h.k ≤ 7) (hm : Tt.pair (.data wResolve) (.pair (prmT 0 b (dealT c t)) (prmT 1 b (dealT c t))) ∈ visT (treeL h)) : h.k = 4 ∧ h.b = b ∧ h.t = t := by
  obtain ⟨k, f, c', t', b'⟩ := h
  simp only at hk ⊢
  rcases kinds7 hk with rfl | rfl | rfl | rfl | rfl | rfl | rfl <;> cases b <;> cases b' <;> simp [treeL, prmT, dealT, visT] at hm ⊢
  all_goals exact hm.2.symm
theorem res_canQ {H : List Lt} {bad : Int → Bool} {c f : Int} {b : Bool} {t : ByteArray} (h : ∃ h ∈ H, h.k = 4 ∧ h.b = b ∧ h.t = t) : canQ H bad c f b t = true := by
  obtain ⟨h, hh, e1, e2, e3⟩ := h
  unfold canQ
  simp only [Bool.or_eq_true, List.any_eq_true, Bool.and_eq_true, beq_iff_eq, decide_eq_true_eq]
  exact .inr (.inr ⟨h, hh, ⟨e1, e2⟩, e3⟩)

section
variable {H : List Lt} {bad : Int → Bool} {c : Int} (hH : ∀ h ∈ H, OkL h ∧ h.c = c)
include hH
theorem seen_sign {l : Lt} (okl : OkL l) (hk : l.k = 2 ∨ l.k = 3 ∨ l.k = 4 ∨ l.k = 5 ∨ l.k = 6) : seenG (givenG H bad) (treeL l) = H.contains l := by
  rw [Bool.eq_iff_iff, seen_letters (fun n => by unfold treeL; rcases hk with e | e | e | e | e <;> simp [e])]
  simp only [List.contains_iff_mem]
  constructor
  · rintro ⟨h, hh, hv⟩
    rw [← (vis_sign (hH h hh).1 okl hk).1 hv]; exact hh
  · intro hm
    exact ⟨l, hm, (vis_sign okl okl hk).2 rfl⟩
theorem seen_prm {f : Int} {b : Bool} {t : ByteArray} (hf : f = 0 ∨ f = 1) : seenG (givenG H bad) (prmT f b (dealT c t)) = (H.contains ⟨1, f, c, t, b⟩ || H.any fun h => h.k == 4 && h.b == b && decide (h.t = t)) := by
  rw [Bool.eq_iff_iff, seen_letters (fun n => by unfold prmT; cases b <;> simp)]
  simp only [Bool.or_eq_true, List.contains_iff_mem, List.any_eq_true, Bool.and_eq_true, beq_iff_eq, decide_eq_true_eq]
  constructor
  · rintro ⟨h, hh, hv⟩
    rcases (vis_prm (hH h hh).1 hf).1 hv with e | ⟨e1, e2, _, e4⟩
    · exact .inl (by rw [← e]; exact hh)
    · exact .inr ⟨h, hh, ⟨e1, e2⟩, e4⟩
  · rintro (hm | ⟨h, hh, ⟨e1, e2⟩, e4⟩)
    · exact ⟨_, hm, (vis_prm (hH _ hm).1 hf).2 (.inl rfl)⟩
    · exact ⟨h, hh, (vis_prm (hH h hh).1 hf).2 (.inr ⟨e1, e2, (hH h hh).2, e4⟩)⟩
theorem der_prm {f : Int} {b : Bool} {t : ByteArray} (hf : f = 0 ∨ f = 1) : derT (seenG (givenG H bad)) (prmT f b (dealT c t)) = canQ H bad c f b t := by
  have e : derT (seenG (givenG H bad)) (prmT f b (dealT c t)) = (seenG (givenG H bad) (prmT f b (dealT c t)) || seenG (givenG H bad) (.key (if b then 1 - f else f))) := by
    have := der_deal (seenG (givenG H bad)) c t
    unfold prmT
    cases b <;> simp [derT, this]
  rw [e, seen_prm hH hf, seen_key]
  unfold canQ
  rcases hf with rfl | rfl <;> cases b <;> simp [Bool.or_comm, Bool.or_left_comm]

/-- WHAT CAN BE SAID IS WHAT IS DERIVED. -/
theorem can_der {l : Lt} (okl : OkL l) (hc : l.c = c) : derT (seenG (givenG H bad)) (treeL l) = canL H bad l := by
  have hd := fun t => der_deal (seenG (givenG H bad)) c t
  have hs := fun hk => seen_sign (bad := bad) hH okl hk
  obtain ⟨k, f, c', t, b⟩ := l
  simp only at hc
  subst hc
  have hf := okl.f
  have hk := okl.k
  simp only at hf hk
  rcases kinds7 hk with rfl | rfl | rfl | rfl | rfl | rfl | rfl
  · have h1 := der_prm (bad := bad) hH (b := b) (t := t) hf
    simp only [treeL, if_true]
    rw [h1]
    simp [canQ, canL]
  · have h1 := hs (.inl rfl)
    simp [treeL] at h1
    simp only [treeL, canL]
    simp [derT, hd, h1, seen_key]
    rcases hf with rfl | rfl <;> simp
  · have h1 := hs (.inr (.inl rfl))
    simp [treeL] at h1
    simp only [treeL, canL]
    simp [derT, h1, seen_key]
  · have h1 := hs (.inr (.inr (.inl rfl)))
    simp [treeL] at h1
    simp only [treeL, canL]
    have p0 := der_prm (bad := bad) hH (b := b) (t := t) (.inl rfl : (0 : Int) = 0 ∨ (0 : Int) = 1)
    have p1 := der_prm (bad := bad) hH (b := b) (t := t) (.inr rfl : (1 : Int) = 0 ∨ (1 : Int) = 1)
    simp [derT, h1, seen_key, p0, p1]
    have q1 : seenG (givenG H bad) (.pair (prmT 0 b (dealT c' t)) (prmT 1 b (dealT c' t))) = true → canQ H bad c' 0 b t = true ∧ canQ H bad c' 1 b t = true := fun hq => by
      obtain ⟨h, hh, hv⟩ := (seen_letters (fun n => by simp)).1 hq
      have := pair_prm (hH h hh).1.k hv
      exact ⟨res_canQ ⟨h, hh, this⟩, res_canQ ⟨h, hh, this⟩⟩
    have q2 : seenG (givenG H bad) (.pair (.data wResolve) (.pair (prmT 0 b (dealT c' t)) (prmT 1 b (dealT c' t)))) = true → canQ H bad c' 0 b t = true ∧ canQ H bad c' 1 b t = true := fun hq => by
      obtain ⟨h, hh, hv⟩ := (seen_letters (fun n => by simp)).1 hq
      have := pair_res (hH h hh).1.k hv
      exact ⟨res_canQ ⟨h, hh, this⟩, res_canQ ⟨h, hh, this⟩⟩
    generalize seenG (givenG H bad) (.pair (prmT 0 b (dealT c' t)) (prmT 1 b (dealT c' t))) = s1 at q1 ⊢
    generalize seenG (givenG H bad) (.pair (.data wResolve) (.pair (prmT 0 b (dealT c' t)) (prmT 1 b (dealT c' t)))) = s2 at q2 ⊢
    generalize canQ H bad c' 0 b t = a0 at q1 q2 ⊢
    generalize canQ H bad c' 1 b t = a1 at q1 q2 ⊢
    rcases hf with rfl | rfl <;> cases s1 <;> cases s2 <;> cases a0 <;> cases a1 <;> simp_all
  · have h1 := hs (.inr (.inr (.inr (.inl rfl))))
    simp [treeL] at h1
    simp only [treeL, canL]
    simp [derT, h1, seen_key]
  · have h1 := hs (.inr (.inr (.inr (.inr rfl))))
    simp [treeL] at h1
    simp only [treeL, canL]
    simp [derT, hd, h1, seen_key]
  · simp [treeL, canL, derT]
end

/-- What a term is made of. -/
def kidsT : Tt → List Tt
  | .pair a b => [a, b]
  | .hash a => [a]
  | .sign _ a => [a]
  | .prom _ _ a => [a]
  | .fake _ _ a => [a]
  | _ => []
def sizeT : Tt → Nat
  | .pair a b => 1 + sizeT a + sizeT b
  | .hash a => 1 + sizeT a
  | .sign _ a => 1 + sizeT a
  | .prom _ _ a => 1 + sizeT a
  | .fake _ _ a => 1 + sizeT a
  | _ => 1
def depthT : Tt → Nat
  | .pair a b => max (depthT a) (depthT b) + 1
  | .hash a => depthT a + 1
  | .sign _ a => depthT a + 1
  | .prom _ _ a => depthT a + 1
  | .fake _ _ a => depthT a + 1
  | _ => 1

/-- The number of a term in a pool that holds these terms; 0: it is not there. -/
def idT (L : List Tt) (t : Tt) : Nat := match L.findIdx? (fun u => decide (u = t)) with
  | some i => i + 1
  | none => 0

/-- How a term is made, in such a pool. -/
structure Nd where
  k : Int
  f : Int
  t : Int
  n : Int
  s : ByteArray
  a : Nat
  b : Nat
  deriving DecidableEq
def ndT (L : List Tt) : Tt → Nd
  | .name n => ⟨1, n, 0, 0, { data := #[] }, 0, 0⟩
  | .num n => ⟨2, 0, 0, n, { data := #[] }, 0, 0⟩
  | .data s => ⟨3, 0, 0, 0, s, 0, 0⟩
  | .pair a b => ⟨4, 0, 0, 0, { data := #[] }, idT L a, idT L b⟩
  | .hash a => ⟨5, 0, 0, 0, { data := #[] }, idT L a, 0⟩
  | .key n => ⟨6, n, 0, 0, { data := #[] }, 0, 0⟩
  | .sign n a => ⟨7, n, 0, 0, { data := #[] }, idT L a, 0⟩
  | .prom f t a => ⟨8, f, t, 0, { data := #[] }, idT L a, 0⟩
  | .fake f t a => ⟨9, f, t, 0, { data := #[] }, idT L a, 0⟩

theorem idT_some {L : List Tt} {t : Tt} {i : Nat} (hn : L.Nodup) (h : L[i]? = some t) : idT L t = i + 1 := by
  obtain ⟨hlt, he⟩ := List.getElem?_eq_some_iff.1 h
  have : L.findIdx? (fun u => decide (u = t)) = some i := by
    rw [List.findIdx?_eq_some_iff_getElem]
    refine ⟨hlt, by simp [he], fun j hj => ?_⟩
    simp only [decide_eq_true_eq]
    intro e
    have := (List.getElem_inj hn).1 (e.trans he.symm)
    omega
  unfold idT
  rw [this]
theorem idT_mem {L : List Tt} {t : Tt} (h : t ∈ L) : ∃ i, idT L t = i + 1 ∧ L[i]? = some t := by
  unfold idT
  cases hf : L.findIdx? (fun u => decide (u = t)) with
  | none =>
    rw [List.findIdx?_eq_none_iff] at hf
    have := hf t h
    simp at this
  | some i =>
    obtain ⟨hlt, h1, _⟩ := List.findIdx?_eq_some_iff_getElem.1 hf
    exact ⟨i, rfl, by rw [List.getElem?_eq_getElem hlt]; simpa using h1⟩
theorem idT_not {L : List Tt} {t : Tt} (h : t ∉ L) : idT L t = 0 := by
  unfold idT
  have : L.findIdx? (fun u => decide (u = t)) = none := by
    rw [List.findIdx?_eq_none_iff]
    intro u hu
    simp only [decide_eq_false_iff_not]
    rintro rfl; exact h hu
  rw [this]
theorem idT_app {L M : List Tt} {t : Tt} (h : t ∈ L) : idT (L ++ M) t = idT L t := by
  obtain ⟨i, h1, h2⟩ := idT_mem h
  have hf : L.findIdx? (fun u => decide (u = t)) = some i := by
    unfold idT at h1
    split at h1
    · rename_i j hj; rw [hj]; congr 1; omega
    · omega
  unfold idT
  rw [List.findIdx?_append, hf]
  rfl
theorem idT_inj {L : List Tt} {t u : Tt} (ht : t ∈ L) (hu : u ∈ L) (h : idT L t = idT L u) : t = u := by
  obtain ⟨i, h1, h2⟩ := idT_mem ht
  obtain ⟨j, g1, g2⟩ := idT_mem hu
  have : i = j := by omega
  subst this
  rw [h2] at g2
  exact Option.some.inj g2
theorem ndT_app {L M : List Tt} {t : Tt} (h : ∀ u ∈ kidsT t, u ∈ L) : ndT (L ++ M) t = ndT L t := by
  cases t <;> simp only [ndT] <;> (try rfl)
  case pair a b => rw [idT_app (h a (by simp [kidsT])), idT_app (h b (by simp [kidsT]))]
  case hash a => rw [idT_app (h a (by simp [kidsT]))]
  case sign n a => rw [idT_app (h a (by simp [kidsT]))]
  case prom f t a => rw [idT_app (h a (by simp [kidsT]))]
  case fake f t a => rw [idT_app (h a (by simp [kidsT]))]
theorem ndT_inj {L : List Tt} {t u : Tt} (ht : ∀ x ∈ kidsT t, x ∈ L) (hu : ∀ x ∈ kidsT u, x ∈ L) (h : ndT L t = ndT L u) : t = u := by
  cases t <;> cases u <;> simp only [ndT, Nd.mk.injEq] at h <;> simp_all [kidsT]
  case pair.pair a b c d => exact ⟨idT_inj ht.1 hu.1 h.1, idT_inj ht.2 hu.2 h.2⟩
  case hash.hash a b => exact idT_inj ht hu h
  case sign.sign n a m b => exact idT_inj ht hu h.2
  case prom.prom f t a f' t' b => exact idT_inj ht hu h.2.2
  case fake.fake f t a f' t' b => exact idT_inj ht hu h.2.2

/-- Each once, and what each is made of. -/
structure PoolOk (L : List Tt) : Prop where
  nodup : L.Nodup
  kids : ∀ t ∈ L, ∀ u ∈ kidsT t, u ∈ L
def addT (L : List Tt) (t : Tt) : List Tt := if t ∈ L then L else L ++ [t]
def growT : Tt → List Tt → List Tt
  | .pair a b, L => addT (growT b (growT a L)) (.pair a b)
  | .hash a, L => addT (growT a L) (.hash a)
  | .sign n a, L => addT (growT a L) (.sign n a)
  | .prom f t a, L => addT (growT a L) (.prom f t a)
  | .fake f t a, L => addT (growT a L) (.fake f t a)
  | t, L => addT L t

theorem addT_ok {L : List Tt} {t : Tt} (h : PoolOk L) (hk : ∀ u ∈ kidsT t, u ∈ L) : PoolOk (addT L t) ∧ t ∈ addT L t ∧ L <+: addT L t ∧ (addT L t).length ≤ L.length + 1 := by
  unfold addT
  split
  · rename_i hm
    exact ⟨h, hm, List.prefix_refl _, by omega⟩
  · rename_i hm
    refine ⟨⟨?_, ?_⟩, by simp, List.prefix_append _ _, by simp⟩
    · rw [List.nodup_append]
      refine ⟨h.nodup, by simp, fun a ha b hb => ?_⟩
      rw [List.mem_singleton.1 hb]
      rintro rfl; exact hm ha
    · intro u hu x hx
      rcases List.mem_append.1 hu with hu | hu
      · exact List.mem_append_left _ (h.kids u hu x hx)
      · rw [List.mem_singleton.1 hu] at hx
        exact List.mem_append_left _ (hk x hx)
theorem growT_ok : ∀ (t : Tt) {L : List Tt}, PoolOk L → PoolOk (growT t L) ∧ t ∈ growT t L ∧ L <+: growT t L ∧ (growT t L).length ≤ L.length + sizeT t := by
  intro t
  induction t with
  | pair a b iha ihb =>
    intro L h
    obtain ⟨a1, a2, a3, a4⟩ := iha h
    obtain ⟨b1, b2, b3, b4⟩ := ihb a1
    obtain ⟨c1, c2, c3, c4⟩ := addT_ok (t := .pair a b) b1 (fun u hu => by
      simp [kidsT] at hu
      rcases hu with rfl | rfl
      · exact b3.subset a2
      · exact b2)
    exact ⟨c1, c2, a3.trans (b3.trans c3), by simp only [growT, sizeT]; omega⟩
  | hash a iha =>
    intro L h
    obtain ⟨a1, a2, a3, a4⟩ := iha h
    obtain ⟨c1, c2, c3, c4⟩ := addT_ok (t := .hash a) a1 (fun u hu => by simp [kidsT] at hu; rw [hu]; exact a2)
    exact ⟨c1, c2, a3.trans c3, by simp only [growT, sizeT]; omega⟩
  | sign n a iha =>
    intro L h
    obtain ⟨a1, a2, a3, a4⟩ := iha h
    obtain ⟨c1, c2, c3, c4⟩ := addT_ok (t := .sign n a) a1 (fun u hu => by simp [kidsT] at hu; rw [hu]; exact a2)
    exact ⟨c1, c2, a3.trans c3, by simp only [growT, sizeT]; omega⟩
  | prom f t a iha =>
    intro L h
    obtain ⟨a1, a2, a3, a4⟩ := iha h
    obtain ⟨c1, c2, c3, c4⟩ := addT_ok (t := .prom f t a) a1 (fun u hu => by simp [kidsT] at hu; rw [hu]; exact a2)
    exact ⟨c1, c2, a3.trans c3, by simp only [growT, sizeT]; omega⟩
  | fake f t a iha =>
    intro L h
    obtain ⟨a1, a2, a3, a4⟩ := iha h
    obtain ⟨c1, c2, c3, c4⟩ := addT_ok (t := .fake f t a) a1 (fun u hu => by simp [kidsT] at hu; rw [hu]; exact a2)
    exact ⟨c1, c2, a3.trans c3, by simp only [growT, sizeT]; omega⟩
  | name n => intro L h; obtain ⟨c1, c2, c3, c4⟩ := addT_ok (t := .name n) h (fun u hu => by simp [kidsT] at hu); exact ⟨c1, c2, c3, by simp only [growT, sizeT]; omega⟩
  | num n => intro L h; obtain ⟨c1, c2, c3, c4⟩ := addT_ok (t := .num n) h (fun u hu => by simp [kidsT] at hu); exact ⟨c1, c2, c3, by simp only [growT, sizeT]; omega⟩
  | data n => intro L h; obtain ⟨c1, c2, c3, c4⟩ := addT_ok (t := .data n) h (fun u hu => by simp [kidsT] at hu); exact ⟨c1, c2, c3, by simp only [growT, sizeT]; omega⟩
  | key n => intro L h; obtain ⟨c1, c2, c3, c4⟩ := addT_ok (t := .key n) h (fun u hu => by simp [kidsT] at hu); exact ⟨c1, c2, c3, by simp only [growT, sizeT]; omega⟩

/-- What a term shows at once. -/
def downT : Tt → List Tt
  | .pair a b => [a, b]
  | .sign _ a => [a]
  | .prom _ _ a => [a]
  | .fake _ _ a => [a]
  | _ => []
theorem vis_self (t : Tt) : t ∈ visT t := by cases t <;> simp [visT]
theorem vis_down {t u : Tt} : u ∈ visT t ↔ u = t ∨ ∃ d ∈ downT t, u ∈ visT d := by cases t <;> simp [visT, downT]
theorem vis_closed : ∀ {t u : Tt}, u ∈ visT t → ∀ d ∈ downT u, d ∈ visT t := by
  intro t
  induction t with
  | pair a b iha ihb =>
    intro u hu d hd
    simp only [visT, List.mem_cons, List.mem_append] at hu ⊢
    rcases hu with rfl | hu | hu
    · simp [downT] at hd
      rcases hd with rfl | rfl
      · exact .inr (.inl (vis_self _))
      · exact .inr (.inr (vis_self _))
    · exact .inr (.inl (iha hu d hd))
    · exact .inr (.inr (ihb hu d hd))
  | sign n a iha =>
    intro u hu d hd
    simp only [visT, List.mem_cons] at hu ⊢
    rcases hu with rfl | hu
    · simp [downT] at hd; subst hd; exact .inr (vis_self _)
    · exact .inr (iha hu d hd)
  | prom f t a iha =>
    intro u hu d hd
    simp only [visT, List.mem_cons] at hu ⊢
    rcases hu with rfl | hu
    · simp [downT] at hd; subst hd; exact .inr (vis_self _)
    · exact .inr (iha hu d hd)
  | fake f t a iha =>
    intro u hu d hd
    simp only [visT, List.mem_cons] at hu ⊢
    rcases hu with rfl | hu
    · simp [downT] at hd; subst hd; exact .inr (vis_self _)
    · exact .inr (iha hu d hd)
  | _ =>
    intro u hu d hd
    simp [visT] at hu
    subst hu
    simp [downT] at hd
theorem closed_vis {K : List Tt} (hK : ∀ u ∈ K, ∀ d ∈ downT u, d ∈ K) : ∀ {t : Tt}, t ∈ K → ∀ u ∈ visT t, u ∈ K := by
  intro t
  induction t with
  | pair a b iha ihb =>
    intro ht u hu
    simp only [visT, List.mem_cons, List.mem_append] at hu
    rcases hu with rfl | hu | hu
    · exact ht
    · exact iha (hK _ ht a (by simp [downT])) u hu
    · exact ihb (hK _ ht b (by simp [downT])) u hu
  | sign n a iha =>
    intro ht u hu
    simp only [visT, List.mem_cons] at hu
    rcases hu with rfl | hu
    · exact ht
    · exact iha (hK _ ht a (by simp [downT])) u hu
  | prom f t a iha =>
    intro ht u hu
    simp only [visT, List.mem_cons] at hu
    rcases hu with rfl | hu
    · exact ht
    · exact iha (hK _ ht a (by simp [downT])) u hu
  | fake f t a iha =>
    intro ht u hu
    simp only [visT, List.mem_cons] at hu
    rcases hu with rfl | hu
    · exact ht
    · exact iha (hK _ ht a (by simp [downT])) u hu
  | _ =>
    intro ht u hu
    simp [visT] at hu
    subst hu
    exact ht
theorem nodup_len {α : Type} [DecidableEq α] : ∀ {L M : List α}, L.Nodup → (∀ x ∈ L, x ∈ M) → L.length ≤ M.length
  | [], _, _, _ => Nat.zero_le _
  | x :: L, M, hn, hs => by
    obtain ⟨h1, h2⟩ := List.nodup_cons.1 hn
    have hx := hs x (by simp)
    have : L.length ≤ (M.erase x).length := nodup_len h2 fun y hy => by
      have hne : y ≠ x := fun e => h1 (by rw [← e]; exact hy)
      exact (List.mem_erase_of_ne hne).2 (hs y (by simp [hy]))
    rw [List.length_erase_of_mem hx] at this
    have h0 : 0 < M.length := List.length_pos_of_mem hx
    simp only [List.length_cons]
    omega

/-- What was seen, so far: from place n0 on what the new term shows is being gone through; all ahead of place k has been. -/
structure Seeing (K0 : List Tt) (t : Tt) (K : List Tt) (k : Nat) : Prop where
  nodup : K.Nodup
  pre : K0 ++ [t] <+: K
  sub : ∀ u ∈ K, u ∈ K0 ∨ u ∈ visT t
  done : ∀ i u, i < k → K[i]? = some u → ∀ d ∈ downT u, d ∈ K
  le : k ≤ K.length

theorem seeing_start {K0 : List Tt} {t : Tt} (hn : K0.Nodup) (hc : ∀ u ∈ K0, ∀ d ∈ downT u, d ∈ K0) (ht : t ∉ K0) : Seeing K0 t (K0 ++ [t]) K0.length := by
  refine ⟨?_, List.prefix_refl _, ?_, ?_, by simp⟩
  · rw [List.nodup_append]
    exact ⟨hn, by simp, fun a ha b hb => by rw [List.mem_singleton.1 hb]; rintro rfl; exact ht ha⟩
  · intro u hu
    rcases List.mem_append.1 hu with h | h
    · exact .inl h
    · rw [List.mem_singleton.1 h]; exact .inr (vis_self t)
  · intro i u hi hu d hd
    rw [List.getElem?_append_left hi] at hu
    exact List.mem_append_left _ (hc u (List.mem_of_getElem? hu) d hd)

theorem addT_mem {L : List Tt} {t u : Tt} : u ∈ addT L t ↔ u ∈ L ∨ u = t := by
  unfold addT
  split
  · rename_i h
    constructor
    · exact .inl
    · rintro (h1 | rfl)
      · exact h1
      · exact h
  · simp
theorem addT_pre (L : List Tt) (t : Tt) : L <+: addT L t := by
  unfold addT
  split
  · exact List.prefix_refl _
  · exact List.prefix_append _ _
theorem addT_nodup {L : List Tt} (h : L.Nodup) (t : Tt) : (addT L t).Nodup := by
  unfold addT
  split
  · exact h
  · rename_i hm
    rw [List.nodup_append]
    exact ⟨h, by simp, fun a ha b hb => by rw [List.mem_singleton.1 hb]; rintro rfl; exact hm ha⟩
/-- What a term shows is noted. -/
def showT (K : List Tt) (u : Tt) : List Tt := (downT u).foldl addT K
theorem show_foldl : ∀ (D : List Tt) (K : List Tt), K.Nodup → (D.foldl addT K).Nodup ∧ K <+: D.foldl addT K ∧ ∀ x, x ∈ D.foldl addT K ↔ x ∈ K ∨ x ∈ D
  | [], K, h => ⟨h, List.prefix_refl _, fun x => by simp⟩
  | d :: D, K, h => by
    obtain ⟨h1, h2, h3⟩ := show_foldl D (addT K d) (addT_nodup h d)
    refine ⟨h1, (addT_pre K d).trans h2, fun x => ?_⟩
    rw [List.foldl_cons, h3, addT_mem]
    simp [or_assoc]
theorem seeing_step {K0 K : List Tt} {t u : Tt} {k : Nat} (h : Seeing K0 t K k) (hu : K[k]? = some u) (hk : K0.length ≤ k) : Seeing K0 t (showT K u) (k + 1) := by
  obtain ⟨h1, h2, h3⟩ := show_foldl (downT u) K h.nodup
  have hlt := (List.getElem?_eq_some_iff.1 hu).1
  refine ⟨h1, h.pre.trans h2, fun x hx => ?_, fun i y hi hy d hd => ?_, by have := h2.length_le; show k + 1 ≤ (showT K u).length; unfold showT; omega⟩
  · rcases (h3 x).1 hx with hx | hx
    · exact h.sub x hx
    · rcases h.sub u (List.mem_of_getElem? hu) with e | e
      · -- a term of the first ones shows what stands there
        exfalso
        obtain ⟨M, hM⟩ := h.pre
        have hm : u ∈ K0 := e
        obtain ⟨j, hj, hje⟩ := List.getElem_of_mem hm
        have hKj : K[j]? = some u := by
          rw [← hM, List.append_assoc, List.getElem?_append_left hj, List.getElem?_eq_getElem hj, hje]
        obtain ⟨hjl, hj2⟩ := List.getElem?_eq_some_iff.1 hKj
        obtain ⟨_, hk2⟩ := List.getElem?_eq_some_iff.1 hu
        have := (List.getElem_inj h.nodup).1 (hj2.trans hk2.symm)
        omega
      · exact .inr (vis_closed e x hx)
  · have hil : i < K.length := by omega
    have hy' : K[i]? = some y := by
      obtain ⟨M, hM⟩ := h2
      rw [show showT K u = K ++ M from hM.symm, List.getElem?_append_left hil] at hy
      exact hy
    by_cases hik : i < k
    · exact h2.subset (h.done i y hik hy' d hd)
    · have : i = k := by omega
      subst this
      rw [hu] at hy'
      cases hy'
      exact (h3 d).2 (.inr hd)
/-- Behind the last one: all is seen. -/
theorem seeing_end {K0 K : List Tt} {t : Tt} (h : Seeing K0 t K K.length) : K.Nodup ∧ (∀ u ∈ K, ∀ d ∈ downT u, d ∈ K) ∧ ∀ u, u ∈ K ↔ u ∈ K0 ∨ u ∈ visT t := by
  have hc : ∀ u ∈ K, ∀ d ∈ downT u, d ∈ K := fun u hu d hd => by
    obtain ⟨j, hj, hje⟩ := List.getElem_of_mem hu
    exact h.done j u hj (by rw [List.getElem?_eq_getElem hj, hje]) d hd
  refine ⟨h.nodup, hc, fun u => ⟨h.sub u, ?_⟩⟩
  rintro (hu | hu)
  · exact h.pre.subset (List.mem_append_left _ hu)
  · exact closed_vis hc (h.pre.subset (by simp)) u hu
theorem seeing_len {K0 K : List Tt} {t : Tt} {k : Nat} (h : Seeing K0 t K k) : K.length ≤ K0.length + (visT t).length := by
  rw [← List.length_append]
  exact nodup_len h.nodup fun u hu => List.mem_append.2 (h.sub u hu)

theorem okL_of {l : Lt} (h : lchk l = 0) : OkL l := by
  unfold lchk at h
  split at h
  · omega
  split at h
  · omega
  split at h
  · omega
  split at h
  · omega
  split at h
  · omega
  rename_i h1 h2 h3 h4 h5
  refine ⟨by omega, by omega, fun a b c => ?_, fun a b c d => ?_, fun a b => ?_⟩
  · by_cases hf : l.f = 0
    · exact hf
    · exact absurd ⟨by omega, hf⟩ h3
  · by_cases ht : l.t = { data := #[] }
    · exact ht
    · exact absurd ⟨by omega, ht⟩ h4
  · cases hb : l.b with
    | false => rfl
    | true => exact absurd ⟨by omega, hb⟩ h5

/-- WHAT CAN BE SAID IS WHAT IS DERIVED, in the model's words. -/
theorem can_canS {x : Ex} {l : Lt} (hH : ∀ h ∈ x.h, lchk h = 0 ∧ h.c = x.c) (hl : lchk l = 0) (hc : l.c = x.c) : derT (seenG (givenG x.h x.bad)) (treeL l) = canS x l := by
  rw [can_der (bad := x.bad) (fun h hh => ⟨okL_of (hH h hh).1, (hH h hh).2⟩) (okL_of hl) hc]
  have ok := okL_of hl
  obtain ⟨k, f, c, t, b⟩ := l
  have hk := ok.k
  have hf := ok.f
  have ht := (lchk_size hl).1
  simp only at hk hf hc ht
  subst hc
  have hq : ∀ n : Int, n = 0 ∨ n = 1 → (k = 4 ∨ k = 1) → canQ x.h x.bad x.c n b t = canP x ⟨1, n, x.c, t, b⟩ := fun n hn hk4 => by
    have h1 : lchk ⟨1, n, x.c, t, b⟩ = 0 := by
      unfold lchk
      rcases hn with rfl | rfl <;> simp <;> omega
    unfold canQ canP
    rw [if_neg (show ¬ (lchk (⟨1, n, x.c, t, b⟩ : Lt) ≠ 0 ∨ (⟨1, n, x.c, t, b⟩ : Lt).c ≠ x.c) by simp [h1])]
    by_cases hm : (⟨1, n, x.c, t, b⟩ : Lt) ∈ x.h
    · simp [hm]
    · have : x.h.contains (⟨1, n, x.c, t, b⟩ : Lt) = false := by simpa using hm
      rw [this, if_neg hm]
      simp [wishS, Bool.and_assoc]
  unfold canL canS
  rw [if_neg (show ¬ (lchk (⟨k, f, x.c, t, b⟩ : Lt) ≠ 0 ∨ (⟨k, f, x.c, t, b⟩ : Lt).c ≠ x.c) by simp [hl])]
  by_cases hm : (⟨k, f, x.c, t, b⟩ : Lt) ∈ x.h
  · simp [hm]
  · have h0 : x.h.contains (⟨k, f, x.c, t, b⟩ : Lt) = false := by simpa using hm
    rw [h0, if_neg hm]
    rcases kinds7 hk with rfl | rfl | rfl | rfl | rfl | rfl | rfl
    · simp [wishS, Bool.and_assoc]
    · simp
    · simp [Ex.bad]
    · rw [hq 0 (.inl rfl) (.inl rfl), hq 1 (.inr rfl) (.inl rfl)]
      simp
    · simp
    · simp
    · simp
end Go.Proofs.Ytfibbhmmiemcoaa

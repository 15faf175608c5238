/- Quarter turns done four times; the least of the eight images of a position. No program in sight. -/
import Derived.Test.YtbcgokpamhgabaaSymP
set_option linter.unusedVariables false
namespace Go.Proofs.Ytbcgokpamhgabaa

theorem moved_test (g : Nat → Nat) (s n j : Nat) : (moved g s n).testBit j = true ↔ ∃ k, k < n ∧ s.testBit k = true ∧ g k = j := by
  induction n with
  | zero => simp [moved]
  | succ n ih =>
    rcases Bool.eq_false_or_eq_true (s.testBit n) with h | h
    · rw [moved_yes h, Nat.testBit_or, testBit_pow2, Bool.or_eq_true, ih, decide_eq_true_eq]
      constructor
      · rintro (⟨k, h1, h2, h3⟩ | h1)
        · exact ⟨k, by omega, h2, h3⟩
        · exact ⟨n, by omega, h, h1⟩
      · rintro ⟨k, h1, h2, h3⟩
        by_cases e : k = n
        · subst e; exact .inr h3
        · exact .inl ⟨k, by omega, h2, h3⟩
    · rw [moved_no h, ih]
      constructor
      · rintro ⟨k, h1, h2, h3⟩
        exact ⟨k, by omega, h2, h3⟩
      · rintro ⟨k, h1, h2, h3⟩
        by_cases e : k = n
        · subst e; rw [h] at h2; cases h2
        · exact ⟨k, by omega, h2, h3⟩
theorem eq_of_bits {a b : Nat} (h : ∀ j, a.testBit j = true ↔ b.testBit j = true) : a = b := by
  apply Nat.eq_of_testBit_eq
  intro j
  rw [Bool.eq_iff_iff]
  exact h j
theorem moved_comp {g g2 : Nat → Nat} {s n : Nat} (hg : ∀ k, k < n → g k < n) : moved g2 (moved g s n) n = moved (fun k => g2 (g k)) s n := by
  apply eq_of_bits
  intro j
  rw [moved_test, moved_test]
  constructor
  · rintro ⟨k, h1, h2, h3⟩
    obtain ⟨m, m1, m2, m3⟩ := (moved_test _ _ _ _).1 h2
    subst m3
    exact ⟨m, m1, m2, h3⟩
  · rintro ⟨k, h1, h2, h3⟩
    exact ⟨g k, hg k h1, (moved_test _ _ _ _).2 ⟨k, h1, h2, rfl⟩, h3⟩
theorem moved_id {g : Nat → Nat} {s n : Nat} (hs : s < 2 ^ n) (hg : ∀ k, k < n → g k = k) : moved g s n = s := by
  apply eq_of_bits
  intro j
  rw [moved_test]
  constructor
  · rintro ⟨k, h1, h2, h3⟩
    rw [hg k h1] at h3
    subst h3
    exact h2
  · intro h
    have hl := bit_lt hs h
    exact ⟨j, hl, h, hg j hl⟩
theorem moved_lt {g : Nat → Nat} {s n : Nat} (hg : ∀ k, k < n → g k < n) : moved g s n < 2 ^ n := by
  have gen : ∀ m, m ≤ n → moved g s m < 2 ^ n := by
    intro m
    induction m with
    | zero => intro _; exact Nat.two_pow_pos n
    | succ m ih =>
      intro hm
      rcases Bool.eq_false_or_eq_true (s.testBit m) with h | h
      · rw [moved_yes h]
        exact Nat.or_lt_two_pow (ih (by omega)) (Nat.pow_lt_pow_right (by omega) (hg m (by omega)))
      · rw [moved_no h]; exact ih (by omega)
  exact gen n (Nat.le_refl _)

theorem split_mod {f k x y : Nat} (hk : k = y * f + x) (hx : x < f) : k % f = x ∧ k / f = y := by
  subst hk
  rw [Nat.mul_comm]
  exact ⟨by rw [Nat.mul_add_mod]; exact Nat.mod_eq_of_lt hx, by rw [Nat.mul_add_div (by omega), Nat.div_eq_of_lt hx]; rfl⟩
theorem turn_turn {f o k : Nat} (f1 : 1 ≤ f) (o1 : 1 ≤ o) (hk : k < f * o) : turnAt o f (turnAt f o k) = f * o - 1 - k := by
  have q : k / f < o := Nat.div_lt_of_lt_mul hk
  have r : k % f < f := Nat.mod_lt _ f1
  have e : k / f * f + k % f = k := by rw [Nat.mul_comm]; exact Nat.div_add_mod k f
  generalize hx : k % f = x at *
  generalize hy : k / f = y at *
  have h1 : turnAt f o k = x * o + (o - 1 - y) := by unfold turnAt; rw [hx, hy]; omega
  obtain ⟨m1, m2⟩ := split_mod h1 (show o - 1 - y < o by omega)
  unfold turnAt at m1 m2 ⊢
  rw [hx, hy] at m1 m2 ⊢
  rw [m1, m2]
  have h2 : (o - 1 - y) * f + f = (o - y) * f := by
    rw [show o - y = (o - 1 - y) + 1 by omega, Nat.add_mul, Nat.one_mul]
  have h3 : (o - y) * f + y * f = f * o := by
    rw [← Nat.add_mul, Nat.mul_comm f o]; congr 1; omega
  omega
theorem turnAt_lt {f o k : Nat} (f1 : 1 ≤ f) (o1 : 1 ≤ o) (h49 : f * o ≤ 49) (hk : k < f * o) : turnAt f o k < f * o := (moves f1 o1 h49 hk).turnlt
theorem mirAt_lt {f o k : Nat} (f1 : 1 ≤ f) (o1 : 1 ≤ o) (h49 : f * o ≤ 49) (hk : k < f * o) : mirAt f k < f * o := (moves f1 o1 h49 hk).mirlt
theorem turn2 {f o : Nat} (f1 : 1 ≤ f) (o1 : 1 ≤ o) (h49 : f * o ≤ 49) (s : Nat) : moved (turnAt o f) (moved (turnAt f o) s (f * o)) (f * o) = moved (fun k => f * o - 1 - k) s (f * o) := by
  rw [moved_comp (fun k hk => turnAt_lt f1 o1 h49 hk)]
  apply eq_of_bits
  intro j
  rw [moved_test, moved_test]
  constructor
  · rintro ⟨k, h1, h2, h3⟩
    exact ⟨k, h1, h2, by rw [← h3, turn_turn f1 o1 h1]⟩
  · rintro ⟨k, h1, h2, h3⟩
    exact ⟨k, h1, h2, by rw [turn_turn f1 o1 h1]; exact h3⟩
theorem half_half {n s : Nat} (hs : s < 2 ^ n) : moved (fun k => n - 1 - k) (moved (fun k => n - 1 - k) s n) n = s := by
  rw [moved_comp (fun k hk => by omega)]
  exact moved_id hs (fun k hk => by omega)
/-- Four quarter turns. -/
theorem turn4 {f o s : Nat} (f1 : 1 ≤ f) (o1 : 1 ≤ o) (h49 : f * o ≤ 49) (hs : s < 2 ^ (f * o)) :
    moved (turnAt o f) (moved (turnAt f o) (moved (turnAt o f) (moved (turnAt f o) s (f * o)) (f * o)) (f * o)) (f * o) = s := by
  rw [turn2 f1 o1 h49, turn2 f1 o1 h49, half_half hs]

/-- The least of the images, as the program and as the reference reckon it. -/
def itT (t : Nat → Nat) (p : Nat) : Nat → Nat
  | 0 => p
  | i + 1 => t (itT t p i)
def lfI (t m : Nat → Nat) (p : Nat) : Nat → Nat
  | 0 => p
  | i + 1 => min (min (lfI t m p i) (itT t p i)) (m (itT t p i))
def lfS (t m : Nat → Nat) (p : Nat) : Nat → Nat
  | 0 => p
  | i + 1 => min (min (lfS t m p i) (itT t p (i + 1))) (m (itT t p (i + 1)))
theorem lf_same {t m : Nat → Nat} {p : Nat} (h4 : itT t p 4 = p) : lfI t m p 4 = lfS t m p 4 := by
  have e : itT t p (3 + 1) = p := h4
  simp only [lfI, lfS, e]
  rw [show itT t p 0 = p from rfl, show itT t p (0 + 1) = itT t p 1 from rfl, show itT t p (1 + 1) = itT t p 2 from rfl, show itT t p (2 + 1) = itT t p 3 from rfl]
  ac_rfl
def leastF (b : Ln) (p : Int) : Int :=
  if posB b p then (if isTurnB b && isMirB b then (lfI (turnS b) (mirS b) p.toNat 4 : Nat) else p) else -1
theorem isTurn_square {b : Ln} (h : isTurnB b = true) : b.f = b.o := by
  simp only [isTurnB, Bool.and_eq_true] at h
  obtain ⟨h1, h2⟩ := h
  have h2 : turnBoard b = b := by simpa [eqL] using h2
  have := congrArg Ln.f h2
  simp only [turnBoard, h1, if_true] at this
  exact this.symm
theorem turnS_lt {f o t s : Nat} (hb : BdOk f o t) : turnS ⟨f, o, t⟩ s < 2 ^ (f * o) := by
  rw [turnS_nat]
  exact moved_lt fun k hk => turnAt_lt hb.w1 hb.h1 hb.area.2 hk
theorem itT_lt {f o t p : Nat} (hb : BdOk f o t) (hp : p < 2 ^ (f * o)) (i : Nat) : itT (turnS ⟨f, o, t⟩) p i < 2 ^ (f * o) := by
  cases i with
  | zero => exact hp
  | succ i => exact turnS_lt hb
theorem itT_four {f o t p : Nat} (hb : BdOk f o t) (hp : p < 2 ^ (f * o)) (hT : isTurnB ⟨f, o, t⟩ = true) : itT (turnS ⟨f, o, t⟩) p 4 = p := by
  have e : (f : Int) = o := isTurn_square hT
  have e : f = o := by omega
  subst e
  show turnS _ (turnS _ (turnS _ (turnS _ p))) = p
  simp only [turnS_nat]
  exact turn4 hb.w1 hb.h1 hb.area.2 hp
end Go.Proofs.Ytbcgokpamhgabaa

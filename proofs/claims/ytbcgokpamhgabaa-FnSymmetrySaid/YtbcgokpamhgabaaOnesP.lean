/- How many bits are set: the sum that math/bits reckons, at numbers of 16 bits. No program in sight. -/
import Derived.Test.YtbcgokpamhgabaaSymP
set_option linter.unusedVariables false
namespace Go.Proofs.Ytbcgokpamhgabaa

def popc (p : Nat) : Nat := (bitsOf p 49).length
theorem len_succ (p n : Nat) : (bitsOf p (n + 1)).length = (bitsOf p n).length + (p.testBit n).toNat := by
  rcases Bool.eq_false_or_eq_true (p.testBit n) with h | h
  · rw [bits_yes h, h]; simp
  · rw [bits_no h, h]; rfl
theorem len_split (a b k : Nat) (hb : b < 256) : (bitsOf (256 * a + b) (8 + k)).length = (bitsOf b 8).length + (bitsOf a k).length := by
  have ht : ∀ j, (256 * a + b).testBit j = if j < 8 then b.testBit j else a.testBit (j - 8) := fun j => Nat.testBit_two_pow_mul_add a (i := 8) hb j
  have h8 : ∀ m, m ≤ 8 → (bitsOf (256 * a + b) m).length = (bitsOf b m).length := by
    intro m
    induction m with
    | zero => intro _; rfl
    | succ m ih =>
      intro hm
      rw [len_succ, len_succ, ih (by omega), ht, if_pos (by omega)]
  induction k with
  | zero => rw [Nat.add_zero, h8 8 (Nat.le_refl _)]; rfl
  | succ k ih =>
    rw [← Nat.add_assoc, len_succ (256 * a + b), ih, len_succ a k, ht, if_neg (by omega), show 8 + k - 8 = k by omega]
    omega

theorem and_split (u v m n : Nat) (hv : v < 256) (hn : n < 256) : (256 * u + v) &&& (256 * m + n) = 256 * (u &&& m) + (v &&& n) := by
  apply Nat.eq_of_testBit_eq
  intro j
  have hvn : v &&& n < 256 := Nat.lt_of_le_of_lt Nat.and_le_left hv
  rw [Nat.testBit_and, show 256 = 2 ^ 8 from rfl, Nat.testBit_two_pow_mul_add u (i := 8) hv, Nat.testBit_two_pow_mul_add m (i := 8) hn, Nat.testBit_two_pow_mul_add (u &&& m) (i := 8) hvn]
  split <;> rw [Nat.testBit_and]
theorem and_small {x M : Nat} (hx : x < 65536) : x &&& M = x &&& (M % 65536) := by
  have h1 : x &&& M < 65536 := Nat.lt_of_le_of_lt Nat.and_le_left hx
  have h2 := Nat.and_mod_two_pow (a := x) (b := M) (n := 16)
  rw [show 2 ^ 16 = 65536 from rfl, Nat.mod_eq_of_lt h1, Nat.mod_eq_of_lt hx] at h2
  exact h2

def F8 (x : Nat) : Nat := ((x / 2) &&& 85) + (x &&& 85)
def G8 (x : Nat) : Nat := ((x / 4) &&& 51) + (x &&& 51)
theorem f8_lt : ∀ x, x < 256 → F8 x < 256 := by decide +kernel
theorem g8_form : ∀ b, b < 256 → (G8 (F8 b) % 16 < 5 ∧ G8 (F8 b) / 16 < 5 ∧ G8 (F8 b) % 16 + G8 (F8 b) / 16 = (bitsOf b 8).length) := by decide +kernel
theorem cross2 : ∀ e, e < 2 → ∀ c, c < 128 → (128 * e + c) &&& 85 = c &&& 85 := by decide +kernel
theorem cross4 : ∀ e, e < 4 → ∀ c, c < 64 → (64 * e + c) &&& 51 = c &&& 51 := by decide +kernel
theorem stepF (a b : Nat) (hb : b < 256) : (((256 * a + b) / 2) &&& 21845) + ((256 * a + b) &&& 21845) = 256 * F8 a + F8 b := by
  rw [show (256 * a + b) / 2 = 256 * (a / 2) + (128 * (a % 2) + b / 2) by omega, show 21845 = 256 * 85 + 85 from rfl, and_split _ _ _ _ (by omega) (by omega), and_split _ _ _ _ hb (by omega), cross2 _ (by omega) _ (by omega)]
  unfold F8
  omega
theorem stepG (a b : Nat) (hb : b < 256) : (((256 * a + b) / 4) &&& 13107) + ((256 * a + b) &&& 13107) = 256 * G8 a + G8 b := by
  rw [show (256 * a + b) / 4 = 256 * (a / 4) + (64 * (a % 4) + b / 4) by omega, show 13107 = 256 * 51 + 51 from rfl, and_split _ _ _ _ (by omega) (by omega), and_split _ _ _ _ hb (by omega), cross4 _ (by omega) _ (by omega)]
  unfold G8
  omega
def lastStep (x : Nat) : Nat :=
  let y := (x / 16 + x) &&& 3855
  let z := y + y / 256
  z % 128
theorem last_sum : ∀ d0, d0 < 5 → ∀ d1, d1 < 5 → ∀ d2, d2 < 5 → ∀ d3, d3 < 5 → lastStep (256 * (d2 + 16 * d3) + (d0 + 16 * d1)) = d0 + d1 + d2 + d3 := by decide +kernel
def x1Of (p : Nat) : Nat := ((p / 2) &&& 21845) + (p &&& 21845)
def x2Of (p : Nat) : Nat := ((x1Of p / 4) &&& 13107) + (x1Of p &&& 13107)
theorem g8_lt {b : Nat} (hb : b < 256) : G8 (F8 b) < 80 := by
  have := g8_form b hb
  omega
theorem x1_lt {p : Nat} (hp : p < 65536) : x1Of p < 65536 := by
  obtain ⟨a, b, rfl, ha, hb⟩ : ∃ a b, p = 256 * a + b ∧ a < 256 ∧ b < 256 := ⟨p / 256, p % 256, by omega, by omega, by omega⟩
  have h1 := f8_lt a ha
  have h2 := f8_lt b hb
  rw [x1Of, stepF a b hb]; omega
theorem x2_bytes {a b : Nat} (ha : a < 256) (hb : b < 256) : x2Of (256 * a + b) = 256 * G8 (F8 a) + G8 (F8 b) := by
  have h2 := f8_lt b hb
  rw [x2Of, x1Of, stepF a b hb, stepG _ _ h2]
theorem x2_lt {p : Nat} (hp : p < 65536) : x2Of p < 20560 := by
  obtain ⟨a, b, rfl, ha, hb⟩ : ∃ a b, p = 256 * a + b ∧ a < 256 ∧ b < 256 := ⟨p / 256, p % 256, by omega, by omega, by omega⟩
  rw [x2_bytes ha hb]
  have := g8_lt ha
  have := g8_lt hb
  omega
theorem pop_last {p : Nat} (hp : p < 65536) : lastStep (x2Of p) = popc p := by
  obtain ⟨a, b, rfl, ha, hb⟩ : ∃ a b, p = 256 * a + b ∧ a < 256 ∧ b < 256 := ⟨p / 256, p % 256, by omega, by omega, by omega⟩
  rw [x2_bytes ha hb]
  obtain ⟨a0, a1, a2⟩ := g8_form a ha
  obtain ⟨b0, b1, b2⟩ := g8_form b hb
  have h := last_sum _ b0 _ b1 _ a0 _ a1
  rw [show G8 (F8 a) % 16 + 16 * (G8 (F8 a) / 16) = G8 (F8 a) by omega, show G8 (F8 b) % 16 + 16 * (G8 (F8 b) / 16) = G8 (F8 b) by omega] at h
  rw [h]
  have hs := len_split a b 41 hb
  have h8 : (bitsOf a 41).length = (bitsOf a 8).length := by
    have : ∀ d, (bitsOf a (8 + d)).length = (bitsOf a 8).length := by
      intro d
      induction d with
      | zero => rfl
      | succ d ih => rw [← Nat.add_assoc, len_succ, ih, Nat.testBit_lt_two_pow (Nat.lt_of_lt_of_le (show a < 2 ^ 8 from ha) (Nat.pow_le_pow_right (by omega) (by omega)))]; rfl
    exact this 33
  unfold popc
  rw [show 49 = 8 + 41 from rfl, hs, h8]
  omega
end Go.Proofs.Ytbcgokpamhgabaa

/- How many bits are set: the sum that math/bits reckons, at numbers of 16 bits. No program in sight. The contract of math/bits.OnesCount at numbers of 16 bits. -/
import Derived.Test.YtbcgokpamhgabaaKb08
import Derived.Test.YtbcgokpamhgabaaChecked
import Derived.Test.YtbcgokpamhgabaaKb01
import Derived.Tactics
import Derived.Tactics2
import Derived.WalkKit
import Derived.WalkSpells
import Derived.WalkLawsBesides
import Derived.Deep.QuietTactic
import Derived.BigQuiet
import Derived.BigGuardPart
import Derived.Lib.QuietBelow
import Derived.OwnWalk
import Derived.KernelRfl
namespace Go.Proofs.Ytbcgokpamhgabaa
set_option linter.unusedVariables false

def popc (p : Nat) : Nat := (bitsOf p 49).length
theorem len_succ (p n : Nat) : (bitsOf p (n + 1)).length = (bitsOf p n).length + (p.testBit n).toNat := by
  rcases Bool.eq_false_or_eq_true (p.testBit n) with h | h
  · rw [bits_yes h, h]; simp
  · rw [bits_no h, h]; rfl
theorem len_split (a b k : Nat) (hb : b < 256) : (bitsOf (256 * a + b) (8 + k)).length = (bitsOf b 8).length + (bitsOf a k).length := by
  have ht : ∀ j, (256 * a + b).testBit j = if j < 8 then b.testBit j else a.testBit (j - 8) := fun j => Nat.testBit_two_pow_mul_add a (i := 8) hb j
  have h8 : ∀ m, m ≤ 8 → (bitsOf (256 * a + b) m).length = (bitsOf b m).length := by
    intro m
    induction m with
    | zero => intro _; rfl
    | succ m ih =>
      intro hm
      rw [len_succ, len_succ, ih (by omega), ht, if_pos (by omega)]
  induction k with
  | zero => rw [Nat.add_zero, h8 8 (Nat.le_refl _)]; rfl
  | succ k ih =>
    rw [← Nat.add_assoc, len_succ (256 * a + b), ih, len_succ a k, ht, if_neg (by omega), show 8 + k - 8 = k by omega]
    omega

theorem and_split (u v m n : Nat) (hv : v < 256) (hn : n < 256) : (256 * u + v) &&& (256 * m + n) = 256 * (u &&& m) + (v &&& n) := by
  apply Nat.eq_of_testBit_eq
  intro j
  have hvn : v &&& n < 256 := Nat.lt_of_le_of_lt Nat.and_le_left hv
  rw [Nat.testBit_and, show 256 = 2 ^ 8 from rfl, Nat.testBit_two_pow_mul_add u (i := 8) hv, Nat.testBit_two_pow_mul_add m (i := 8) hn, Nat.testBit_two_pow_mul_add (u &&& m) (i := 8) hvn]
  split <;> rw [Nat.testBit_and]
theorem and_small {x M : Nat} (hx : x < 65536) : x &&& M = x &&& (M % 65536) := by
  have h1 : x &&& M < 65536 := Nat.lt_of_le_of_lt Nat.and_le_left hx
  have h2 := Nat.and_mod_two_pow (a := x) (b := M) (n := 16)
  rw [show 2 ^ 16 = 65536 from rfl, Nat.mod_eq_of_lt h1, Nat.mod_eq_of_lt hx] at h2
  exact h2

def F8 (x : Nat) : Nat := ((x / 2) &&& 85) + (x &&& 85)
def G8 (x : Nat) : Nat := ((x / 4) &&& 51) + (x &&& 51)
theorem f8_lt : ∀ x, x < 256 → F8 x < 256 := by decide +kernel
theorem g8_form : ∀ b, b < 256 → (G8 (F8 b) % 16 < 5 ∧ G8 (F8 b) / 16 < 5 ∧ G8 (F8 b) % 16 + G8 (F8 b) / 16 = (bitsOf b 8).length) := by decide +kernel
theorem cross2 : ∀ e, e < 2 → ∀ c, c < 128 → (128 * e + c) &&& 85 = c &&& 85 := by decide +kernel
theorem cross4 : ∀ e, e < 4 → ∀ c, c < 64 → (64 * e + c) &&& 51 = c &&& 51 := by decide +kernel
theorem stepF (a b : Nat) (hb : b < 256) : (((256 * a + b) / 2) &&& 21845) + ((256 * a + b) &&& 21845) = 256 * F8 a + F8 b := by
  rw [show (256 * a + b) / 2 = 256 * (a / 2) + (128 * (a % 2) + b / 2) by omega, show 21845 = 256 * 85 + 85 from rfl, and_split _ _ _ _ (by omega) (by omega), and_split _ _ _ _ hb (by omega), cross2 _ (by omega) _ (by omega)]
  unfold F8
  omega
theorem stepG (a b : Nat) (hb : b < 256) : (((256 * a + b) / 4) &&& 13107) + ((256 * a + b) &&& 13107) = 256 * G8 a + G8 b := by
  rw [show (256 * a + b) / 4 = 256 * (a / 4) + (64 * (a % 4) + b / 4) by omega, show 13107 = 256 * 51 + 51 from rfl, and_split _ _ _ _ (by omega) (by omega), and_split _ _ _ _ hb (by omega), cross4 _ (by omega) _ (by omega)]
  unfold G8
  omega
def lastStep (x : Nat) : Nat :=
  let y := (x / 16 + x) &&& 3855
  let z := y + y / 256
  z % 128
theorem last_sum : ∀ d0, d0 < 5 → ∀ d1, d1 < 5 → ∀ d2, d2 < 5 → ∀ d3, d3 < 5 → lastStep (256 * (d2 + 16 * d3) + (d0 + 16 * d1)) = d0 + d1 + d2 + d3 := by decide +kernel
def x1Of (p : Nat) : Nat := ((p / 2) &&& 21845) + (p &&& 21845)
def x2Of (p : Nat) : Nat := ((x1Of p / 4) &&& 13107) + (x1Of p &&& 13107)
theorem g8_lt {b : Nat} (hb : b < 256) : G8 (F8 b) < 80 := by
  have := g8_form b hb
  omega
theorem x1_lt {p : Nat} (hp : p < 65536) : x1Of p < 65536 := by
  obtain ⟨a, b, rfl, ha, hb⟩ : ∃ a b, p = 256 * a + b ∧ a < 256 ∧ b < 256 := ⟨p / 256, p % 256, by omega, by omega, by omega⟩
  have h1 := f8_lt a ha
  have h2 := f8_lt b hb
  rw [x1Of, stepF a b hb]; omega
theorem x2_bytes {a b : Nat} (ha : a < 256) (hb : b < 256) : x2Of (256 * a + b) = 256 * G8 (F8 a) + G8 (F8 b) := by
  have h2 := f8_lt b hb
  rw [x2Of, x1Of, stepF a b hb, stepG _ _ h2]
theorem x2_lt {p : Nat} (hp : p < 65536) : x2Of p < 20560 := by
  obtain ⟨a, b, rfl, ha, hb⟩ : ∃ a b, p = 256 * a + b ∧ a < 256 ∧ b < 256 := ⟨p / 256, p % 256, by omega, by omega, by omega⟩
  rw [x2_bytes ha hb]
  have := g8_lt ha
  have := g8_lt hb
  omega
theorem pop_last {p : Nat} (hp : p < 65536) : lastStep (x2Of p) = popc p := by
  obtain ⟨a, b, rfl, ha, hb⟩ : ∃ a b, p = 256 * a + b ∧ a < 256 ∧ b < 256 := ⟨p / 256, p % 256, by omega, by omega, by omega⟩
  rw [x2_bytes ha hb]
  obtain ⟨a0, a1, a2⟩ := g8_form a ha
  obtain ⟨b0, b1, b2⟩ := g8_form b hb
  have h := last_sum _ b0 _ b1 _ a0 _ a1
  rw [show G8 (F8 a) % 16 + 16 * (G8 (F8 a) / 16) = G8 (F8 a) by omega, show G8 (F8 b) % 16 + 16 * (G8 (F8 b) / 16) = G8 (F8 b) by omega] at h
  rw [h]
  have hs := len_split a b 41 hb
  have h8 : (bitsOf a 41).length = (bitsOf a 8).length := by
    have : ∀ d, (bitsOf a (8 + d)).length = (bitsOf a 8).length := by
      intro d
      induction d with
      | zero => rfl
      | succ d ih => rw [← Nat.add_assoc, len_succ, ih, Nat.testBit_lt_two_pow (Nat.lt_of_lt_of_le (show a < 2 ^ 8 from ha) (Nat.pow_le_pow_right (by omega) (by omega)))]; rfl
    exact this 33
  unfold popc
  rw [show 49 = 8 + 41 from rfl, hs, h8]
  omega
end Go.Proofs.Ytbcgokpamhgabaa
namespace Go.Proofs.Ytbcgokpamhgabaa
set_option linter.unusedVariables false
set_option maxRecDepth 20000
open Go.RowKit Go.Sort

theorem ofInt_u64 (a : Nat) (ha : B63 a) : (BitVec.ofInt 64 (a : Int)).toNat = a := ofInt_i64 a ha
theorem u64_and (a b : Nat) (ha : B63 a) (hb : B63 b) : bits .and .u64 (a : Int) (b : Int) = ((a &&& b : Nat) : Int) := by
  have hx := b63_and (b := b) ha
  unfold B63 at hx
  show IntKind.u64.wrap ((BitVec.ofInt 64 (a : Int) &&& BitVec.ofInt 64 (b : Int)).toNat : Int) = _
  rw [BitVec.toNat_and, ofInt_i64 a ha, ofInt_i64 b hb]
  unfold IntKind.wrap IntKind.signed IntKind.bits
  simp only [Bool.false_and, Bool.false_eq_true, if_false]
  omega
theorem u64_mask1 (x : Nat) (hx : x < 65536) : bits .and .u64 (x : Int) 6148914691236517205 = ((x &&& 21845 : Nat) : Int) := by
  rw [show (6148914691236517205 : Int) = ((6148914691236517205 : Nat) : Int) from rfl, u64_and _ _ (b63_le (Nat.le_of_lt hx) (by unfold B63; omega)) (by unfold B63; omega), and_small hx]
theorem u64_mask2 (x : Nat) (hx : x < 65536) : bits .and .u64 (x : Int) 3689348814741910323 = ((x &&& 13107 : Nat) : Int) := by
  rw [show (3689348814741910323 : Int) = ((3689348814741910323 : Nat) : Int) from rfl, u64_and _ _ (b63_le (Nat.le_of_lt hx) (by unfold B63; omega)) (by unfold B63; omega), and_small hx]
theorem u64_mask4 (x : Nat) (hx : x < 65536) : bits .and .u64 (x : Int) 1085102592571150095 = ((x &&& 3855 : Nat) : Int) := by
  rw [show (1085102592571150095 : Int) = ((1085102592571150095 : Nat) : Int) from rfl, u64_and _ _ (b63_le (Nat.le_of_lt hx) (by unfold B63; omega)) (by unfold B63; omega), and_small hx]
theorem u64_in (x : Nat) (hx : x < 1000000) : IntKind.u64.wrap (x : Int) = (x : Int) := by
  unfold IntKind.wrap IntKind.signed IntKind.bits
  simp only [Bool.false_and, Bool.false_eq_true, if_false]
  omega
theorem onesCount64_ (p : Nat) (hp : p < 65536) (w : World) :
    Calls Try.prog 167 #[.int .u64 p] w fun e w' => e = .returned (.int .i64 (popc p : Nat)) ∧ w = w' := by
  have l1 := x1_lt hp
  have l2 := x2_lt hp
  have HR := Lib.hid (pop_last hp)
  obtain ⟨h, hh⟩ : ∃ h : Nat, h = p / 2 := ⟨_, rfl⟩
  obtain ⟨n1, hn1⟩ : ∃ n : Nat, n = h &&& 21845 := ⟨_, rfl⟩
  obtain ⟨n2, hn2⟩ : ∃ n : Nat, n = p &&& 21845 := ⟨_, rfl⟩
  obtain ⟨x1, hx1⟩ : ∃ n : Nat, n = x1Of p := ⟨_, rfl⟩
  obtain ⟨x2, hx2⟩ : ∃ n : Nat, n = x2Of p := ⟨_, rfl⟩
  obtain ⟨n3, hn3⟩ : ∃ n : Nat, n = x1 / 4 &&& 13107 := ⟨_, rfl⟩
  obtain ⟨n4, hn4⟩ : ∃ n : Nat, n = x1 &&& 13107 := ⟨_, rfl⟩
  obtain ⟨y, hy⟩ : ∃ n : Nat, n = x2 / 16 + x2 := ⟨_, rfl⟩
  obtain ⟨x3, hx3⟩ : ∃ n : Nat, n = y &&& 3855 := ⟨_, rfl⟩
  obtain ⟨x4, hx4⟩ : ∃ n : Nat, n = x3 + x3 / 256 := ⟨_, rfl⟩
  have l3 : x3 ≤ 3855 := by rw [hx3]; exact Nat.and_le_right
  have e1 : n1 + n2 = x1 := by rw [hn1, hn2, hx1, x1Of, hh]
  have e2 : n3 + n4 = x2 := by rw [hn3, hn4, hx2, x2Of, hx1]
  have A0 : (p : Int) / 2 = (h : Int) := by omega
  have A1 : bits .and .u64 (h : Int) 6148914691236517205 = (n1 : Int) := by rw [u64_mask1 h (by omega), hn1]
  have A2 : bits .and .u64 (p : Int) 6148914691236517205 = (n2 : Int) := by rw [u64_mask1 p hp, hn2]
  have A3 : IntKind.u64.wrap ((n1 : Int) + (n2 : Int)) = (x1 : Int) := by rw [← Int.natCast_add, e1]; exact u64_in _ (by omega)
  obtain ⟨q, hq⟩ : ∃ q : Nat, q = x1 / 4 := ⟨_, rfl⟩
  have B0 : (x1 : Int) / 4 = (q : Int) := by omega
  have B1 : bits .and .u64 (q : Int) 3689348814741910323 = (n3 : Int) := by rw [u64_mask2 q (by omega), hn3, hq]
  have B2 : bits .and .u64 (x1 : Int) 3689348814741910323 = (n4 : Int) := by rw [u64_mask2 x1 (by omega), hn4]
  have B3 : IntKind.u64.wrap ((n3 : Int) + (n4 : Int)) = (x2 : Int) := by rw [← Int.natCast_add, e2]; exact u64_in _ (by omega)
  have C1 : IntKind.u64.wrap ((x2 : Int) / 16 + (x2 : Int)) = (y : Int) := by rw [show (x2 : Int) / 16 + (x2 : Int) = (y : Int) by omega]; exact u64_in _ (by omega)
  have C2 : bits .and .u64 (y : Int) 1085102592571150095 = (x3 : Int) := by rw [u64_mask4 y (by omega), hx3]
  have D1 : IntKind.u64.wrap ((x3 : Int) + (x3 : Int) / 256) = (x4 : Int) := by rw [show (x3 : Int) + (x3 : Int) / 256 = (x4 : Int) by omega]; exact u64_in _ (by omega)
  have D2 : IntKind.u64.wrap ((x4 : Int) + (x4 : Int) / 65536) = (x4 : Int) := by rw [show (x4 : Int) + (x4 : Int) / 65536 = (x4 : Int) by omega]; exact u64_in _ (by omega)
  have D3 : IntKind.u64.wrap ((x4 : Int) + (x4 : Int) / 4294967296) = (x4 : Int) := by rw [show (x4 : Int) + (x4 : Int) / 4294967296 = (x4 : Int) by omega]; exact u64_in _ (by omega)
  have D4 : IntKind.i64.wrap (x4 : Int) = (x4 : Int) := IntWalk.i64_in _ (by omega)
  have hm : x4 &&& 127 = x4 % 128 := Nat.and_two_pow_sub_one_eq_mod x4 7
  have E1 : bits .and .i64 (x4 : Int) 127 = ((popc p : Nat) : Int) := by
    rw [show (127 : Int) = ((127 : Nat) : Int) from rfl, i64_and _ _ (by unfold B63; omega) (by unfold B63; omega), hm, ← HR.out, lastStep, ← hx2]
    rw [← hy, ← hx3, ← hx4]
  clear hh hn1 hn2 hx1 hx2 hn3 hn4 hy hx3 hx4 e1 e2 hq hm
  go_enter Try.func167, Try.ntmps167
  go_wp2
  go_ret
  exact ⟨rfl, rfl⟩
theorem onesCount_ (p : Nat) (hp : p < 65536) (w : World) :
    Calls Try.prog 157 #[.int .u64 p] w fun e w' => e = .returned (.int .i64 (popc p : Nat)) ∧ w = w' := by
  go_enter Try.func157, Try.ntmps157
  go_wp2_with (go_at_call 167; refine (onesCount64_ p hp _).mono ?_; rintro e w' ⟨rfl, rfl⟩)
  go_ret
  exact ⟨rfl, rfl⟩
end Go.Proofs.Ytbcgokpamhgabaa

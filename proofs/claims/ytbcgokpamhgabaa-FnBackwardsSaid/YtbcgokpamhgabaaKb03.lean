/- Sets of bits as natural numbers: what &, |, ^, &^, << and >> on numbers of 64 bits do to them. No program in sight. -/
import Derived.WalkKit
import Derived.Laws.BitsAllLaws
import Derived.Laws.BitsLemmas
namespace Go.Proofs.Ytbcgokpamhgabaa
set_option linter.unusedVariables false
open Go.RowKit

/-- A number that fits 63 bits. -/
def B63 (n : Nat) : Prop := n < 9223372036854775808
def pow2 (k : Nat) : Nat := 2 ^ k
/-- a without the bits of b. -/
def adiff (a b : Nat) : Nat := a ^^^ (a &&& b)

theorem b63_of {n : Nat} (h : n < 9223372036854775808) : B63 n := h
theorem b63_le {a b : Nat} (h : a ≤ b) (hb : B63 b) : B63 a := Nat.lt_of_le_of_lt h hb
theorem b63_and {a b : Nat} (ha : B63 a) : B63 (a &&& b) := Nat.lt_of_le_of_lt Nat.and_le_left ha
theorem b63_or {a b : Nat} (ha : B63 a) (hb : B63 b) : B63 (a ||| b) := by
  unfold B63 at *
  exact Nat.or_lt_two_pow (n := 63) ha hb
theorem b63_xor {a b : Nat} (ha : B63 a) (hb : B63 b) : B63 (a ^^^ b) := by
  unfold B63 at *
  exact Nat.xor_lt_two_pow (n := 63) ha hb
theorem b63_adiff {a b : Nat} (ha : B63 a) : B63 (adiff a b) := b63_xor ha (b63_and ha)
theorem b63_pow2 {k : Nat} (h : k < 63) : B63 (pow2 k) := by
  unfold B63 pow2
  exact Nat.pow_lt_pow_of_lt (a := 2) (m := 63) (by omega) h

theorem ofInt_i64 (a : Nat) (ha : B63 a) : (BitVec.ofInt 64 (a : Int)).toNat = a := by
  unfold B63 at ha
  rw [BitVec.ofInt_natCast, BitVec.toNat_ofNat]; exact Nat.mod_eq_of_lt (by omega)
theorem i64_and (a b : Nat) (ha : B63 a) (hb : B63 b) : bits .and .i64 (a : Int) (b : Int) = ((a &&& b : Nat) : Int) := by
  have hx := b63_and (b := b) ha
  unfold B63 at hx
  show IntKind.i64.wrap ((BitVec.ofInt 64 (a : Int) &&& BitVec.ofInt 64 (b : Int)).toNat : Int) = _
  rw [BitVec.toNat_and, ofInt_i64 a ha, ofInt_i64 b hb, IntKind.wrap_i64]
  omega
theorem i64_or (a b : Nat) (ha : B63 a) (hb : B63 b) : bits .or .i64 (a : Int) (b : Int) = ((a ||| b : Nat) : Int) := by
  have hx := b63_or ha hb
  unfold B63 at hx
  show IntKind.i64.wrap ((BitVec.ofInt 64 (a : Int) ||| BitVec.ofInt 64 (b : Int)).toNat : Int) = _
  rw [BitVec.toNat_or, ofInt_i64 a ha, ofInt_i64 b hb, IntKind.wrap_i64]
  omega
theorem i64_xor (a b : Nat) (ha : B63 a) (hb : B63 b) : bits .xor .i64 (a : Int) (b : Int) = ((a ^^^ b : Nat) : Int) := by
  have hx := b63_xor ha hb
  unfold B63 at hx
  show IntKind.i64.wrap ((BitVec.ofInt 64 (a : Int) ^^^ BitVec.ofInt 64 (b : Int)).toNat : Int) = _
  rw [BitVec.toNat_xor, ofInt_i64 a ha, ofInt_i64 b hb, IntKind.wrap_i64]
  omega
theorem testBit_adiff (a b i : Nat) : (adiff a b).testBit i = (a.testBit i && !b.testBit i) := by
  unfold adiff
  rw [Nat.testBit_xor, Nat.testBit_and]
  cases a.testBit i <;> cases b.testBit i <;> rfl
theorem i64_andNot (a b : Nat) (ha : B63 a) (hb : B63 b) : bits .andNot .i64 (a : Int) (b : Int) = ((adiff a b : Nat) : Int) := by
  have hx := b63_adiff (b := b) ha
  have e : (BitVec.ofInt 64 (a : Int) &&& ~~~ (BitVec.ofInt 64 (b : Int))).toNat = adiff a b := by
    apply Nat.eq_of_testBit_eq
    intro i
    rw [testBit_adiff, BitVec.toNat_and, Nat.testBit_and, ofInt_i64 a ha]
    rcases Nat.lt_or_ge i 64 with h | h
    · have : (~~~ (BitVec.ofInt 64 (b : Int))).toNat.testBit i = !b.testBit i := by
        rw [BitVec.testBit_toNat, BitVec.getLsbD_not]
        simp only [h, decide_true, Bool.true_and]
        rw [← BitVec.testBit_toNat, ofInt_i64 b hb]
      rw [this]
    · have : a.testBit i = false := Nat.testBit_lt_two_pow (Nat.lt_of_lt_of_le ha (Nat.pow_le_pow_right (n := 2) (i := 63) (j := i) (by omega) (show 63 ≤ i by omega)))
      rw [this]; simp
  unfold B63 at hx
  show IntKind.i64.wrap ((BitVec.ofInt 64 (a : Int) &&& ~~~ (BitVec.ofInt 64 (b : Int))).toNat : Int) = _
  rw [e, IntKind.wrap_i64]
  omega
theorem i64_pow (k : Nat) (h : k < 63) : wrap64 ((2 : Int) ^ k) = ((pow2 k : Nat) : Int) := by
  have hb := b63_pow2 h
  unfold B63 at hb
  have e : ((2 : Int) ^ k) = ((pow2 k : Nat) : Int) := by simp [pow2]
  rw [e]
  unfold wrap64
  omega
theorem bit_of (s k : Nat) (hs : B63 s) : (bits .and .i64 ((s : Int) / 2 ^ k) 1 == 1) = s.testBit k := by
  have e : ((s : Int) / 2 ^ k) = ((s / 2 ^ k : Nat) : Int) := by simp
  have hb : B63 (s / 2 ^ k) := b63_le (Nat.div_le_self _ _) hs
  rw [e, show (1 : Int) = ((1 : Nat) : Int) from rfl, i64_and _ _ hb (by unfold B63; omega)]
  rw [Nat.and_one_is_mod, Nat.testBit_eq_decide_div_mod_eq, Bool.eq_iff_iff]
  simp only [beq_iff_eq, decide_eq_true_eq]
  omega
theorem and_eq_iff {p s : Nat} : p &&& s = p ↔ adiff p s = 0 := by
  constructor
  · intro h
    unfold adiff
    rw [h, Nat.xor_self]
  · intro h
    apply Nat.eq_of_testBit_eq
    intro i
    have := congrArg (fun x => x.testBit i) h
    simp only [testBit_adiff, Nat.zero_testBit] at this
    rw [Nat.testBit_and]
    revert this
    cases p.testBit i <;> cases s.testBit i <;> simp
theorem testBit_pow2 (k i : Nat) : (pow2 k).testBit i = decide (k = i) := by
  unfold pow2
  rw [Nat.testBit_two_pow]
theorem sub_test {p s i : Nat} (h : p &&& s = p) (hi : p.testBit i = true) : s.testBit i = true := by
  have := congrArg (fun x => x.testBit i) h
  simp only [Nat.testBit_and, hi, Bool.true_and] at this
  exact this
theorem sub_le {p s : Nat} (h : p &&& s = p) : p ≤ s := by
  rw [← h]
  exact Nat.and_le_right
theorem bit_lt {s n i : Nat} (h : s < 2 ^ n) (hi : s.testBit i = true) : i < n := by
  rcases Nat.lt_or_ge i n with h' | h'
  · exact h'
  · have := Nat.testBit_lt_two_pow (Nat.lt_of_lt_of_le h (Nat.pow_le_pow_right (n := 2) (by omega) h'))
    rw [this] at hi
    cases hi
end Go.Proofs.Ytbcgokpamhgabaa

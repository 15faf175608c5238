/- Quarter turns and mirrors of sets of bits as plain functions. No program in sight. -/
import Derived.Test.YtbcgokpamhgabaaKb07
namespace Go.Proofs.Ytbcgokpamhgabaa
set_option linter.unusedVariables false

def mirAt (f k : Nat) : Nat := k / f * f + f - 1 - k % f
def turnAt (f o k : Nat) : Nat := k % f * o + o - 1 - k / f
/-- The bits below n of s, each moved by g. -/
def moved (g : Nat → Nat) (s : Nat) : Nat → Nat
  | 0 => 0
  | n + 1 => if s.testBit n then moved g s n ||| pow2 (g n) else moved g s n
/-- The bits below n of s, in ascending order. -/
def bitsOf (s n : Nat) : List Nat := (List.range n).filter s.testBit
def joined (g : Nat → Nat) (l : List Nat) : Nat := l.foldl (fun a k => a ||| pow2 (g k)) 0
def natL (l : List Nat) : List Int := l.map Int.ofNat

theorem moved_yes {g : Nat → Nat} {s n : Nat} (h : s.testBit n = true) : moved g s (n + 1) = moved g s n ||| pow2 (g n) := by simp [moved, h]
theorem moved_no {g : Nat → Nat} {s n : Nat} (h : s.testBit n = false) : moved g s (n + 1) = moved g s n := by simp [moved, h]
theorem moved_stop {g : Nat → Nat} {s n : Nat} (h : s < 2 ^ n) (d : Nat) : moved g s (n + d) = moved g s n := by
  induction d with
  | zero => rfl
  | succ d ih =>
    have ht : s.testBit (n + d) = false := by
      rw [Bool.eq_false_iff]
      intro hb
      have := bit_lt h hb
      omega
    rw [show n + (d + 1) = (n + d) + 1 from rfl, moved_no ht, ih]
theorem bits_yes {s n : Nat} (h : s.testBit n = true) : bitsOf s (n + 1) = bitsOf s n ++ [n] := by simp [bitsOf, List.range_succ, h]
theorem bits_no {s n : Nat} (h : s.testBit n = false) : bitsOf s (n + 1) = bitsOf s n := by simp [bitsOf, List.range_succ, h]
theorem bits_le (s n : Nat) : (bitsOf s n).length ≤ n := by
  have := List.length_filter_le s.testBit (List.range n)
  simpa [bitsOf] using this
theorem bits_mem {s n k : Nat} : k ∈ bitsOf s n ↔ k < n ∧ s.testBit k = true := by simp [bitsOf]
theorem bits_get {s n i k : Nat} (h : (bitsOf s n)[i]? = some k) : k < n ∧ s.testBit k = true := bits_mem.1 (List.mem_of_getElem? h)
theorem joined_bits (g : Nat → Nat) (s n : Nat) : joined g (bitsOf s n) = moved g s n := by
  induction n with
  | zero => rfl
  | succ n ih =>
    rcases Bool.eq_false_or_eq_true (s.testBit n) with h | h
    · rw [bits_yes h, moved_yes h, ← ih]
      simp [joined]
    · rw [bits_no h, moved_no h, ih]
theorem joined_take {g : Nat → Nat} {l : List Nat} {i k : Nat} (h : l[i]? = some k) : joined g (l.take (i + 1)) = joined g (l.take i) ||| pow2 (g k) := by
  rw [List.take_add_one, h]
  simp [joined]
theorem b63_moved {g : Nat → Nat} {s n : Nat} (h : ∀ k, k < n → s.testBit k = true → g k < 63) : B63 (moved g s n) := by
  induction n with
  | zero => exact (by unfold B63; simp [moved])
  | succ n ih =>
    have i := ih fun k hk => h k (by omega)
    rcases Bool.eq_false_or_eq_true (s.testBit n) with ht | ht
    · rw [moved_yes ht]; exact b63_or i (b63_pow2 (h n (by omega) ht))
    · rw [moved_no ht]; exact i
theorem b63_joined {g : Nat → Nat} {l : List Nat} (h : ∀ k ∈ l, g k < 63) : B63 (joined g l) := by
  have gen : ∀ (l : List Nat) (a : Nat), B63 a → (∀ k ∈ l, g k < 63) → B63 (l.foldl (fun a k => a ||| pow2 (g k)) a) := by
    intro l
    induction l with
    | nil => intro a ha _; exact ha
    | cons x l ih => intro a ha hl; exact ih _ (b63_or ha (b63_pow2 (hl x (by simp)))) fun k hk => hl k (by simp [hk])
  exact gen l 0 (by unfold B63; omega) h

/-- The numbers that the walks meet where hole k of a board f wide and o high is moved. -/
structure Moves (f o k : Nat) : Prop where
  d0 : (0 : Int) ≤ (k : Int) / f
  d1 : (k : Int) / f ≤ 48
  r0 : (0 : Int) ≤ (k : Int) % f
  r1 : (k : Int) % f < f
  m0 : (0 : Int) ≤ (k : Int) / f * f
  m1 : (k : Int) / f * f ≤ 48
  t0 : (0 : Int) ≤ (k : Int) % f * o
  t1 : (k : Int) % f * o ≤ 48
  t2 : (k : Int) / f ≤ (o : Int) - 1
  mir : (k : Int) / f * f + f - 1 - k % f = ((mirAt f k : Nat) : Int)
  turn : (k : Int) % f * o + o - 1 - k / f = ((turnAt f o k : Nat) : Int)
  mirlt : mirAt f k < f * o
  turnlt : turnAt f o k < f * o
theorem moves {f o k : Nat} (f1 : 1 ≤ f) (o1 : 1 ≤ o) (h49 : f * o ≤ 49) (hk : k < f * o) : Moves f o k := by
  have q : k / f < o := Nat.div_lt_of_lt_mul hk
  have r : k % f < f := Nat.mod_lt _ f1
  have e : k / f * f + k % f = k := by rw [Nat.mul_comm]; exact Nat.div_add_mod k f
  have t : k % f * o + o ≤ f * o := by
    have := Nat.mul_le_mul_right o (show k % f + 1 ≤ f from r)
    rw [Nat.add_mul, Nat.one_mul] at this
    exact this
  have m : k / f * f + f ≤ f * o := by
    have := Nat.mul_le_mul_right f (show k / f + 1 ≤ o from q)
    rw [Nat.add_mul, Nat.one_mul, Nat.mul_comm o f] at this
    exact this
  have c1 : ((k : Int) / f) = ((k / f : Nat) : Int) := by simp
  have c2 : ((k : Int) % f) = ((k % f : Nat) : Int) := by simp
  have c3 : ((k : Int) / f * f) = ((k / f * f : Nat) : Int) := by simp
  have c4 : ((k : Int) % f * o) = ((k % f * o : Nat) : Int) := by simp
  have hm : mirAt f k = k / f * f + f - 1 - k % f := rfl
  have ht : turnAt f o k = k % f * o + o - 1 - k / f := rfl
  rw [c1] at c3
  rw [c2] at c4
  generalize hA : f * o = A at *
  generalize hQ : k / f * f = Q at *
  generalize hR : k % f * o = R at *
  generalize hq : k / f = q at *
  generalize hr : k % f = r at *
  constructor
  · rw [c1]; omega
  · rw [c1]; omega
  · rw [c2]; omega
  · rw [c2]; omega
  · rw [c1, c3]; omega
  · rw [c1, c3]; omega
  · rw [c2, c4]; omega
  · rw [c2, c4]; omega
  · rw [c1]; omega
  · rw [c1, c3, c2, hm]; omega
  · rw [c2, c4, c1, ht]; omega
  · rw [hA, hm]; omega
  · rw [hA, ht]; omega

def mirS (b : Ln) (s : Nat) : Nat := moved (mirAt b.f.toNat) s (b.f.toNat * b.o.toNat)
def turnS (b : Ln) (s : Nat) : Nat := moved (turnAt b.f.toNat b.o.toNat) s (b.f.toNat * b.o.toNat)
def mirBoard (b : Ln) : Ln := if boardB b then ⟨b.f, b.o, mirS b b.t.toNat⟩ else ⟨0, 0, 0⟩
def turnBoard (b : Ln) : Ln := if boardB b then ⟨b.o, b.f, turnS b b.t.toNat⟩ else ⟨0, 0, 0⟩
def mirPos (b : Ln) (p : Int) : Int := if posB b p then mirS b p.toNat else -1
def turnPos (b : Ln) (p : Int) : Int := if posB b p then turnS b p.toNat else -1
def isMirB (b : Ln) : Bool := boardB b && eqL (mirBoard b) b
def isTurnB (b : Ln) : Bool := boardB b && eqL (turnBoard b) b
theorem mirS_nat (f o : Nat) (t : Int) (s : Nat) : mirS ⟨f, o, t⟩ s = moved (mirAt f) s (f * o) := by simp [mirS]
theorem turnS_nat (f o : Nat) (t : Int) (s : Nat) : turnS ⟨f, o, t⟩ s = moved (turnAt f o) s (f * o) := by simp [turnS]
theorem b63_mirS {f o t s : Nat} (hb : BdOk f o t) : B63 (mirS ⟨f, o, t⟩ s) := by
  rw [mirS_nat]
  exact b63_moved fun k hk _ => by have := (moves hb.w1 hb.h1 hb.area.2 hk).mirlt; have := hb.area.2; omega
theorem b63_turnS {f o t s : Nat} (hb : BdOk f o t) : B63 (turnS ⟨f, o, t⟩ s) := by
  rw [turnS_nat]
  exact b63_moved fun k hk _ => by have := (moves hb.w1 hb.h1 hb.area.2 hk).turnlt; have := hb.area.2; omega
theorem mirS_joined {f o t s : Nat} (hb : BdOk f o t) (hs : s < 2 ^ (f * o)) : mirS ⟨f, o, t⟩ s = joined (mirAt f) (bitsOf s 49) := by
  rw [mirS_nat, joined_bits]
  have := moved_stop (g := mirAt f) hs (49 - f * o)
  rw [show f * o + (49 - f * o) = 49 by have := hb.area.2; omega] at this
  exact this.symm
theorem turnS_joined {f o t s : Nat} (hb : BdOk f o t) (hs : s < 2 ^ (f * o)) : turnS ⟨f, o, t⟩ s = joined (turnAt f o) (bitsOf s 49) := by
  rw [turnS_nat, joined_bits]
  have := moved_stop (g := turnAt f o) hs (49 - f * o)
  rw [show f * o + (49 - f * o) = 49 by have := hb.area.2; omega] at this
  exact this.symm
end Go.Proofs.Ytbcgokpamhgabaa

/- Holes, lines and jumps of a board as plain functions. No program in sight. -/
import Derived.Test.YtbcgokpamhgabaaKb07
import Derived.Test.YtbcgokpamhgabaaKb08
namespace Go.Proofs.Ytbcgokpamhgabaa
set_option linter.unusedVariables false

def dx (way : Nat) : Int := if way = 0 then 1 else if way = 2 then -1 else 0
def dy (way : Nat) : Int := if way = 1 then 1 else if way = 3 then -1 else 0
theorem dxy (way : Nat) : -1 ≤ dx way ∧ dx way ≤ 1 ∧ -1 ≤ dy way ∧ dy way ≤ 1 ∧ (dx way = 0 ∨ dy way = 0) := by
  unfold dx dy; (repeat' split) <;> omega
theorem dxy0 {way : Nat} (h : way < 4) : dx way ≠ 0 ∨ dy way ≠ 0 := by
  unfold dx dy; (repeat' split) <;> omega

/-- The hole k is there. -/
def holeB (b : Ln) (k : Int) : Bool := boardB b && (decide (0 ≤ k ∧ k < b.f * b.o) && b.t.toNat.testBit k.toNat)
/-- Is there a hole at x, y? -/
def atB (w h s : Nat) (x y : Int) : Bool := decide (0 ≤ x ∧ x ≤ (w : Int) - 1) && (decide (0 ≤ y ∧ y ≤ (h : Int) - 1) && s.testBit (y * w + x).toNat)
/-- The hole beside the hole k, or -1. -/
def bes (w h s k way : Nat) : Int :=
  if atB w h s ((k % w : Nat) + dx way) ((k / w : Nat) + dy way) then ((k / w : Nat) + dy way) * w + ((k % w : Nat) + dx way) else -1
def besI (b : Ln) (k : Int) (way : Nat) : Int := if holeB b k then bes b.f.toNat b.o.toNat b.t.toNat k.toNat way else -1

theorem holeB_nat {w h s k : Nat} (hb : BdOk w h s) : holeB ⟨w, h, s⟩ (k : Int) = (decide (k < w * h) && s.testBit k) := by
  have e : ((k : Int) < (w : Int) * h) ↔ k < w * h := by rw [← Int.natCast_mul]; omega
  have e2 : (0 ≤ (k : Int) ∧ (k : Int) < (w : Int) * h) ↔ k < w * h := by rw [e]; omega
  simp only [holeB, boardB_of hb, Bool.true_and, Int.toNat_natCast, decide_eq_decide.2 e2]
theorem holeB_lt {w h s k : Nat} (hb : BdOk w h s) (hk : s.testBit k = true) : holeB ⟨w, h, s⟩ (k : Int) = true := by
  rw [holeB_nat hb, hk, decide_eq_true (bit_lt hb.s2 hk)]; rfl
theorem holeB_neg {b : Ln} {k : Int} (hk : k < 0) : holeB b k = false := by
  rw [holeB, decide_eq_false (by omega)]; simp
theorem holeB_no {b : Ln} {k : Int} (h : boardB b = false) : holeB b k = false := by simp [holeB, h]
theorem holeB_open {b : Ln} {k : Int} (h : holeB b k = true) : ∃ w h s q : Nat, b = ⟨w, h, s⟩ ∧ k = q ∧ BdOk w h s ∧ q < w * h ∧ s.testBit q = true := by
  have hb : boardB b = true := by simp only [holeB, Bool.and_eq_true] at h; exact h.1
  obtain ⟨w, hh, s, rfl, hk⟩ := boardB_nat hb
  simp only [holeB, Bool.and_eq_true, decide_eq_true_eq, Int.toNat_natCast] at h
  have e : (k < (w : Int) * hh) ↔ k.toNat < w * hh := by rw [← Int.natCast_mul]; omega
  exact ⟨w, hh, s, k.toNat, rfl, by omega, hk, by omega, h.2.2⟩

/-- What is beside a hole is a hole, one step off. -/
theorem bes_hole {w h s k way : Nat} (hb : BdOk w h s) (hp : 0 ≤ bes w h s k way) :
    ∃ m : Nat, bes w h s k way = m ∧ m < w * h ∧ s.testBit m = true ∧ (m : Int) = k + dy way * w + dx way ∧ ((m % w : Nat) : Int) = (k % w : Nat) + dx way ∧ ((m / w : Nat) : Int) = (k / w : Nat) + dy way := by
  unfold bes at hp ⊢
  split at hp
  · rename_i h1
    rw [if_pos h1]
    simp only [atB, Bool.and_eq_true, decide_eq_true_eq] at h1
    obtain ⟨hx, hy, ht⟩ := h1
    generalize hX : ((k % w : Nat) : Int) + dx way = X at *
    generalize hY : ((k / w : Nat) : Int) + dy way = Y at *
    obtain ⟨x, rfl⟩ := Int.eq_ofNat_of_zero_le hx.1
    obtain ⟨y, rfl⟩ := Int.eq_ofNat_of_zero_le hy.1
    have w1 := hb.w1
    have e : ((y : Int) * w + x) = ((y * w + x : Nat) : Int) := by simp
    have hxw : x < w := by omega
    have hyh : y + 1 ≤ h := by omega
    have hm : y * w + x < w * h := by
      have : (y + 1) * w ≤ h * w := Nat.mul_le_mul_right w hyh
      rw [Nat.mul_comm w h]
      rw [Nat.add_mul] at this
      omega
    have hmod : (y * w + x) % w = x := by rw [Nat.mul_comm, Nat.mul_add_mod]; exact Nat.mod_eq_of_lt hxw
    have hdiv : (y * w + x) / w = y := by rw [Nat.mul_comm, Nat.mul_add_div (by omega), Nat.div_eq_of_lt hxw]; rfl
    have hk : (k : Int) = (k / w : Nat) * w + (k % w : Nat) := by
      rw [← Int.natCast_mul, ← Int.natCast_add, Nat.mul_comm]; exact congrArg _ (Nat.div_add_mod k w).symm
    rw [e] at ht ⊢
    rw [Int.toNat_natCast] at ht
    refine ⟨y * w + x, rfl, hm, ht, ?_, by rw [hmod], by rw [hdiv]⟩
    rw [← e, hk]
    have hY' : (y : Int) = (k / w : Nat) + dy way := by omega
    rw [hY', Int.add_mul]
    omega
  · omega

/-- The line that begins at the hole k in a direction. -/
def lineAt (w h s k way : Nat) : Option Ln :=
  if bes w h s k way < 0 then none else if bes w h s (bes w h s k way).toNat way < 0 then none else some ⟨k, bes w h s k way, bes w h s (bes w h s k way).toNat way⟩
def waysL (w h s k : Nat) : Nat → List Ln
  | 0 => []
  | n + 1 => waysL w h s k n ++ (lineAt w h s k n).toList
def linesN (w h s : Nat) : List Nat → List Ln
  | [] => []
  | k :: ks => waysL w h s k 4 ++ linesN w h s ks
def linesL (b : Ln) : List Ln := if boardB b then linesN b.f.toNat b.o.toNat b.t.toNat (bitsOf b.t.toNat (b.f.toNat * b.o.toNat)) else []
def holesL (b : Ln) : List Nat := if boardB b then bitsOf b.t.toNat (b.f.toNat * b.o.toNat) else []

theorem lineAt_noA {w h s k way : Nat} (h1 : bes w h s k way < 0) : lineAt w h s k way = none := by rw [lineAt, if_pos h1]
theorem lineAt_noB {w h s k way m : Nat} (h1 : bes w h s k way = m) (h2 : bes w h s m way < 0) : lineAt w h s k way = none := by
  rw [lineAt, if_neg (by omega), h1, Int.toNat_natCast, if_pos h2]
theorem lineAt_yes {w h s k way m n : Nat} (h1 : bes w h s k way = m) (h2 : bes w h s m way = n) : lineAt w h s k way = some ⟨k, m, n⟩ := by
  rw [lineAt, if_neg (by omega), h1, Int.toNat_natCast, if_neg (by omega), h2]
theorem ways_no {w h s k n : Nat} (h1 : lineAt w h s k n = none) : waysL w h s k (n + 1) = waysL w h s k n := by simp [waysL, h1]
theorem ways_yes {w h s k n : Nat} {l : Ln} (h1 : lineAt w h s k n = some l) : waysL w h s k (n + 1) = waysL w h s k n ++ [l] := by simp [waysL, h1]
theorem ways_le (w h s k n : Nat) : (waysL w h s k n).length ≤ n := by
  induction n with
  | zero => exact Nat.le_refl _
  | succ n ih =>
    have : (lineAt w h s k n).toList.length ≤ 1 := by cases lineAt w h s k n <;> simp
    simp only [waysL, List.length_append]; omega
theorem linesN_append (w h s : Nat) (a c : List Nat) : linesN w h s (a ++ c) = linesN w h s a ++ linesN w h s c := by
  induction a with
  | nil => rfl
  | cons x a ih => simp [linesN, ih]
theorem linesN_take {w h s : Nat} {l : List Nat} {i k : Nat} (hk : l[i]? = some k) : linesN w h s (l.take (i + 1)) = linesN w h s (l.take i) ++ waysL w h s k 4 := by
  obtain ⟨hi, e⟩ := List.getElem?_eq_some_iff.1 hk
  rw [List.take_succ_eq_append_getElem hi, linesN_append, e]
  simp [linesN]
theorem linesN_le (w h s : Nat) (l : List Nat) : (linesN w h s l).length ≤ 4 * l.length := by
  induction l with
  | nil => exact Nat.le_refl _
  | cons x l ih =>
    have := ways_le w h s x 4
    simp only [linesN, List.length_append, List.length_cons]; omega
theorem linesL_yes {w h s : Nat} (hb : BdOk w h s) : linesL ⟨w, h, s⟩ = linesN w h s (bitsOf s (w * h)) := by simp [linesL, boardB_of hb]
theorem linesL_no {b : Ln} (h : boardB b = false) : linesL b = [] := by simp [linesL, h]
theorem holesL_yes {w h s : Nat} (hb : BdOk w h s) : holesL ⟨w, h, s⟩ = bitsOf s (w * h) := by simp [holesL, boardB_of hb]
theorem holesL_no {b : Ln} (h : boardB b = false) : holesL b = [] := by simp [holesL, h]
theorem bits_stop {s n : Nat} (h : s < 2 ^ n) (d : Nat) : bitsOf s (n + d) = bitsOf s n := by
  induction d with
  | zero => rfl
  | succ d ih =>
    rw [← Nat.add_assoc, bits_no (Nat.testBit_lt_two_pow (Nat.lt_of_lt_of_le h (Nat.pow_le_pow_right (by omega) (by omega)))), ih]
theorem bits_49 {w h s : Nat} (hb : BdOk w h s) : bitsOf s 49 = bitsOf s (w * h) := by
  have h1 := hb.area
  have := bits_stop hb.s2 (49 - w * h)
  rwa [show w * h + (49 - w * h) = 49 by omega] at this
theorem linesL_le (b : Ln) : (linesL b).length ≤ 196 := by
  rcases Bool.eq_false_or_eq_true (boardB b) with hb | hb
  · obtain ⟨w, h, s, rfl, k⟩ := boardB_nat hb
    rw [linesL_yes k]
    have h1 := linesN_le w h s (bitsOf s (w * h))
    have h2 := bits_le s (w * h)
    have h3 := k.area
    omega
  · rw [linesL_no hb]; simp
theorem holesL_le (b : Ln) : (holesL b).length ≤ 49 := by
  rcases Bool.eq_false_or_eq_true (boardB b) with hb | hb
  · obtain ⟨w, h, s, rfl, k⟩ := boardB_nat hb
    rw [holesL_yes k]
    have h2 := bits_le s (w * h)
    have h3 := k.area
    omega
  · rw [holesL_no hb]; simp

/-- A line of a board: three different holes. -/
structure LnOk (w h s : Nat) (l : Ln) (f o t : Nat) : Prop where
  eq : l = ⟨f, o, t⟩
  f1 : f < w * h
  o1 : o < w * h
  t1 : t < w * h
  fs : s.testBit f = true
  os : s.testBit o = true
  ts : s.testBit t = true
  fo : f ≠ o
  ft : f ≠ t
  ot : o ≠ t
  mid : f + t = 2 * o

theorem lineAt_ok {w h s k way : Nat} {l : Ln} (hb : BdOk w h s) (hk : k < w * h) (hs : s.testBit k = true) (hw : way < 4) (hl : lineAt w h s k way = some l) : ∃ f o t, LnOk w h s l f o t := by
  unfold lineAt at hl
  split at hl
  · cases hl
  · rename_i h1
    obtain ⟨m, e1, m1, m2, m3, m4, m5⟩ := bes_hole (way := way) hb (show 0 ≤ bes w h s k way by omega)
    rw [e1, Int.toNat_natCast] at hl
    split at hl
    · cases hl
    · rename_i h2
      obtain ⟨n, e2, n1, n2, n3, n4, n5⟩ := bes_hole (way := way) hb (show 0 ≤ bes w h s m way by omega)
      rw [e2] at hl
      injection hl with hl
      have hd : dx way ≠ 0 ∨ dy way ≠ 0 := dxy0 hw
      refine ⟨k, m, n, hl.symm, hk, m1, n1, hs, m2, n2, ?_, ?_, ?_, by omega⟩
      · rintro rfl
        omega
      · rintro rfl
        omega
      · rintro rfl
        omega
theorem ways_ok {w h s k n : Nat} {l : Ln} (hb : BdOk w h s) (hk : k < w * h) (hs : s.testBit k = true) (hn : n ≤ 4) (hl : l ∈ waysL w h s k n) : ∃ f o t, LnOk w h s l f o t := by
  induction n with
  | zero => simp [waysL] at hl
  | succ n ih =>
    simp only [waysL, List.mem_append, Option.mem_toList] at hl
    rcases hl with hl | hl
    · exact ih (by omega) hl
    · exact lineAt_ok hb hk hs (by omega) hl
theorem linesN_ok {w h s : Nat} {L : List Nat} {l : Ln} (hb : BdOk w h s) (hL : ∀ k ∈ L, k < w * h ∧ s.testBit k = true) (hl : l ∈ linesN w h s L) : ∃ f o t, LnOk w h s l f o t := by
  induction L with
  | nil => simp [linesN] at hl
  | cons x L ih =>
    simp only [linesN, List.mem_append] at hl
    rcases hl with hl | hl
    · have := hL x (by simp)
      exact ways_ok hb this.1 this.2 (Nat.le_refl _) hl
    · exact ih (fun k hk => hL k (by simp [hk])) hl
theorem linesL_ok {w h s : Nat} {l : Ln} (hb : BdOk w h s) (hl : l ∈ linesL ⟨w, h, s⟩) : ∃ f o t, LnOk w h s l f o t := by
  rw [linesL_yes hb] at hl
  exact linesN_ok hb (fun k hk => bits_mem.1 hk) hl

/-- Jumps on sets of pegs. -/
def canJ (p : Nat) (l : Ln) : Bool := p.testBit l.f.toNat && (p.testBit l.o.toNat && !p.testBit l.t.toNat)
def canU (p : Nat) (l : Ln) : Bool := !p.testBit l.f.toNat && (!p.testBit l.o.toNat && p.testBit l.t.toNat)
def lbits (l : Ln) : Nat := pow2 l.f.toNat ||| pow2 l.o.toNat ||| pow2 l.t.toNat
/-- The position after a jump that is possible, and the one before it. -/
def flip (p : Nat) (l : Ln) : Nat := p ^^^ lbits l

theorem testBit_lbits (f o t i : Nat) : (lbits ⟨f, o, t⟩).testBit i = (decide (f = i) || decide (o = i) || decide (t = i)) := by
  simp only [lbits, Nat.testBit_or, testBit_pow2, Int.toNat_natCast]
theorem flip_jump {p f o t : Nat} (h : canJ p ⟨f, o, t⟩ = true) (hft : f ≠ t) (hot : o ≠ t) : (adiff (adiff p (pow2 f)) (pow2 o) ||| pow2 t) = flip p ⟨f, o, t⟩ := by
  simp only [canJ, Int.toNat_natCast, Bool.and_eq_true, Bool.not_eq_true'] at h
  obtain ⟨h1, h2, h3⟩ := h
  apply Nat.eq_of_testBit_eq
  intro i
  simp only [flip, Nat.testBit_or, Nat.testBit_xor, testBit_adiff, testBit_pow2, testBit_lbits]
  by_cases e1 : f = i
  · subst e1
    simp [h1, Ne.symm hft]
  · by_cases e2 : o = i
    · subst e2
      simp [h2, Ne.symm hot]
    · by_cases e3 : t = i
      · subst e3
        simp [e1, e2, h3]
      · simp [e1, e2, e3]
theorem flip_undo {p f o t : Nat} (h : canU p ⟨f, o, t⟩ = true) (hft : f ≠ t) (hot : o ≠ t) (hfo : f ≠ o) : (adiff p (pow2 t) ||| pow2 f ||| pow2 o) = flip p ⟨f, o, t⟩ := by
  simp only [canU, Int.toNat_natCast, Bool.and_eq_true, Bool.not_eq_true'] at h
  obtain ⟨h1, h2, h3⟩ := h
  apply Nat.eq_of_testBit_eq
  intro i
  simp only [flip, Nat.testBit_or, Nat.testBit_xor, testBit_adiff, testBit_pow2, testBit_lbits]
  by_cases e1 : f = i
  · subst e1
    simp [h1]
  · by_cases e2 : o = i
    · subst e2
      simp [h2]
    · by_cases e3 : t = i
      · subst e3
        simp [e1, e2, h3]
      · simp [e1, e2, e3]
theorem canJ_and {p f o t : Nat} (hft : f ≠ t) (hot : o ≠ t) : canJ p ⟨f, o, t⟩ = decide (p &&& lbits ⟨f, o, t⟩ = pow2 f ||| pow2 o) := by
  rw [Bool.eq_iff_iff, decide_eq_true_eq]
  simp only [canJ, Int.toNat_natCast, Bool.and_eq_true, Bool.not_eq_true']
  constructor
  · rintro ⟨h1, h2, h3⟩
    apply Nat.eq_of_testBit_eq
    intro i
    simp only [Nat.testBit_and, Nat.testBit_or, testBit_pow2, testBit_lbits]
    by_cases e1 : f = i
    · subst e1; simp [h1]
    · by_cases e2 : o = i
      · subst e2; simp [h2]
      · by_cases e3 : t = i
        · subst e3; simp [e1, e2, h3]
        · simp [e1, e2, e3]
  · intro h
    have g : ∀ i, (p.testBit i && (decide (f = i) || decide (o = i) || decide (t = i))) = (decide (f = i) || decide (o = i)) := fun i => by
      have := congrArg (fun x => x.testBit i) h
      simpa only [Nat.testBit_and, Nat.testBit_or, testBit_pow2, testBit_lbits] using this
    have g1 := g f
    have g2 := g o
    have g3 := g t
    simp at g1
    simp at g2
    simp [hft, hot] at g3
    exact ⟨g1, g2, g3⟩
theorem canU_and {p f o t : Nat} (hft : f ≠ t) (hot : o ≠ t) : canU p ⟨f, o, t⟩ = decide (p &&& lbits ⟨f, o, t⟩ = pow2 t) := by
  rw [Bool.eq_iff_iff, decide_eq_true_eq]
  simp only [canU, Int.toNat_natCast, Bool.and_eq_true, Bool.not_eq_true']
  constructor
  · rintro ⟨h1, h2, h3⟩
    apply Nat.eq_of_testBit_eq
    intro i
    simp only [Nat.testBit_and, testBit_pow2, testBit_lbits]
    by_cases e3 : t = i
    · subst e3; simp [h3]
    · by_cases e1 : f = i
      · subst e1; simp [h1, e3]
      · by_cases e2 : o = i
        · subst e2; simp [e1, h2, e3]
        · simp [e1, e2, e3]
  · intro h
    have g : ∀ i, (p.testBit i && (decide (f = i) || decide (o = i) || decide (t = i))) = decide (t = i) := fun i => by
      have := congrArg (fun x => x.testBit i) h
      simpa only [Nat.testBit_and, testBit_pow2, testBit_lbits] using this
    have g1 := g f
    have g2 := g o
    have g3 := g t
    simp [Ne.symm hft] at g1
    simp [Ne.symm hot] at g2
    simp at g3
    exact ⟨g1, g2, g3⟩
theorem lbits_lt {w h s f o t : Nat} {l : Ln} (hl : LnOk w h s l f o t) : lbits l < 2 ^ (w * h) := by
  have h1 := hl.f1
  have h2 := hl.o1
  have h3 := hl.t1
  rw [hl.eq]
  simp only [lbits, Int.toNat_natCast]
  exact Nat.or_lt_two_pow (Nat.or_lt_two_pow (Nat.pow_lt_pow_right (by omega) h1) (Nat.pow_lt_pow_right (by omega) h2)) (Nat.pow_lt_pow_right (by omega) h3)
theorem lbits_sub {w h s f o t : Nat} {l : Ln} (hl : LnOk w h s l f o t) : lbits l &&& s = lbits l := by
  apply Nat.eq_of_testBit_eq
  intro i
  rw [Nat.testBit_and, hl.eq, testBit_lbits]
  by_cases e1 : f = i
  · subst e1; simp [hl.fs]
  · by_cases e2 : o = i
    · subst e2; simp [hl.os]
    · by_cases e3 : t = i
      · subst e3; simp [hl.ts]
      · simp [e1, e2, e3]
theorem flip_sub {w h s f o t p : Nat} {l : Ln} (hl : LnOk w h s l f o t) (hp : p &&& s = p) : flip p l &&& s = flip p l := by
  rw [flip, Nat.and_xor_distrib_right, hp, lbits_sub hl]
theorem flip_lt {w h s f o t p : Nat} {l : Ln} (hl : LnOk w h s l f o t) (hp : p < 2 ^ (w * h)) : flip p l < 2 ^ (w * h) := Nat.xor_lt_two_pow hp (lbits_lt hl)
theorem flip_flip (p : Nat) (l : Ln) : flip (flip p l) l = p := by simp [flip, Nat.xor_assoc]
end Go.Proofs.Ytbcgokpamhgabaa

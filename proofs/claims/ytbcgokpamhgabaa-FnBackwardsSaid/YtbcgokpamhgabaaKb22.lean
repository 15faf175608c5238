/- How many pegs a jump leaves; how many a layer has. No program in sight. -/
import Derived.Test.YtbcgokpamhgabaaKb18
import Derived.Test.YtbcgokpamhgabaaKb21
namespace Go.Proofs.Ytbcgokpamhgabaa
set_option linter.unusedVariables false

theorem len_one {p q k : Nat} (h : ∀ i, i ≠ k → p.testBit i = q.testBit i) (n : Nat) :
    (n ≤ k → (bitsOf p n).length = (bitsOf q n).length) ∧ (k < n → (bitsOf p n).length + (q.testBit k).toNat = (bitsOf q n).length + (p.testBit k).toNat) := by
  induction n with
  | zero => exact ⟨fun _ => rfl, fun h => absurd h (by omega)⟩
  | succ n ih =>
    rw [len_succ, len_succ]
    refine ⟨fun hk => ?_, fun hk => ?_⟩
    · rw [ih.1 (by omega), h n (by omega)]
    · by_cases e : k = n
      · subst e
        have := ih.1 (Nat.le_refl _)
        omega
      · have := ih.2 (by omega)
        rw [h n (by omega)]
        omega
theorem popc_bit {p q k : Nat} (hk : k < 49) (h : ∀ i, i ≠ k → p.testBit i = q.testBit i) : popc p + (q.testBit k).toNat = popc q + (p.testBit k).toNat := (len_one h 49).2 hk
theorem popc_le (p : Nat) {n : Nat} (h : p < 2 ^ n) (hn : n ≤ 49) : popc p ≤ n := by
  unfold popc
  have : ∀ d, (bitsOf p (n + d)).length = (bitsOf p n).length := by
    intro d
    induction d with
    | zero => rfl
    | succ d ih =>
      rw [← Nat.add_assoc, len_succ, ih, Nat.testBit_lt_two_pow (Nat.lt_of_lt_of_le h (Nat.pow_le_pow_right (by omega) (by omega)))]
      rfl
  rw [show 49 = n + (49 - n) by omega, this]
  unfold bitsOf
  exact Nat.le_trans (List.length_filter_le _ _) (by simp)
theorem popc_flip {p f o t : Nat} (hf : f < 49) (ho : o < 49) (ht : t < 49) (hft : f ≠ t) (hot : o ≠ t) (hfo : f ≠ o) :
    popc p + (!p.testBit f).toNat + (!p.testBit o).toNat + (!p.testBit t).toNat = popc (flip p ⟨f, o, t⟩) + (p.testBit f).toNat + (p.testBit o).toNat + (p.testBit t).toNat := by
  have h1 := popc_bit (p := p) (q := p ^^^ pow2 f) hf (fun i hi => by simp [Nat.testBit_xor, testBit_pow2, Ne.symm hi])
  have h2 := popc_bit (p := p ^^^ pow2 f) (q := p ^^^ pow2 f ^^^ pow2 o) ho (fun i hi => by simp [Nat.testBit_xor, testBit_pow2, Ne.symm hi])
  have h3 := popc_bit (p := p ^^^ pow2 f ^^^ pow2 o) (q := flip p ⟨f, o, t⟩) ht (fun i hi => by
    simp only [flip, Nat.testBit_xor, testBit_pow2, testBit_lbits]
    by_cases a : f = i
    · subst a; have b : ¬ o = f := fun e => hfo e.symm; have c : ¬ t = f := fun e => hft e.symm; simp [b, c]
    · by_cases b : o = i
      · subst b; have c : ¬ t = o := fun e => hot e.symm; simp [a, c]
      · have c : ¬ t = i := fun e => hi e.symm; simp [a, b, c])
  have e1 : (p ^^^ pow2 f).testBit f = !p.testBit f := by simp [Nat.testBit_xor, testBit_pow2]
  have e2 : (p ^^^ pow2 f).testBit o = p.testBit o := by simp [Nat.testBit_xor, testBit_pow2, hfo]
  have e3 : (p ^^^ pow2 f ^^^ pow2 o).testBit o = !p.testBit o := by simp [Nat.testBit_xor, testBit_pow2, hfo]
  have e4 : (p ^^^ pow2 f ^^^ pow2 o).testBit t = p.testBit t := by simp [Nat.testBit_xor, testBit_pow2, hft, hot]
  have e5 : (flip p ⟨f, o, t⟩).testBit t = !p.testBit t := by simp [flip, Nat.testBit_xor, testBit_lbits]
  rw [e1] at h1
  rw [e2, e3] at h2
  rw [e4, e5] at h3
  omega
/-- Three different holes below 49. -/
def Ln49 (l : Ln) : Prop := ∃ f o t : Nat, l = ⟨f, o, t⟩ ∧ f < 49 ∧ o < 49 ∧ t < 49 ∧ f ≠ t ∧ o ≠ t ∧ f ≠ o
theorem popc_jump {p : Nat} {l : Ln} (hl : Ln49 l) (h : canJ p l = true) : popc (flip p l) + 1 = popc p := by
  obtain ⟨f, o, t, rfl, hf, ho, ht, a, b, c⟩ := hl
  have := popc_flip (p := p) hf ho ht a b c
  simp only [canJ, Int.toNat_natCast, Bool.and_eq_true, Bool.not_eq_true'] at h
  rw [h.1, h.2.1, h.2.2] at this
  simp at this
  omega
theorem popc_undo {p : Nat} {l : Ln} (hl : Ln49 l) (h : canU p l = true) : popc (flip p l) = popc p + 1 := by
  obtain ⟨f, o, t, rfl, hf, ho, ht, a, b, c⟩ := hl
  have := popc_flip (p := p) hf ho ht a b c
  simp only [canU, Int.toNat_natCast, Bool.and_eq_true, Bool.not_eq_true'] at h
  rw [h.1, h.2.1, h.2.2] at this
  simp at this
  omega
/-- What a layer holds: a position of the layer before, and a line. -/
theorem rowC_mem {back : Bool} {p : Nat} (ls : List Ln) : ∀ (a : List Nat) (q : Nat), q ∈ rowC back ls p a ↔ q ∈ a ∨ ∃ l ∈ ls, canD back p l = true ∧ flip p l = q := by
  induction ls with
  | nil => intro a q; simp [rowC]
  | cons x ls ih =>
    intro a q
    have h := ih (stepC back p a x) q
    simp only [rowC, List.foldl_cons] at h ⊢
    rw [h]
    unfold stepC
    rcases Bool.eq_false_or_eq_true (canD back p x) with hc | hc
    · rw [if_pos hc]
      simp only [List.mem_append, List.mem_cons, List.not_mem_nil, or_false]
      constructor
      · rintro ((h | h) | ⟨l, hl, h⟩)
        · exact .inl h
        · exact .inr ⟨x, .inl rfl, hc, h.symm⟩
        · exact .inr ⟨l, .inr hl, h⟩
      · rintro (h | ⟨l, rfl | hl, h1, h2⟩)
        · exact .inl (.inl h)
        · exact .inl (.inr h2.symm)
        · exact .inr ⟨l, hl, h1, h2⟩
    · rw [if_neg (by simp [hc])]
      simp only [List.mem_cons]
      constructor
      · rintro (h | ⟨l, hl, h⟩)
        · exact .inl h
        · exact .inr ⟨l, .inr hl, h⟩
      · rintro (h | ⟨l, rfl | hl, h1, h2⟩)
        · exact .inl h
        · rw [hc] at h1; cases h1
        · exact .inr ⟨l, hl, h1, h2⟩
theorem colC_mem {back : Bool} {ls : List Ln} (ps : List Nat) (q : Nat) : q ∈ colC back ls ps ↔ ∃ p ∈ ps, ∃ l ∈ ls, canD back p l = true ∧ flip p l = q := by
  unfold colC
  suffices h : ∀ a : List Nat, q ∈ ps.foldl (fun a p => rowC back ls p a) a ↔ q ∈ a ∨ ∃ p ∈ ps, ∃ l ∈ ls, canD back p l = true ∧ flip p l = q by
    rw [h]; simp
  induction ps with
  | nil => intro a; simp
  | cons x ps ih =>
    intro a
    rw [List.foldl_cons, ih, rowC_mem]
    simp only [List.mem_cons]
    constructor
    · rintro ((h | ⟨l, hl, h⟩) | ⟨p, hp, h⟩)
      · exact .inl h
      · exact .inr ⟨x, .inl rfl, l, hl, h⟩
      · exact .inr ⟨p, .inr hp, h⟩
    · rintro (h | ⟨p, rfl | hp, h⟩)
      · exact .inl (.inl h)
      · exact .inl (.inr h)
      · exact .inr ⟨p, hp, h⟩
theorem nextL_mem {back : Bool} {ls : List Ln} {n : Nat} {ps : List Nat} (hs : Stays n ls) (hp : ∀ p ∈ ps, p < n) (q : Nat) : q ∈ nextL back ls n ps ↔ ∃ p ∈ ps, ∃ l ∈ ls, canD back p l = true ∧ flip p l = q := by
  obtain ⟨_, t2, t3⟩ := col_tells (back := back) hs hp
  rw [nextL, trues_mem, ← colC_mem]
  constructor
  · rintro ⟨h1, h2⟩; exact (t3 q h1).1 h2
  · intro h; exact ⟨t2 q h, (t3 q (t2 q h)).2 h⟩
theorem layL_pop {ls : List Ln} {n p : Nat} (hs : Stays n ls) (h49 : ∀ l ∈ ls, Ln49 l) (hp : p < n) (k : Nat) : ∀ q ∈ layL false ls n p k, popc q + k = popc p := by
  induction k with
  | zero => intro q hq; simp [layL] at hq; rw [hq]; rfl
  | succ k ih =>
    intro q hq
    obtain ⟨r, hr, l, hl, hc, rfl⟩ := (nextL_mem hs (layL_lt hp k) q).1 hq
    have h1 := ih r hr
    have h2 := popc_jump (h49 l hl) hc
    omega
theorem layL_popB {ls : List Ln} {n p : Nat} (hs : Stays n ls) (h49 : ∀ l ∈ ls, Ln49 l) (hp : p < n) (k : Nat) : ∀ q ∈ layL true ls n p k, popc q = popc p + k := by
  induction k with
  | zero => intro q hq; simp [layL] at hq; rw [hq]; rfl
  | succ k ih =>
    intro q hq
    obtain ⟨r, hr, l, hl, hc, rfl⟩ := (nextL_mem hs (layL_lt hp k) q).1 hq
    have h1 := ih r hr
    have h2 := popc_undo (h49 l hl) hc
    omega
theorem layL_none {ls : List Ln} {n p k : Nat} (hs : Stays n ls) (h49 : ∀ l ∈ ls, Ln49 l) (hp : p < n) (hk : popc p < k) : layL false ls n p k = [] := by
  cases h : layL false ls n p k with
  | nil => rfl
  | cons q t =>
    have := layL_pop hs h49 hp k q (by rw [h]; simp)
    omega

/-- The layer with the most positions, the first such one: (n, how many), as far as layer k. -/
def wstL (ln : Nat → Nat) : Nat → Nat × Nat
  | 0 => (0, 1)
  | k + 1 => if (wstL ln k).2 < ln (k + 1) then (k + 1, ln (k + 1)) else wstL ln k
theorem wstL_yes {ln : Nat → Nat} {k : Nat} (h : (wstL ln k).2 < ln (k + 1)) : wstL ln (k + 1) = (k + 1, ln (k + 1)) := by simp [wstL, h]
theorem wstL_no {ln : Nat → Nat} {k : Nat} (h : ¬ (wstL ln k).2 < ln (k + 1)) : wstL ln (k + 1) = wstL ln k := by simp [wstL, h]
theorem wstL_pos (ln : Nat → Nat) (k : Nat) : 1 ≤ (wstL ln k).2 := by
  induction k with
  | zero => exact Nat.le_refl _
  | succ k ih =>
    simp only [wstL]
    split
    · rename_i h; show 1 ≤ ln (k + 1); omega
    · exact ih
theorem wstL_stop {ln : Nat → Nat} {k : Nat} (h : ∀ j, k < j → ln j = 0) (d : Nat) : wstL ln (k + d) = wstL ln k := by
  induction d with
  | zero => rfl
  | succ d ih =>
    have := wstL_pos ln (k + d)
    rw [← Nat.add_assoc, wstL_no (by rw [h (k + d + 1) (by omega)]; omega), ih]
theorem wstL_le (ln : Nat → Nat) {M : Nat} (h : ∀ j, ln j ≤ M) (hM : 1 ≤ M) (k : Nat) : (wstL ln k).2 ≤ M ∧ (wstL ln k).1 ≤ k := by
  induction k with
  | zero => exact ⟨hM, Nat.le_refl _⟩
  | succ k ih =>
    simp only [wstL]
    split
    · exact ⟨h _, Nat.le_refl _⟩
    · exact ⟨ih.1, by omega⟩
end Go.Proofs.Ytbcgokpamhgabaa

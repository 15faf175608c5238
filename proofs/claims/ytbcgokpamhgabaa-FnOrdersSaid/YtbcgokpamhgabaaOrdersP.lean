/- What the law FnOrders says, as plain facts: the number of orders is kept by exchanges, is at least 1, and more than 1 where nothing must precede. No program in sight. -/
import Derived.Test.YtbcgokpamhgabaaCountP
import Derived.Test.YtbcgokpamhgabaaNormalP
import Derived.Test.YtbcgokpamhgabaaSet
import Derived.WalkKit
set_option linter.unusedVariables false
namespace Go.Proofs.Ytbcgokpamhgabaa
open Go.RowKit

/-! ### The number of bits below n -/
def bc (s : Nat) : Nat → Nat
  | 0 => 0
  | n + 1 => bc s n + (s.testBit n).toNat
theorem bc_le (s n : Nat) : bc s n ≤ n := by
  induction n with
  | zero => simp [bc]
  | succ n ih => rw [bc]; have := Bool.toNat_le (s.testBit n); omega
theorem bc_off {s s' k : Nat} (h : s.testBit k = true) (h' : ∀ i, s'.testBit i = (s.testBit i && decide (i ≠ k))) : ∀ n, (k < n → bc s' n + 1 = bc s n) ∧ (n ≤ k → bc s' n = bc s n) := by
  intro n
  induction n with
  | zero => exact ⟨fun h => by omega, fun _ => rfl⟩
  | succ n ih =>
    refine ⟨fun hk => ?_, fun hk => ?_⟩
    · rw [bc, bc, h' n]
      by_cases e : n = k
      · subst e
        rw [ih.2 (Nat.le_refl _), h]
        simp
      · have := ih.1 (by omega)
        simp [e]
        omega
    · rw [bc, bc, h' n, ih.2 (by omega)]
      have : n ≠ k := by omega
      simp [this]
theorem sub_bits {s k : Nat} (h : s.testBit k = true) (hs : B63 s) : ∀ i, (s - 2 ^ k).testBit i = (s.testBit i && decide (i ≠ k)) := by
  have e : pow2 k &&& s = pow2 k := by
    apply Nat.eq_of_testBit_eq
    intro i
    rw [Nat.testBit_and, testBit_pow2]
    by_cases hk : k = i
    · subst hk; simp [h]
    · simp [hk]
  have h1 := adiff_sub' hs e
  have h2 : s - 2 ^ k = adiff s (pow2 k) := by
    have : pow2 k = 2 ^ k := rfl
    omega
  intro i
  rw [h2, testBit_adiff, testBit_pow2]
  by_cases hk : k = i
  · subst hk; simp
  · have : i ≠ k := fun e => hk e.symm
    simp [hk, this]

/-! ### No number is too great -/
theorem sum_bound {f : Nat → Int} {M : Int} (hM : 0 ≤ M) : ∀ n, (∀ k, k < n → 0 ≤ f k ∧ f k ≤ M) → 0 ≤ sumTo f n ∧ sumTo f n ≤ n * M := by
  intro n
  induction n with
  | zero => intro _; simp [sumTo]
  | succ n ih =>
    intro h
    obtain ⟨h1, h2⟩ := ih fun k hk => h k (by omega)
    obtain ⟨h3, h4⟩ := h n (by omega)
    rw [sumTo]
    have : ((n + 1 : Nat) : Int) * M = (n : Int) * M + M := by rw [Int.natCast_add, Int.add_mul]; simp
    omega
theorem sum_none {f : Nat → Int} {n : Nat} (h : ∀ k, k < n → f k = 0) : sumTo f n = 0 := by
  induction n with
  | zero => rfl
  | succ n ih => rw [sumTo, ih (fun k hk => h k (by omega)), h n (by omega)]; rfl
def tenN (c : Nat) : Int := ((10 ^ c : Nat) : Int)
theorem tenN_pos (c : Nat) : 1 ≤ tenN c := by
  have : 1 ≤ 10 ^ c := Nat.one_le_pow _ _ (by omega)
  unfold tenN; omega
theorem tenN_next (c : Nat) : tenN (c + 1) = 10 * tenN c := by
  unfold tenN
  rw [Nat.pow_succ]
  omega
theorem tenN_le {c : Nat} (h : c ≤ 10) : tenN c ≤ 10000000000 := by
  have : 10 ^ c ≤ 10 ^ 10 := Nat.pow_le_pow_right (by omega) h
  unfold tenN
  omega
theorem wr_small {x : Int} (h0 : 0 ≤ x) (h1 : x ≤ 20000000000) : wr x = x := by
  rw [wr_64]
  unfold wrap64
  omega
theorem val_exact (ls : List Ln) (hn : ls.length ≤ 10) : ∀ s, B63 s → (0 ≤ val ls s ∧ val ls s ≤ tenN (bc s ls.length)) ∧ val ls s = oneAt s + sumTo (addW ls s) ls.length := by
  intro s
  induction s using Nat.strongRecOn with
  | _ s ih =>
    intro hs
    have hc := bc_le s ls.length
    have ht := tenN_le (c := bc s ls.length) (by omega)
    have hp := tenN_pos (bc s ls.length)
    rcases Nat.eq_zero_or_pos s with rfl | hpos
    · have hz : sumTo (addW ls 0) ls.length = 0 := sum_none fun k _ => add_none (by simp)
      rw [hz, val_zero]
      exact ⟨⟨by omega, hp⟩, rfl⟩
    · have h0 : oneAt s = 0 := by unfold oneAt; rw [if_neg (by omega)]
      have each : ∀ k, k < ls.length → 0 ≤ addW ls s k ∧ addW ls s k ≤ tenN (bc s ls.length - 1) := by
        intro k hk
        unfold addW
        split
        · rename_i hcd
          have hb : s.testBit k = true := by simp only [condB, Bool.and_eq_true] at hcd; exact hcd.1
          have h1 := (ih (s - 2 ^ k) (bit_sub hb) (b63_le (Nat.sub_le _ _) hs)).1
          have h2 := (bc_off hb (sub_bits hb hs) ls.length).1 hk
          rw [show bc s ls.length - 1 = bc (s - 2 ^ k) ls.length by omega]
          exact h1
        · have := tenN_pos (bc s ls.length - 1)
          omega
      have hsum := sum_bound (f := addW ls s) (M := tenN (bc s ls.length - 1)) (by have := tenN_pos (bc s ls.length - 1); omega) ls.length each
      have hfin : sumTo (addW ls s) ls.length ≤ tenN (bc s ls.length) := by
        rcases Nat.eq_zero_or_pos (bc s ls.length) with hz | hz
        · have : sumTo (addW ls s) ls.length = 0 := sum_none fun k hk => by
            refine add_none ?_
            cases hb : s.testBit k with
            | false => rfl
            | true =>
              have := (bc_off hb (sub_bits hb hs) ls.length).1 hk
              omega
          omega
        · have e := tenN_next (bc s ls.length - 1)
          rw [show bc s ls.length - 1 + 1 = bc s ls.length by omega] at e
          have hm : (ls.length : Int) * tenN (bc s ls.length - 1) ≤ 10 * tenN (bc s ls.length - 1) := Int.mul_le_mul_of_nonneg_right (by omega) (by have := tenN_pos (bc s ls.length - 1); omega)
          omega
      have hv : val ls s = oneAt s + sumTo (addW ls s) ls.length := by
        rw [val_all, h0, wr_small (by omega) (by omega)]
      rw [hv, h0]
      exact ⟨⟨by omega, by omega⟩, rfl⟩

/-! ### At least one -/
theorem full_bit {m i : Nat} : (2 ^ m - 1).testBit i = decide (i < m) := Nat.testBit_two_pow_sub_one m i
theorem full_63 {m : Nat} (h : m ≤ 10) : B63 (2 ^ m - 1) := by
  have : 2 ^ m ≤ 2 ^ 10 := Nat.pow_le_pow_right (by omega) h
  unfold B63
  omega
theorem sum_ge {f : Nat → Int} {n m : Nat} (h : ∀ k, k < n → 0 ≤ f k) (hm : m < n) : f m ≤ sumTo f n := by
  induction n with
  | zero => omega
  | succ n ih =>
    have h0 : 0 ≤ sumTo f n := by
      clear ih hm
      have hh : ∀ k, k < n → 0 ≤ f k := fun k hk => h k (by omega)
      clear h
      induction n with
      | zero => simp [sumTo]
      | succ n ih => rw [sumTo]; have := ih fun k hk => hh k (by omega); have := hh n (by omega); omega
    rw [sumTo]
    by_cases e : m = n
    · subst e; omega
    · have := ih (fun k hk => h k (by omega)) (by omega)
      have := h n (by omega)
      omega
theorem sum_ge2 {f : Nat → Int} {n m : Nat} (h : ∀ k, k < n → 0 ≤ f k) (hm : m + 1 < n) : f m + f (m + 1) ≤ sumTo f n := by
  induction n with
  | zero => omega
  | succ n ih =>
    rw [sumTo]
    by_cases e : m + 1 = n
    · subst e
      have := sum_ge (f := f) (n := m + 1) (m := m) (fun k hk => h k (by omega)) (by omega)
      omega
    · have := ih (fun k hk => h k (by omega)) (by omega)
      have := h n (by omega)
      omega
theorem add_nn {ls : List Ln} (hn : ls.length ≤ 10) {s : Nat} (hs : B63 s) : ∀ k, 0 ≤ addW ls s k := fun k => by
  unfold addW
  split
  · exact ((val_exact ls hn (s - 2 ^ k) (b63_le (Nat.sub_le _ _) hs)).1).1
  · omega
theorem one_nn (s : Nat) : 0 ≤ oneAt s := by unfold oneAt; split <;> omega
theorem val_ge {ls : List Ln} (hn : ls.length ≤ 10) {s k : Nat} (hs : B63 s) (hk : k < ls.length) (hc : condB ls s k = true) : val ls (s - 2 ^ k) ≤ val ls s := by
  have h1 := (val_exact ls hn s hs).2
  have h2 := sum_ge (f := addW ls s) (fun j _ => add_nn hn hs j) hk
  have h3 := one_nn s
  have h4 : addW ls s k = val ls (s - 2 ^ k) := by unfold addW; rw [if_pos hc]
  omega
theorem val_full {ls : List Ln} (hn : ls.length ≤ 10) : ∀ m, m ≤ ls.length → 1 ≤ val ls (2 ^ m - 1) := by
  intro m
  induction m with
  | zero => intro _; rw [show (2 ^ 0 - 1 : Nat) = 0 from rfl, val_zero]; omega
  | succ m ih =>
    intro hm
    have hp : 2 ^ (m + 1) = 2 ^ m * 2 := Nat.pow_succ 2 m
    have hb : (2 ^ (m + 1) - 1).testBit m = true := by rw [full_bit]; simp
    have hc : condB ls (2 ^ (m + 1) - 1) m = true := by
      simp only [condB, hb, Bool.true_and]
      rw [ok_all]
      intro i hi
      left
      rw [full_bit]
      simp; omega
    have := val_ge hn (full_63 (m := m + 1) (by omega)) (k := m) (by omega) hc
    rw [show 2 ^ (m + 1) - 1 - 2 ^ m = 2 ^ m - 1 by omega] at this
    have := ih (by omega)
    omega
theorem val_two {ls : List Ln} (hn : ls.length ≤ 10) {m : Nat} (hm : m + 2 = ls.length) (hf : disturbB (ls.getD m default) (ls.getD (m + 1) default) = false) : 2 ≤ val ls (2 ^ ls.length - 1) := by
  have hp1 : 2 ^ (m + 1) = 2 ^ m * 2 := Nat.pow_succ 2 m
  have hp2 : 2 ^ (m + 2) = 2 ^ (m + 1) * 2 := Nat.pow_succ 2 (m + 1)
  have hpp : 0 < 2 ^ m := Nat.two_pow_pos m
  rw [← hm]
  have h63 := full_63 (m := m + 2) (by omega)
  have c1 : condB ls (2 ^ (m + 2) - 1) (m + 1) = true := by
    simp only [condB, full_bit, Bool.and_eq_true, decide_eq_true_eq]
    refine ⟨by omega, ?_⟩
    rw [ok_all]
    intro i hi
    left; rw [full_bit]; simp; omega
  have c0 : condB ls (2 ^ (m + 2) - 1) m = true := by
    simp only [condB, full_bit, Bool.and_eq_true, decide_eq_true_eq]
    refine ⟨by omega, ?_⟩
    rw [ok_all]
    intro i hi
    left; rw [full_bit]; simp; omega
  have hb : (2 ^ (m + 2) - 1).testBit m = true := by rw [full_bit]; simp
  have hs := sub_bits hb h63
  have c2 : condB ls (2 ^ (m + 2) - 1 - 2 ^ m) (m + 1) = true := by
    simp only [condB, Bool.and_eq_true]
    refine ⟨by rw [hs, full_bit]; simp, ?_⟩
    rw [ok_all]
    intro i hi
    by_cases e : i = m
    · subst e; exact .inr hf
    · left; rw [hs, full_bit]; simp; omega
  have a1 : addW ls (2 ^ (m + 2) - 1) (m + 1) = val ls (2 ^ (m + 2) - 1 - 2 ^ (m + 1)) := by unfold addW; rw [if_pos c1]
  have a0 : addW ls (2 ^ (m + 2) - 1) m = val ls (2 ^ (m + 2) - 1 - 2 ^ m) := by unfold addW; rw [if_pos c0]
  have v1 := val_full hn (m + 1) (by omega)
  have v0 := val_full hn m (by omega)
  have v2 := val_ge hn (b63_le (Nat.sub_le _ (2 ^ m)) h63) (k := m + 1) (by omega) c2
  rw [show 2 ^ (m + 2) - 1 - 2 ^ (m + 1) = 2 ^ (m + 1) - 1 by omega] at a1
  rw [show 2 ^ (m + 2) - 1 - 2 ^ m - 2 ^ (m + 1) = 2 ^ m - 1 by omega] at v2
  have h1 := (val_exact ls hn _ h63).2
  have h2 := sum_ge2 (f := addW ls (2 ^ (m + 2) - 1)) (n := ls.length) (m := m) (fun j _ => add_nn hn h63 j) (by omega)
  have h3 := one_nn (2 ^ (m + 2) - 1)
  omega

/-! ### Exchanges keep the number -/
def tr (j i : Nat) : Nat := if i = j then j + 1 else if i = j + 1 then j else i
theorem tr_tr (j i : Nat) : tr j (tr j i) = i := by
  unfold tr
  repeat' split
  all_goals omega
theorem tr_lt {j i n : Nat} (hj : j + 1 < n) (hi : i < n) : tr j i < n := by
  unfold tr
  split
  · omega
  · split <;> omega
theorem tr_up {j i k : Nat} (h : i < k) (e : ¬ (i = j ∧ k = j + 1)) : tr j i < tr j k := by
  unfold tr
  repeat' split
  all_goals omega
theorem tr_dn {j i k : Nat} (h : tr j i < tr j k) (e : ¬ (i = j + 1 ∧ k = j)) : i < k := by
  unfold tr at h
  repeat' split at h
  all_goals omega
def sg (j s : Nat) : Nat := if s.testBit j = s.testBit (j + 1) then s else s ^^^ (2 ^ j ^^^ 2 ^ (j + 1))
theorem sg_bit (j s i : Nat) : (sg j s).testBit i = s.testBit (tr j i) := by
  unfold sg tr
  by_cases h : s.testBit j = s.testBit (j + 1)
  · rw [if_pos h]
    split
    · rename_i e; subst e; exact h
    · split
      · rename_i e; subst e; exact h.symm
      · rfl
  · rw [if_neg h, Nat.testBit_xor, Nat.testBit_xor, Nat.testBit_two_pow, Nat.testBit_two_pow]
    by_cases e1 : i = j
    · subst e1
      rw [if_pos rfl]
      have : ¬ i + 1 = i := by omega
      simp only [decide_true, this, decide_false, Bool.xor_false]
      revert h; cases s.testBit i <;> cases s.testBit (i + 1) <;> simp
    · rw [if_neg e1]
      by_cases e2 : i = j + 1
      · subst e2
        rw [if_pos rfl]
        have : ¬ j = j + 1 := by omega
        simp only [this, decide_false, Bool.false_xor, decide_true]
        revert h; cases s.testBit j <;> cases s.testBit (j + 1) <;> simp
      · rw [if_neg e2]
        have h1 : ¬ j = i := fun h => e1 h.symm
        have h2 : ¬ j + 1 = i := fun h => e2 h.symm
        rw [decide_eq_false h1, decide_eq_false h2]
        simp
theorem sg_63 {j s : Nat} (hj : j + 1 < 63) (hs : B63 s) : B63 (sg j s) := by
  unfold sg
  split
  · exact hs
  · exact b63_xor hs (b63_xor (b63_pow2 (k := j) (by omega)) (b63_pow2 (k := j + 1) (by omega)))
theorem sg_sub {j s k : Nat} (hj : j + 1 < 63) (hs : B63 s) (h : s.testBit k = true) : sg j (s - 2 ^ k) = sg j s - 2 ^ tr j k := by
  have h' : (sg j s).testBit (tr j k) = true := by rw [sg_bit, tr_tr]; exact h
  apply Nat.eq_of_testBit_eq
  intro i
  rw [sg_bit, sub_bits h hs, sub_bits h' (sg_63 hj hs), sg_bit]
  congr 1
  rw [decide_eq_decide]
  constructor
  · intro h1 h2; exact h1 (by rw [h2, tr_tr])
  · intro h1 h2; exact h1 (by rw [← h2, tr_tr])
theorem sg_zero {j s : Nat} : sg j s = 0 ↔ s = 0 := by
  constructor
  · intro h
    apply Nat.eq_of_testBit_eq
    intro i
    have := sg_bit j s (tr j i)
    rw [h, tr_tr, Nat.zero_testBit] at this
    rw [Nat.zero_testBit]
    exact this.symm
  · rintro rfl
    apply Nat.eq_of_testBit_eq
    intro i
    rw [sg_bit]
    simp
theorem sum_tr {f g : Nat → Int} {j n : Nat} (hj : j + 1 < n) (h : ∀ k, k < n → g (tr j k) = f k) : sumTo g n = sumTo f n := by
  obtain ⟨d, rfl⟩ : ∃ d, n = j + 2 + d := ⟨n - (j + 2), by omega⟩
  clear hj
  induction d with
  | zero =>
    have h1 := h j (by omega)
    have h2 := h (j + 1) (by omega)
    have h3 : sumTo g j = sumTo f j := sum_same fun k hk => by
      have := h k (by omega)
      unfold tr at this
      rw [if_neg (by omega), if_neg (by omega)] at this
      exact this
    simp only [tr, if_pos] at h1
    rw [tr, if_neg (by omega), if_pos rfl] at h2
    show sumTo g j + g j + g (j + 1) = sumTo f j + f j + f (j + 1)
    omega
  | succ d ih =>
    rw [show j + 2 + (d + 1) = (j + 2 + d) + 1 by omega, sumTo, sumTo, ih (fun k hk => h k (by omega))]
    have := h (j + 2 + d) (by omega)
    unfold tr at this
    rw [if_neg (by omega), if_neg (by omega)] at this
    rw [this]
section
variable {pre post : List Ln} {a c : Ln}
theorem get_tr (i : Nat) : (pre ++ c :: a :: post).getD (tr pre.length i) default = (pre ++ a :: c :: post).getD i default := by
  simp only [List.getD_eq_getElem?_getD]
  congr 1
  unfold tr
  split
  · rename_i h; subst h; simp
  · split
    · rename_i h; subst h; simp
    · rename_i h1 h2
      rcases Nat.lt_or_ge i pre.length with h3 | h3
      · rw [List.getElem?_append_left h3, List.getElem?_append_left h3]
      · obtain ⟨d, rfl⟩ : ∃ d, i = pre.length + 2 + d := ⟨i - (pre.length + 2), by omega⟩
        rw [List.getElem?_append_right (by omega), List.getElem?_append_right (by omega), show pre.length + 2 + d - pre.length = d + 1 + 1 by omega]
        simp
theorem cond_tr (hd : disturbB a c = false) (s k : Nat) : condB (pre ++ c :: a :: post) (sg pre.length s) (tr pre.length k) = condB (pre ++ a :: c :: post) s k := by
  have hd' : disturbB c a = false := by rw [disturb_comm]; exact hd
  unfold condB
  rw [sg_bit, tr_tr]
  congr 1
  rw [Bool.eq_iff_iff, ok_all, ok_all]
  have g0 : (pre ++ a :: c :: post).getD pre.length default = a := by simp [List.getD_eq_getElem?_getD]
  have g1 : (pre ++ a :: c :: post).getD (pre.length + 1) default = c := by simp [List.getD_eq_getElem?_getD]
  constructor
  · intro h i hi
    by_cases e : i = pre.length ∧ k = pre.length + 1
    · obtain ⟨rfl, rfl⟩ := e
      right; rw [g0, g1]; exact hd
    · have hlt : tr pre.length i < tr pre.length k := tr_up hi e
      have := h _ hlt
      rw [sg_bit, tr_tr, get_tr, get_tr] at this
      exact this
  · intro h i' hi'
    obtain ⟨i, rfl⟩ : ∃ i, i' = tr pre.length i := ⟨tr pre.length i', (tr_tr _ _).symm⟩
    rw [sg_bit, tr_tr, get_tr, get_tr]
    by_cases e : i = pre.length + 1 ∧ k = pre.length
    · obtain ⟨rfl, rfl⟩ := e
      right; rw [g0, g1]; exact hd'
    · exact h i (tr_dn hi' e)
theorem val_tr (hd : disturbB a c = false) (hn : (pre ++ a :: c :: post).length ≤ 10) : ∀ s, B63 s → val (pre ++ c :: a :: post) (sg pre.length s) = val (pre ++ a :: c :: post) s := by
  have hl : (pre ++ c :: a :: post).length = (pre ++ a :: c :: post).length := by simp
  have hj : pre.length + 1 < (pre ++ a :: c :: post).length := by simp
  intro s
  induction s using Nat.strongRecOn with
  | _ s ih =>
    intro hs
    rw [(val_exact _ hn s hs).2, (val_exact _ (by rw [hl]; exact hn) _ (sg_63 (by omega) hs)).2, hl]
    congr 1
    · unfold oneAt
      by_cases h0 : s = 0
      · rw [if_pos h0, if_pos (sg_zero.2 h0)]
      · rw [if_neg h0, if_neg (fun h => h0 (sg_zero.1 h))]
    · refine sum_tr hj fun k hk => ?_
      unfold addW
      rw [cond_tr hd]
      split
      · rename_i hc
        have hb : s.testBit k = true := by simp only [condB, Bool.and_eq_true] at hc; exact hc.1
        rw [← sg_sub (by omega) hs hb]
        exact ih _ (bit_sub hb) (b63_le (Nat.sub_le _ _) hs)
      · rfl
end
def ordN (ls : List Ln) : Int := val ls (2 ^ ls.length - 1)
theorem ordn_swap (ls : List Ln) (hn : ls.length ≤ 10) (k : Int) : ordN (swapL ls k) = ordN ls := by
  rcases Bool.eq_false_or_eq_true (canSwapB ls k) with h | h
  · obtain ⟨pre, a, c, post, e1, hd, e2⟩ := swap_form h
    rw [e2]
    subst e1
    have hj : pre.length + 1 < (pre ++ a :: c :: post).length := by simp
    unfold ordN
    have hl : (pre ++ c :: a :: post).length = (pre ++ a :: c :: post).length := by simp
    rw [hl]
    have := val_tr hd hn (2 ^ (pre ++ a :: c :: post).length - 1) (full_63 hn)
    have e : sg pre.length (2 ^ (pre ++ a :: c :: post).length - 1) = 2 ^ (pre ++ a :: c :: post).length - 1 := by
      unfold sg
      rw [if_pos]
      rw [full_bit, full_bit]
      simp
    rw [e] at this
    exact this
  · rw [swapL_no h]
theorem ordn_swaps (l : List Ln) (hn : l.length ≤ 10) (ks : List Int) : ordN (swaps l ks) = ordN l := by
  unfold swaps
  induction ks generalizing l with
  | nil => rfl
  | cons k ks ih => rw [List.foldl_cons, ih _ (by rw [swapL_length]; exact hn), ordn_swap l hn]
theorem ordn_pos {l : List Ln} (hn : l.length ≤ 10) : 1 ≤ ordN l := val_full hn l.length (Nat.le_refl _)
theorem ordn_le {l : List Ln} (hn : l.length ≤ 10) : ordN l ≤ 10000000000 := by
  have h := (val_exact l hn _ (full_63 hn)).1.2
  have := tenN_le (c := bc (2 ^ l.length - 1) l.length) (by have := bc_le (2 ^ l.length - 1) l.length; omega)
  unfold ordN
  omega

/-! ### What must precede -/
theorem must_disturb {ls : List Ln} {i k : Nat} {x y : Ln} (hik : i < k) (hx : ls[i]? = some x) (hy : ls[k]? = some y) (h : disturbB x y = true) : mustB ls i k = true := by
  have hk : k < ls.length := (List.getElem?_eq_some_iff.1 hy).1
  rw [mustB_yes hik hk]
  have hL : (mpL ls i k).getD i false = true := by
    obtain ⟨d, rfl⟩ : ∃ d, k = i + 1 + d := ⟨k - (i + 1), by omega⟩
    clear hik hk hy
    have key : ∀ d, (mpL ls i (i + 1 + d))[i]? = some true := by
      intro d
      induction d with
      | zero => rw [Nat.add_zero, mpL_start]; simp
      | succ d ih => rw [show i + 1 + (d + 1) = (i + 1 + d) + 1 by omega, mpL_next (by omega), List.getElem?_append_left (by rw [mpL_length]; omega)]; exact ih
    rw [List.getD_eq_getElem?_getD, key]
    rfl
  have hit : accB (mpL ls i k) ls i k (i + 1) = true := by
    rw [accB, hL]
    simp [List.getD_eq_getElem?_getD, hx, hy, h]
  have up : ∀ d, accB (mpL ls i k) ls i k (i + 1 + d) = true := by
    intro d
    induction d with
    | zero => exact hit
    | succ d ih => rw [show i + 1 + (d + 1) = (i + 1 + d) + 1 by omega, accB, ih]; rfl
  have := up (k - (i + 1))
  rwa [show i + 1 + (k - (i + 1)) = k by omega] at this
/-- Nothing must precede: more than one order. -/
theorem ordn_free {l : List Ln} (hn : l.length ≤ 10) (h2 : 2 ≤ l.length) (hf : ∀ i k : Nat, i < k → k < l.length → mustB l i k = false) : 2 ≤ ordN l := by
  refine val_two hn (m := l.length - 2) (by omega) ?_
  have hx : l[l.length - 2]? = some l[l.length - 2] := List.getElem?_eq_getElem (by omega)
  have hy : l[l.length - 2 + 1]? = some l[l.length - 2 + 1] := List.getElem?_eq_getElem (by omega)
  rw [List.getD_eq_getElem?_getD, List.getD_eq_getElem?_getD, hx, hy]
  simp only [Option.getD_some]
  cases hd : disturbB l[l.length - 2] l[l.length - 2 + 1] with
  | false => rfl
  | true =>
    have := must_disturb (by omega) hx hy hd
    rw [hf _ _ (by omega) (by omega)] at this
    cases this
theorem same_swaps {l : List Ln} (hn : l.length ≤ 10) (ks : List Int) : sameB l (swaps l ks) = true ∧ sameB (swaps l ks) l = true := by
  have hl := swaps_len l ks
  have h := swaps_nf l ks
  constructor
  · rw [sameB_yes hn (by omega) hl.symm]
    exact linB_iff.2 (lin_iff.2 h.symm)
  · rw [sameB_yes (by omega) hn hl]
    exact linB_iff.2 (lin_iff.2 h)
theorem same_nil {l : List Ln} (hn : l.length ≤ 10) : sameB l [] = decide (l.length = 0) := by
  by_cases h : l.length = 0
  · rw [sameB_yes hn (by simp) (by simp [h])]; rfl
  · rw [sameB_no (by rintro ⟨_, _, h3⟩; exact h h3)]; simp [h]
theorem ordn_nil {l : List Ln} (h : l.length = 0) : ordN l = 1 := by
  have : l = [] := List.eq_nil_of_length_eq_zero h
  subst this
  exact val_zero []
end Go.Proofs.Ytbcgokpamhgabaa

/- What the counted games of a small puzzle are: the facts for the walk of FnCounts. What the walk of FnCounts needs of the counted games, in one place. -/
import Derived.Test.YtbcgokpamhgabaaChecked
import Derived.Test.YtbcgokpamhgabaaKc01
import Derived.Tactics
import Derived.Tactics2
import Derived.WalkKit
import Derived.WalkSpells
import Derived.WalkLawsBesides
import Derived.Deep.QuietTactic
import Derived.BigQuiet
import Derived.BigGuardPart
import Derived.Lib.QuietBelow
import Derived.OwnWalk
import Derived.KernelRfl
import Derived.Test.YtbcgokpamhgabaaKc36
import Derived.Test.YtbcgokpamhgabaaKc40
import Derived.Test.YtbcgokpamhgabaaKc41
import Derived.Test.YtbcgokpamhgabaaKc27
namespace Go.Proofs.Ytbcgokpamhgabaa
set_option linter.unusedVariables false
set_option maxRecDepth 20000
open Go.RowKit Go.Sort

theorem popc_some {s : Nat} (h1 : 1 ≤ s) (h2 : s < 2 ^ 49) : 1 ≤ popc s := by
  by_cases h : popc s = 0
  · have hn : bitsOf s 49 = [] := List.length_eq_zero_iff.1 h
    have : s = 0 := by
      apply Nat.eq_of_testBit_eq
      intro i
      rw [Nat.zero_testBit, Bool.eq_false_iff]
      intro hb
      have := bits_mem.2 ⟨bit_lt h2 hb, hb⟩
      rw [hn] at this
      cases this
    omega
  · omega
theorem sum_take_le {α : Type} (f : α → Nat) : ∀ (l : List α) (m : Nat), ((l.take m).map f).sum ≤ (l.map f).sum
  | [], m => by simp
  | x :: l, 0 => by simp
  | x :: l, m + 1 => by
    have := sum_take_le f l m
    rw [List.take_succ_cons, List.map_cons, List.sum_cons, List.map_cons, List.sum_cons]
    omega
theorem sum_take_next {α : Type} (f : α → Nat) {l : List α} {m : Nat} {x : α} (h : l[m]? = some x) : ((l.take (m + 1)).map f).sum = ((l.take m).map f).sum + f x := by
  rw [List.take_add_one, h]
  simp [List.map_append, List.sum_append]
section
variable {x y s p g : Nat} (hb : BdOk x y s) (h12 : x * y ≤ 12) (hP : posB ⟨x, y, s⟩ p = true) (hG : posB ⟨x, y, s⟩ g = true)
include hb h12 hP hG
theorem pair_on : pairB ⟨x, y, s⟩ p g = true := by
  simp [pairB, small_of hb (show x * y ≤ 16 by omega), hP, hG]
theorem cnt_on : cntG ⟨x, y, s⟩ p g = (waysN (linesL ⟨x, y, s⟩) g (-1) p : Nat) := by
  rw [cntG, if_pos (pair_on hb h12 hP hG), Int.toNat_natCast, ways_nat (few_of hb) (ln49s hb) g (-1) (pop16 hb (by omega) hP)]
omit hG in
theorem ways_bd : waysN (linesL ⟨x, y, s⟩) g (-1) p ≤ 4611686018427387904 := waysN_le (few_of hb) (ln49s hb) g (-1) (pop16 hb (by omega) hP)
theorem at_on {i : Nat} (hi : i < waysN (linesL ⟨x, y, s⟩) g (-1) p) : gameB ⟨x, y, s⟩ p g i = true ∧ gameL ⟨x, y, s⟩ p g i = gameG (waysN (linesL ⟨x, y, s⟩) g (-1)) (linesL ⟨x, y, s⟩) g p i := by
  have h1 : gameB ⟨x, y, s⟩ p g i = true := by
    rw [gameB, cnt_on hb h12 hP hG]
    exact inB_iff.2 ⟨by omega, by omega⟩
  exact ⟨h1, by rw [gameL, if_pos h1, Int.toNat_natCast, Int.toNat_natCast, Int.toNat_natCast]⟩
theorem at_off : gameB ⟨x, y, s⟩ p g (waysN (linesL ⟨x, y, s⟩) g (-1) p : Nat) = false := by
  rw [gameB, cnt_on hb h12 hP hG, Bool.eq_false_iff]
  intro h
  have := (inB_iff.1 h).2
  omega
omit hG in
theorem idx_on {i : Nat} (hi : i < waysN (linesL ⟨x, y, s⟩) g (-1) p) : indexI ⟨x, y, s⟩ p g (gameG (waysN (linesL ⟨x, y, s⟩) g (-1)) (linesL ⟨x, y, s⟩) g p i) = i := by
  have h16 := pop16 hb (show x * y ≤ 16 by omega) hP
  have hbd := ways_bd (g := g) hb h12 hP
  rw [indexI, if_pos (by rw [small_of hb (show x * y ≤ 16 by omega), game_sol hb (by omega) hP hi]; rfl), Int.toNat_natCast, accI_accS _ _ _ _ _ (Nat.le_refl _), List.take_length]
  have := idx_game (ln49s hb) g (linesL_nodup hb) (F := ways (linesL ⟨x, y, s⟩) g (-1)) (fun z hz => ways_nat (few_of hb) (ln49s hb) g (-1) hz) _ p i 0 rfl h16 hi (by omega)
  rw [Int.natCast_zero] at this
  rw [this]
  omega
theorem use_on (k : Nat) : 0 ≤ useI ⟨x, y, s⟩ p g k ∧ useI ⟨x, y, s⟩ p g k ≤ (waysN (linesL ⟨x, y, s⟩) g (-1) p : Nat) ∧
    ∀ i, i < waysN (linesL ⟨x, y, s⟩) g (-1) p → (∃ j ∈ gameG (waysN (linesL ⟨x, y, s⟩) g (-1)) (linesL ⟨x, y, s⟩) g p i, j.t = (k : Int)) → 1 ≤ useI ⟨x, y, s⟩ p g k := by
  have h16 := pop16 hb (show x * y ≤ 16 by omega) hP
  have h49 := ln49s hb
  have hle := waysA_le h49 g (k : Int) _ p rfl
  have hlt := fun i => waysA_lt h49 g (k : Int) _ p i rfl
  have hbd := ways_bd (g := g) hb h12 hP
  rcases Bool.eq_false_or_eq_true (holeB ⟨x, y, s⟩ k) with hk | hk
  · have e : useI ⟨x, y, s⟩ p g k = ((waysN (linesL ⟨x, y, s⟩) g (-1) p - waysN (linesL ⟨x, y, s⟩) g k p : Nat) : Int) := by
      rw [useI, pair_on hb h12 hP hG, hk, if_pos (by rfl), Int.toNat_natCast, ways_nat (few_of hb) h49 g (-1) h16, ways_nat (few_of hb) h49 g k h16, IntKind.wrap_i64]
      omega
    rw [e]
    refine ⟨by omega, by omega, fun i hi hj => ?_⟩
    have := hlt i hi hj
    omega
  · have e : useI ⟨x, y, s⟩ p g k = 0 := by rw [useI, hk]; simp
    rw [e]
    refine ⟨by omega, by omega, fun i hi hj => ?_⟩
    exfalso
    obtain ⟨j, hj, ht⟩ := hj
    have hm : j ∈ linesL ⟨x, y, s⟩ := by
      have hpl := (game_plays hb g _ p i rfl hP hi).1
      obtain ⟨q, e, hs⟩ := posB_nat hP
      obtain rfl : p = q := by omega
      have := (plays_of hb _ p hs hpl).1
      obtain ⟨m, hm1⟩ := List.mem_iff_getElem?.1 hj
      exact (this.at hm1).1
    obtain ⟨f, o, t, K⟩ := linesL_ok hb hm
    have h1 := holeB_lt hb K.ts
    have h2 : (t : Int) = (k : Int) := by rw [← ht, K.eq]
    rw [h2, hk] at h1
    cases h1
omit h12 hP hG in
theorem lead_on (hl : Leads (linesL ⟨x, y, s⟩) p g) : 1 ≤ waysN (linesL ⟨x, y, s⟩) g (-1) p := waysN_pos (ln49s hb) g hl
/-- The games that begin with each jump, added up. -/
theorem jumps_on : ((jumpsL ⟨x, y, s⟩ p).map fun l => waysN (linesL ⟨x, y, s⟩) g (-1) (flip p l)).sum ≤ 4611686018427387904 ∧
    (p ≠ g → ((jumpsL ⟨x, y, s⟩ p).map fun l => waysN (linesL ⟨x, y, s⟩) g (-1) (flip p l)).sum = waysN (linesL ⟨x, y, s⟩) g (-1) p) ∧
    ∀ l ∈ jumpsL ⟨x, y, s⟩ p, doP ⟨x, y, s⟩ p l = (flip p l : Nat) ∧ posB ⟨x, y, s⟩ (flip p l : Nat) = true ∧ cntG ⟨x, y, s⟩ (flip p l : Nat) g = (waysN (linesL ⟨x, y, s⟩) g (-1) (flip p l) : Nat) := by
  have h49 := ln49s hb
  have e : ((jumpsL ⟨x, y, s⟩ p).map fun l => waysN (linesL ⟨x, y, s⟩) g (-1) (flip p l)).sum = sumG (waysN (linesL ⟨x, y, s⟩) g (-1)) p (linesL ⟨x, y, s⟩) := by
    rw [jumpsL, if_pos hP, Int.toNat_natCast, sumG]
  refine ⟨?_, fun hne => ?_, fun l hl => ?_⟩
  · rw [e]; exact sumG_le h49 g (few_of hb) p (pop16 hb (by omega) hP)
  · rw [e, waysN_sum h49 (by omega)]
  · obtain ⟨h1, -, -, h4⟩ := jump_on hb hP hl (.refl p)
    exact ⟨h1, h4, cnt_on hb h12 h4 hG⟩
end
theorem cnt_self {x y s p : Nat} (hb : BdOk x y s) (h12 : x * y ≤ 12) (hP : posB ⟨x, y, s⟩ p = true) : cntG ⟨x, y, s⟩ p p = 1 := by
  rw [cnt_on hb h12 hP hP, waysN_goal rfl]; rfl
theorem all_on {x y s p : Nat} (hb : BdOk x y s) (h12 : x * y ≤ 12) (hP : posB ⟨x, y, s⟩ p = true) : 1 ≤ cntA ⟨x, y, s⟩ p := by
  have h16 := pop16 hb (show x * y ≤ 16 by omega) hP
  rw [cntA, if_pos (by rw [small_of hb (show x * y ≤ 16 by omega), hP]; rfl), Int.toNat_natCast, ways_nat (few_of hb) (ln49s hb) (-1) (-1) h16]
  have := all_pos (ln49s hb) _ p rfl
  omega
end Go.Proofs.Ytbcgokpamhgabaa
namespace Go.Proofs.Ytbcgokpamhgabaa
set_option linter.unusedVariables false
set_option maxRecDepth 20000
open Go.RowKit Go.Sort

theorem counts_law {x y s p g : Nat} (hb : BdOk x y s) (h12 : x * y ≤ 12) (hP : posB ⟨x, y, s⟩ p = true) (hG : posB ⟨x, y, s⟩ g = true) (hl : Leads (linesL ⟨x, y, s⟩) p g) :
    ∃ (n hn ca : Nat) (w0 : List Ln) (f : Ln → Nat), 1 ≤ n ∧ n ≤ 4611686018427387904 ∧ 1 ≤ hn ∧ hn ≤ 49 ∧ popc s = hn ∧
      cntG ⟨x, y, s⟩ p g = n ∧ cntG ⟨x, y, s⟩ p p = 1 ∧ gameB ⟨x, y, s⟩ p g n = false ∧
      (gameB ⟨x, y, s⟩ p g 0 = true ∧ gameL ⟨x, y, s⟩ p g 0 = w0 ∧ w0.length ≤ 16 ∧ gameG (waysN (linesL ⟨x, y, s⟩) g (-1)) (linesL ⟨x, y, s⟩) g p 0 = w0) ∧
      (∀ i : Nat, i < n → ∃ js, gameB ⟨x, y, s⟩ p g i = true ∧ gameL ⟨x, y, s⟩ p g i = js ∧ js.length ≤ 16 ∧ solB ⟨x, y, s⟩ p g js = true ∧ indexI ⟨x, y, s⟩ p g js = i ∧
        ∀ k : Nat, ∃ u : Nat, useI ⟨x, y, s⟩ p g k = u ∧ u ≤ n ∧ ((∃ j ∈ js, j.t = (k : Int)) → 1 ≤ u)) ∧
      ((jumpsL ⟨x, y, s⟩ p).map f).sum ≤ 4611686018427387904 ∧ (p ≠ g → ((jumpsL ⟨x, y, s⟩ p).map f).sum = n) ∧
      (∀ l ∈ jumpsL ⟨x, y, s⟩ p, doP ⟨x, y, s⟩ p l = (flip p l : Nat) ∧ posB ⟨x, y, s⟩ (flip p l : Nat) = true ∧ cntG ⟨x, y, s⟩ (flip p l : Nat) g = (f l : Nat)) ∧
      cntA ⟨x, y, s⟩ p = ca ∧ 1 ≤ ca := by
  have h49 := ln49s hb
  have h16 := pop16 hb (show x * y ≤ 16 by omega) hP
  have hn1 := lead_on (g := g) hb hl
  have ha := all_on hb h12 hP
  obtain ⟨j1, j2, j3⟩ := jumps_on hb h12 hP hG
  have hs49 : s < 2 ^ 49 := Nat.lt_of_lt_of_le hb.s2 (Nat.pow_le_pow_right (n := 2) (by omega) (by omega))
  have hlen : ∀ i, i < waysN (linesL ⟨x, y, s⟩) g (-1) p → (gameG (waysN (linesL ⟨x, y, s⟩) g (-1)) (linesL ⟨x, y, s⟩) g p i).length ≤ 16 := fun i hi => Nat.le_trans (game_len h49 g _ p i rfl hi) h16
  obtain ⟨z1, z2⟩ := at_on hb h12 hP hG (i := 0) (by omega)
  refine ⟨waysN (linesL ⟨x, y, s⟩) g (-1) p, popc s, (cntA ⟨x, y, s⟩ p).toNat, _, fun l => waysN (linesL ⟨x, y, s⟩) g (-1) (flip p l), hn1, ways_bd hb h12 hP, popc_some (hb.s1) hs49, popc_le s hs49 (by omega), rfl,
    cnt_on hb h12 hP hG, cnt_self hb h12 hP, at_off hb h12 hP hG, ⟨z1, z2, hlen 0 (by omega), rfl⟩, ?_, j1, j2, j3, by omega, by omega⟩
  intro i hi
  obtain ⟨a1, a2⟩ := at_on hb h12 hP hG hi
  refine ⟨_, a1, a2, hlen i hi, game_sol hb (by omega) hP hi, idx_on hb h12 hP hi, fun k => ?_⟩
  obtain ⟨u0, u1, u2⟩ := use_on hb h12 hP hG k
  refine ⟨(useI ⟨x, y, s⟩ p g k).toNat, by omega, by omega, fun hj => ?_⟩
  have := u2 i hi hj
  omega
end Go.Proofs.Ytbcgokpamhgabaa

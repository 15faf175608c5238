/- Turns and mirrors keep the number of pegs and of jumps; the least form is the same for all images. The plain law of FnSymmetry; no program in sight. -/
import Derived.Test.YtbcgokpamhgabaaLeastP
import Derived.Test.YtbcgokpamhgabaaJumpP
import Derived.Test.YtbcgokpamhgabaaOnesP
set_option linter.unusedVariables false
namespace Go.Proofs.Ytbcgokpamhgabaa

theorem bits_nodup (s n : Nat) : (bitsOf s n).Nodup := (List.nodup_range).filter _
theorem moved_at {g : Nat → Nat} {s n k : Nat} (hi : ∀ i j, i < n → j < n → g i = g j → i = j) (hk : k < n) : (moved g s n).testBit (g k) = s.testBit k := by
  rw [Bool.eq_iff_iff, moved_test]
  constructor
  · rintro ⟨j, h1, h2, h3⟩
    rw [← hi j k h1 hk h3]; exact h2
  · intro h; exact ⟨k, hk, h, rfl⟩
theorem popc_moved {g : Nat → Nat} {s n : Nat} (hn : n ≤ 49) (hs : s < 2 ^ n) (hg : ∀ k, k < n → g k < n) (hi : ∀ i j, i < n → j < n → g i = g j → i = j) : popc (moved g s n) = popc s := by
  have e1 : bitsOf (moved g s n) 49 = bitsOf (moved g s n) n := by
    have := bits_stop (moved_lt (s := s) hg) (49 - n)
    rwa [show n + (49 - n) = 49 by omega] at this
  have e2 : bitsOf s 49 = bitsOf s n := by
    have := bits_stop hs (49 - n)
    rwa [show n + (49 - n) = 49 by omega] at this
  unfold popc
  rw [e1, e2, ← List.length_map (f := g) (as := bitsOf s n)]
  refine List.Perm.length_eq ((List.perm_ext_iff_of_nodup (bits_nodup _ _) ?_).2 fun x => ?_)
  · unfold List.Nodup
    rw [List.pairwise_map]
    refine (bits_nodup s n).imp_of_mem fun {a b} ha hb hab e => hab (hi a b (bits_mem.1 ha).1 (bits_mem.1 hb).1 e)
  · rw [bits_mem, moved_test, List.mem_map]
    constructor
    · rintro ⟨h1, k, h2, h3, h4⟩; exact ⟨k, bits_mem.2 ⟨h2, h3⟩, h4⟩
    · rintro ⟨k, hk, rfl⟩
      obtain ⟨h2, h3⟩ := bits_mem.1 hk
      exact ⟨hg k h2, k, h2, h3, rfl⟩

/-- A full board. -/
def fullS (n : Nat) : Nat := 2 ^ n - 1
theorem full_bit (n k : Nat) : (fullS n).testBit k = decide (k < n) := Nat.testBit_two_pow_sub_one n k
theorem bes_full {w h s k way : Nat} (hs : s < 2 ^ (w * h)) :
    bes w h s k way = if 0 ≤ bes w h (fullS (w * h)) k way then (if s.testBit (bes w h (fullS (w * h)) k way).toNat then bes w h (fullS (w * h)) k way else -1) else -1 := by
  unfold bes
  generalize hx : (((k % w : Nat) : Int) + dx way) = x
  generalize hy : (((k / w : Nat) : Int) + dy way) = y
  unfold atB
  rw [full_bit]
  by_cases h1 : 0 ≤ x ∧ x ≤ (w : Int) - 1
  · by_cases h2 : 0 ≤ y ∧ y ≤ (h : Int) - 1
    · rw [decide_eq_true h1, decide_eq_true h2, Bool.true_and, Bool.true_and, Bool.true_and, Bool.true_and]
      by_cases h3 : (y * w + x).toNat < w * h
      · have h4 : 0 ≤ y * w + x := Int.add_nonneg (Int.mul_nonneg h2.1 (Int.natCast_nonneg _)) h1.1
        rw [decide_eq_true h3, if_pos rfl, if_pos h4]
      · have : s.testBit (y * w + x).toNat = false := by
          rw [Bool.eq_false_iff]
          intro hb
          exact h3 (bit_lt hs hb)
        rw [this, decide_eq_false h3]
        simp
    · rw [decide_eq_false h2]; simp
  · rw [decide_eq_false h1]; simp
def okT (s : Nat) (l : Ln) : Bool := s.testBit l.o.toNat && s.testBit l.t.toNat
def okL (s : Nat) (l : Ln) : Bool := s.testBit l.f.toNat && okT s l
theorem lineAt_full {w h s k way : Nat} (hs : s < 2 ^ (w * h)) : (lineAt w h s k way).toList = (lineAt w h (fullS (w * h)) k way).toList.filter (okT s) := by
  unfold lineAt
  by_cases h1 : 0 ≤ bes w h (fullS (w * h)) k way
  · rw [if_neg (show ¬ bes w h (fullS (w * h)) k way < 0 by omega)]
    rcases Bool.eq_false_or_eq_true (s.testBit (bes w h (fullS (w * h)) k way).toNat) with h2 | h2
    · have e : bes w h s k way = bes w h (fullS (w * h)) k way := by rw [bes_full hs, if_pos h1, if_pos h2]
      rw [e, if_neg (show ¬ bes w h (fullS (w * h)) k way < 0 by omega)]
      generalize bes w h (fullS (w * h)) k way = m at *
      by_cases h3 : 0 ≤ bes w h (fullS (w * h)) m.toNat way
      · rw [if_neg (show ¬ bes w h (fullS (w * h)) m.toNat way < 0 by omega)]
        rcases Bool.eq_false_or_eq_true (s.testBit (bes w h (fullS (w * h)) m.toNat way).toNat) with h4 | h4
        · have e : bes w h s m.toNat way = bes w h (fullS (w * h)) m.toNat way := by rw [bes_full hs, if_pos h3, if_pos h4]
          rw [e, if_neg (show ¬ bes w h (fullS (w * h)) m.toNat way < 0 by omega)]
          simp [okT, h2, h4]
        · have e : bes w h s m.toNat way = -1 := by rw [bes_full hs, if_pos h3, h4]; simp
          rw [e]
          simp [okT, h2, h4]
      · have e : bes w h s m.toNat way = -1 := by rw [bes_full hs, if_neg h3]
        rw [e, if_pos (show bes w h (fullS (w * h)) m.toNat way < 0 by omega)]
        simp
    · have e : bes w h s k way = -1 := by rw [bes_full hs, if_pos h1, h2]; simp
      rw [e]
      rw [if_pos (show (-1 : Int) < 0 by omega)]
      generalize bes w h (fullS (w * h)) k way = m at *
      split
      · simp
      · simp [okT, h2]
  · have e : bes w h s k way = -1 := by rw [bes_full hs, if_neg h1]
    rw [e, if_pos (show bes w h (fullS (w * h)) k way < 0 by omega)]
    simp
theorem ways_full {w h s k : Nat} (hs : s < 2 ^ (w * h)) : ∀ n, waysL w h s k n = (waysL w h (fullS (w * h)) k n).filter (okT s)
  | 0 => rfl
  | n + 1 => by rw [waysL, waysL, List.filter_append, ways_full hs n, lineAt_full hs]
theorem ways_from {w h s k : Nat} : ∀ n, ∀ l ∈ waysL w h s k n, l.f = k
  | 0 => by intro l hl; cases hl
  | n + 1 => by
    intro l hl
    rw [waysL, List.mem_append] at hl
    rcases hl with hl | hl
    · exact ways_from n l hl
    · rw [Option.mem_toList] at hl
      unfold lineAt at hl
      split at hl
      · cases hl
      · split at hl
        · cases hl
        · obtain rfl := (Option.some.inj hl); rfl
theorem lines_full {w h s : Nat} (hs : s < 2 ^ (w * h)) : ∀ n, linesN w h s (bitsOf s n) = (linesN w h (fullS (w * h)) (List.range n)).filter (okL s) := by
  intro n
  induction n with
  | zero => rfl
  | succ n ih =>
    rw [List.range_succ, linesN_append, List.filter_append, ← ih]
    have e : linesN w h (fullS (w * h)) [n] = waysL w h (fullS (w * h)) n 4 := by simp [linesN]
    rw [e]
    rcases Bool.eq_false_or_eq_true (s.testBit n) with ht | ht
    · rw [bits_yes ht, linesN_append]
      have e' : linesN w h s [n] = waysL w h s n 4 := by simp [linesN]
      rw [e', ways_full hs 4]
      congr 1
      refine List.filter_congr fun l hl => ?_
      rw [okL, ways_from 4 l hl, Int.toNat_natCast, ht, Bool.true_and]
    · rw [bits_no ht]
      have : (waysL w h (fullS (w * h)) n 4).filter (okL s) = [] := by
        rw [List.filter_eq_nil_iff]
        intro l hl
        rw [okL, ways_from 4 l hl, Int.toNat_natCast, ht]
        simp
      rw [this, List.append_nil]
def fullL (w h : Nat) : List Ln := linesN w h (fullS (w * h)) (List.range (w * h))
theorem linesL_full {w h s : Nat} (hb : BdOk w h s) : linesL ⟨w, h, s⟩ = (fullL w h).filter (okL s) := by
  rw [linesL_yes hb, lines_full hb.s2, fullL]
def gL (g : Nat → Nat) (l : Ln) : Ln := ⟨(g l.f.toNat : Nat), (g l.o.toNat : Nat), (g l.t.toNat : Nat)⟩
theorem turn_full : ∀ w, w < 8 → ∀ h, h < 8 → ((fullL w h).map (gL (turnAt w h))).isPerm (fullL h w) = true := by decide +kernel
theorem mir_full : ∀ w, w < 8 → ∀ h, h < 8 → ((fullL w h).map (gL (mirAt w))).isPerm (fullL w h) = true := by decide +kernel
theorem fullL_in {w h : Nat} (hb : 1 ≤ w ∧ w ≤ 7 ∧ 1 ≤ h ∧ h ≤ 7) (l : Ln) (hl : l ∈ fullL w h) : l.f.toNat < w * h ∧ l.o.toNat < w * h ∧ l.t.toNat < w * h := by
  have hw := Nat.mul_le_mul hb.1 hb.2.2.1
  have hF : BdOk w h (fullS (w * h)) := by
    have := Nat.one_lt_two_pow (n := w * h) (by omega)
    exact ⟨by omega, by omega, by omega, by omega, by unfold fullS; omega, by unfold fullS; omega⟩
  have e : bitsOf (fullS (w * h)) (w * h) = List.range (w * h) := by
    unfold bitsOf
    rw [List.filter_eq_self]
    intro k hk
    rw [full_bit]; simpa using hk
  have hl' : l ∈ linesL ⟨w, h, fullS (w * h)⟩ := by rw [linesL_yes hF, e]; exact hl
  obtain ⟨f, o, t, k⟩ := linesL_ok hF hl'
  rw [k.eq]
  exact ⟨by simpa using k.f1, by simpa using k.o1, by simpa using k.t1⟩
theorem jumps_moved {w h w' h' s p : Nat} {g : Nat → Nat} (hb : BdOk w h s) (hb' : BdOk w' h' (moved g s (w * h))) (hi : ∀ i j, i < w * h → j < w * h → g i = g j → i = j)
    (hperm : ((fullL w h).map (gL g)).Perm (fullL w' h')) (hP : posB ⟨w, h, s⟩ p = true) (hP' : posB ⟨w', h', (moved g s (w * h) : Nat)⟩ (moved g p (w * h) : Nat) = true) :
    (jumpsL ⟨w', h', (moved g s (w * h) : Nat)⟩ (moved g p (w * h) : Nat)).length = (jumpsL ⟨w, h, s⟩ p).length := by
  rw [jumpsL, if_pos hP', jumpsL, if_pos hP, linesL_full hb, linesL_full hb', List.filter_filter, List.filter_filter, ← List.countP_eq_length_filter, ← List.countP_eq_length_filter, ← hperm.countP_eq, List.countP_map]
  simp only [Int.toNat_natCast]
  refine List.countP_congr fun l hl => ?_
  obtain ⟨h1, h2, h3⟩ := fullL_in ⟨hb.w1, hb.w7, hb.h1, hb.h7⟩ l hl
  simp only [Function.comp_apply, okL, okT, canJ, gL, Int.toNat_natCast, moved_at hi h1, moved_at hi h2, moved_at hi h3]
end Go.Proofs.Ytbcgokpamhgabaa

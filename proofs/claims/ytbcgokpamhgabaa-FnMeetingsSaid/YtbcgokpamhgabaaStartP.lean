/- Small facts about small boards: lines below 49, what is reached, a jump from a position. No program in sight. -/
import Derived.Test.YtbcgokpamhgabaaLeadP
import Derived.Test.YtbcgokpamhgabaaPlayP
set_option linter.unusedVariables false
namespace Go.Proofs.Ytbcgokpamhgabaa
open Go.RowKit

theorem ln49s {w h s : Nat} (hb : BdOk w h s) : ∀ l ∈ linesL ⟨w, h, s⟩, Ln49 l := fun l hl => by
  obtain ⟨f, o, t, hl⟩ := linesL_ok hb hl
  have := hb.area
  exact ⟨f, o, t, hl.1, by have := hl.f1; omega, by have := hl.o1; omega, by have := hl.t1; omega, hl.ft, hl.ot, hl.fo⟩
theorem small_of {w h s : Nat} (hb : BdOk w h s) (h16 : w * h ≤ 16) : smallB ⟨w, h, s⟩ = true := by
  have hB := posB_board (posB_of hb (q := 0) (by simp))
  have h2 : (w : Int) * h ≤ 16 := by rw [← Int.natCast_mul]; omega
  simp only [smallB, hB, Bool.true_and, decide_eq_true_eq]
  exact h2
theorem reach_leads {w h s : Nat} {p : Nat} (hb : BdOk w h s) (h16 : w * h ≤ 16) (hP : posB ⟨w, h, s⟩ p = true) (x : Nat) : x ∈ reachL ⟨w, h, s⟩ p false ↔ Leads (linesL ⟨w, h, s⟩) p x := by
  obtain ⟨q, hq, hs⟩ := posB_nat hP
  obtain rfl : p = q := by omega
  rw [reachL_mem (small_of hb h16) hP, bfs_fwd (posB_lt hb hs) (stays_of hb)]
theorem jump_on {w h s : Nat} {p q : Nat} {l : Ln} (hb : BdOk w h s) (hQ : posB ⟨w, h, s⟩ q = true) (hl : l ∈ jumpsL ⟨w, h, s⟩ q) (hp : Leads (linesL ⟨w, h, s⟩) p q) :
    doP ⟨w, h, s⟩ q l = (flip q l : Nat) ∧ Leads (linesL ⟨w, h, s⟩) p (flip q l) ∧ popc (flip q l) + 1 = popc q ∧ posB ⟨w, h, s⟩ (flip q l : Nat) = true := by
  have hd := jumps_do hl
  have e := doP_yes hd
  have hl' : l ∈ linesL ⟨w, h, s⟩ ∧ canJ q l = true := by
    rw [jumpsL, if_pos hQ, List.mem_filter, Int.toNat_natCast] at hl
    exact hl
  have := doP_pos (l := l) hQ
  rw [e] at this
  exact ⟨e, hp.tail hl'.1 hl'.2, popc_jump (ln49s hb l hl'.1) hl'.2, this⟩
theorem pop16 {w h s : Nat} {p : Nat} (hb : BdOk w h s) (h16 : w * h ≤ 16) (hP : posB ⟨w, h, s⟩ p = true) : popc p ≤ 16 := by
  obtain ⟨q, hq, hs⟩ := posB_nat hP
  obtain rfl : p = q := by omega
  exact Nat.le_trans (popc_le p (posB_lt hb hs) (by have := hb.area; omega)) h16
end Go.Proofs.Ytbcgokpamhgabaa

/- The contracts of IsSmall, CountHoles, CountStuck. -/
import Derived.Test.YtliljgmpdfdakaaChecked
import Derived.Test.YtliljgmpdfdakaaMem
import Derived.Tactics
import Derived.Tactics2
import Derived.WalkKit
import Derived.WalkSpells
import Derived.WalkLawsBesides
import Derived.Deep.QuietTactic
import Derived.BigQuiet
import Derived.BigGuardPart
import Derived.Lib.QuietBelow
import Derived.OwnWalk
import Derived.KernelRfl
import Derived.Test.YtliljgmpdfdakaaJumpB
import Derived.Test.YtliljgmpdfdakaaOnes
set_option linter.unusedVariables false
set_option maxRecDepth 20000
namespace Go.Proofs.Ytliljgmpdfdakaa
open Go.RowKit Go.Sort

theorem smallB_nat {b : Ln} (h : smallB b = true) : ∃ w h s : Nat, b = ⟨w, h, s⟩ ∧ BdOk w h s ∧ w * h ≤ 16 ∧ s < 65536 := by
  simp only [smallB, Bool.and_eq_true, decide_eq_true_eq] at h
  obtain ⟨h1, h2⟩ := h
  obtain ⟨w, h, s, rfl, hb⟩ := boardB_nat h1
  have h3 : w * h ≤ 16 := by
    have : (w : Int) * h ≤ 16 := h2
    rw [← Int.natCast_mul] at this
    omega
  exact ⟨w, h, s, rfl, hb, h3, Nat.lt_of_lt_of_le hb.s2 (show 2 ^ (w * h) ≤ 2 ^ 16 from Nat.pow_le_pow_right (by omega) h3)⟩
theorem smallB_no {b : Ln} (h : boardB b = false) : smallB b = false := by simp [smallB, h]
theorem iIsSmall_ (b : Ln) (W : World) :
    Calls Try.prog 44 #[.agg #[.int .i64 b.f, .int .i64 b.o, .int .i64 b.t]] W fun e w' => e = .returned (.bool (smallB b)) ∧ Below W.heap.size W w' := by
  rcases Bool.eq_false_or_eq_true (boardB b) with hB | hB
  · obtain ⟨w, h, s, rfl, hb⟩ := boardB_nat hB
    obtain ⟨m1, m2, m3⟩ := area_bounds hb.w1 hb.w7 hb.h1 hb.h7
    have H := Lib.hid (show decide ((w : Int) * h ≤ 16) = smallB ⟨w, h, s⟩ by simp only [smallB, hB, Bool.true_and])
    go_enter Try.func44, Try.ntmps44
    go_wp2_with (first | (go_at_call 75; refine (is_ (iBoardOk_ _ _) hB).mono ?_; rintro e w1 ⟨rfl, hb1⟩; obtain ⟨hc, hf⟩ := bcell hb1; have hz0 : W.heap.size < w1.heap.size := (by have := hb1.size; (try simp at this); omega); have hw1 : Below W.heap.size W w1 := below_step ((Below.refl _ _).alloc (Nat.le_refl _) _) hb1 (by (try simp))))
    go_ret
    exact ⟨ret_bool H.out, hw1⟩
  · have H := Lib.hid (smallB_no hB)
    go_enter Try.func44, Try.ntmps44
    go_wp2_with (first | (go_at_call 75; refine (is_ (iBoardOk_ _ _) hB).mono ?_; rintro e w1 ⟨rfl, hb1⟩; obtain ⟨hc, hf⟩ := bcell hb1; have hz0 : W.heap.size < w1.heap.size := (by have := hb1.size; (try simp at this); omega); have hw1 : Below W.heap.size W w1 := below_step ((Below.refl _ _).alloc (Nat.le_refl _) _) hb1 (by (try simp))))
    go_ret
    exact ⟨ret_bool H.out.symm, hw1⟩
theorem sIsSmall_ (b : Ln) (W : World) :
    Calls Try.prog 41 #[.agg #[.int .i64 b.f, .int .i64 b.o, .int .i64 b.t]] W fun e w' => e = .returned (.bool (smallB b)) ∧ Below W.heap.size W w' := by
  rcases Bool.eq_false_or_eq_true (boardB b) with hB | hB
  · obtain ⟨w, h, s, rfl, hb⟩ := boardB_nat hB
    obtain ⟨m1, m2, m3⟩ := area_bounds hb.w1 hb.w7 hb.h1 hb.h7
    have H := Lib.hid (show decide ((w : Int) * h ≤ 16) = smallB ⟨w, h, s⟩ by simp only [smallB, hB, Bool.true_and])
    go_enter Try.func41, Try.ntmps41
    go_wp2_with (first | (go_at_call 71; refine (is_ (sBoardOk_ _ _) hB).mono ?_; rintro e w1 ⟨rfl, hb1⟩; obtain ⟨hc, hf⟩ := bcell hb1; have hz0 : W.heap.size < w1.heap.size := (by have := hb1.size; (try simp at this); omega); have hw1 : Below W.heap.size W w1 := below_step ((Below.refl _ _).alloc (Nat.le_refl _) _) hb1 (by (try simp))))
    go_ret
    exact ⟨ret_bool H.out, hw1⟩
  · have H := Lib.hid (smallB_no hB)
    go_enter Try.func41, Try.ntmps41
    go_wp2_with (first | (go_at_call 71; refine (is_ (sBoardOk_ _ _) hB).mono ?_; rintro e w1 ⟨rfl, hb1⟩; obtain ⟨hc, hf⟩ := bcell hb1; have hz0 : W.heap.size < w1.heap.size := (by have := hb1.size; (try simp at this); omega); have hw1 : Below W.heap.size W w1 := below_step ((Below.refl _ _).alloc (Nat.le_refl _) _) hb1 (by (try simp))))
    go_ret
    exact ⟨ret_bool H.out.symm, hw1⟩
theorem sCountHoles_ (w h s : Nat) (hb : BdOk w h s) (W : World) :
    Calls Try.prog 35 #[.agg #[.int .i64 w, .int .i64 h, .int .i64 s]] W fun e w' => e = .returned (.int .i64 (popc s : Nat)) ∧ Below W.heap.size W w' := by
  have H := Lib.hid (show (holesL ⟨w, h, s⟩).length = popc s by rw [holesL_yes hb, popc, bits_49 hb])
  go_enter Try.func35, Try.ntmps35
  go_wp2_with fail
  refine (sHolesOf_ ⟨w, h, s⟩ _).mono ?_
  rintro e w1 ⟨A, c, rfl, rd, hb1⟩
  rw [H.out]
  have hw1 : Below W.heap.size W w1 := below_step ((Below.refl _ _).alloc (Nat.le_refl _) _) hb1 (by (try simp))
  go_wp2
  go_ret
  exact ⟨rfl, hw1⟩
def okS (ls : List Ln) (s p : Nat) : Bool := decide (p &&& s = p) && stuckL ls p
def cntS (ls : List Ln) (s n : Nat) : Nat := ((List.range n).filter (okS ls s)).length
theorem cnt_yes {ls : List Ln} {s n : Nat} (h : okS ls s n = true) : cntS ls s (n + 1) = cntS ls s n + 1 := by simp [cntS, List.range_succ, h]
theorem cnt_no {ls : List Ln} {s n : Nat} (h : okS ls s n = false) : cntS ls s (n + 1) = cntS ls s n := by simp [cntS, List.range_succ, h]
theorem cnt_le (ls : List Ln) (s n : Nat) : cntS ls s n ≤ n := by
  have := List.length_filter_le (okS ls s) (List.range n)
  simpa [cntS] using this
def countStuckF (b : Ln) : Int := if smallB b && decide (popc b.t.toNat ≤ 12) then (cntS (linesL b) b.t.toNat (b.t.toNat + 1) : Nat) else -1
theorem ad_zero (p s : Nat) : (((adiff p s : Nat) : Int) == 0) = decide (p &&& s = p) := by
  rw [Bool.eq_iff_iff]; simp [and_eq_iff]
theorem and_self' (p s : Nat) : (((p &&& s : Nat) : Int) == (p : Int)) = decide (p &&& s = p) := by
  rw [Bool.eq_iff_iff]; simp; omega
end Go.Proofs.Ytliljgmpdfdakaa

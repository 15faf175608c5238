/- The contract of the reference's HasHole. -/
import Derived.Test.YtliljgmpdfdakaaChecked
import Derived.Test.YtliljgmpdfdakaaMem
import Derived.Tactics
import Derived.Tactics2
import Derived.WalkKit
import Derived.WalkSpells
import Derived.WalkLawsBesides
import Derived.Deep.QuietTactic
import Derived.BigQuiet
import Derived.BigGuardPart
import Derived.Lib.QuietBelow
import Derived.OwnWalk
import Derived.KernelRfl
import Derived.Test.YtliljgmpdfdakaaLine
set_option linter.unusedVariables false
set_option maxRecDepth 20000
namespace Go.Proofs.Ytliljgmpdfdakaa
open Go.RowKit Go.Sort

set_option maxHeartbeats 1000000 in
theorem sHasHole_ (b : Ln) (k : Int) (hk : I64 k) (W : World) :
    Calls Try.prog 49 #[.agg #[.int .i64 b.f, .int .i64 b.o, .int .i64 b.t], .int .i64 k] W fun e w' => e = .returned (.bool (holeB b k)) ∧ Below W.heap.size W w' := by
  rcases Bool.eq_false_or_eq_true (boardB b) with hB | hB
  · obtain ⟨w, h, s, rfl, hb⟩ := boardB_nat hB
    have s63 := hb.b63
    have hA := hb.area
    obtain ⟨m1, m2, m3⟩ := area_bounds hb.w1 hb.w7 hb.h1 hb.h7
    rcases Bool.eq_false_or_eq_true (inB k 0 ((w : Int) * h - 1)) with i1 | i1
    · obtain ⟨j, rfl⟩ := Int.eq_ofNat_of_zero_le (inB_iff.1 i1).1
      have jl : j < w * h := by have := (inB_iff.1 i1).2; rw [← Int.natCast_mul] at this; omega
      have hbit := bit_of s j s63
      have H := Lib.hid (show s.testBit j = holeB ⟨w, h, s⟩ j by rw [holeB_nat hb, decide_eq_true jl, Bool.true_and])
      go_enter Try.func49, Try.ntmps49
      go_wp2_with (first | (go_at_call 71; refine (is_ (sBoardOk_ _ _) hB).mono ?_; rintro e w1 ⟨rfl, hb1⟩; obtain ⟨hc, hf⟩ := bcell hb1; have hz0 : W.heap.size < w1.heap.size := (by have := hb1.size; (try simp at this); omega); have hw1 : Below W.heap.size W w1 := below_step ((Below.refl _ _).alloc (Nat.le_refl _) _) hb1 (by (try simp))) | (go_at_call 56; refine (l01In_ _ _ _ _).mono ?_; rintro e w' ⟨rfl, rfl⟩))
      go_ret
      exact ⟨ret_bool H.out, hw1⟩
    · have H := Lib.hid (show holeB ⟨w, h, s⟩ k = false by
        rw [holeB, decide_eq_false (fun hh : 0 ≤ k ∧ k < (w : Int) * h => by rw [inB_iff.2 ⟨hh.1, by omega⟩] at i1; cases i1)]; simp)
      go_enter Try.func49, Try.ntmps49
      go_wp2_with (first | (go_at_call 71; refine (is_ (sBoardOk_ _ _) hB).mono ?_; rintro e w1 ⟨rfl, hb1⟩; obtain ⟨hc, hf⟩ := bcell hb1; have hz0 : W.heap.size < w1.heap.size := (by have := hb1.size; (try simp at this); omega); have hw1 : Below W.heap.size W w1 := below_step ((Below.refl _ _).alloc (Nat.le_refl _) _) hb1 (by (try simp))) | (go_at_call 56; refine (l01In_ _ _ _ _).mono ?_; rintro e w' ⟨rfl, rfl⟩))
      go_ret
      exact ⟨ret_bool H.out.symm, hw1⟩
  · have H := Lib.hid (holeB_no (k := k) hB)
    go_enter Try.func49, Try.ntmps49
    go_wp2_with ((go_at_call 71; refine (is_ (sBoardOk_ _ _) hB).mono ?_; rintro e w1 ⟨rfl, hb1⟩; obtain ⟨hc, hf⟩ := bcell hb1; have hz0 : W.heap.size < w1.heap.size := (by have := hb1.size; (try simp at this); omega); have hw1 : Below W.heap.size W w1 := below_step ((Below.refl _ _).alloc (Nat.le_refl _) _) hb1 (by (try simp))))
    go_ret
    exact ⟨ret_bool H.out.symm, hw1⟩
end Go.Proofs.Ytliljgmpdfdakaa

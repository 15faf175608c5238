/- The contract of laws.has: a search among numbers. The contract of the reference's HasHole. -/
import Derived.Test.YtbcgokpamhgabaaChecked
import Derived.Test.YtbcgokpamhgabaaKb01
import Derived.Tactics
import Derived.Tactics2
import Derived.WalkKit
import Derived.WalkSpells
import Derived.WalkLawsBesides
import Derived.Deep.QuietTactic
import Derived.BigQuiet
import Derived.BigGuardPart
import Derived.Lib.QuietBelow
import Derived.OwnWalk
import Derived.KernelRfl
import Derived.Test.YtbcgokpamhgabaaKb34
import Derived.Test.YtbcgokpamhgabaaKb12
namespace Go.Proofs.Ytbcgokpamhgabaa
set_option linter.unusedVariables false
open Go.RowKit Go.Sort
set_option maxHeartbeats 1000000 in
theorem has_ (xs : List Nat) (n : Nat) (hn : xs.length = n) (A : Option Addr) (c : Nat) (q : Nat) (hq : q ∈ xs) (hm : n ≤ 1048576) (W : World) (rd : Rd W W.heap.size A (ints (natL xs))) :
    Calls Try.prog 65 #[.slice A n c, .int .i64 q] W fun e w' => e = .returned (.bool true) ∧ W = w' := by
  obtain ⟨i, hi⟩ := List.getElem?_of_mem hq
  obtain ⟨hil, -⟩ := List.getElem?_eq_some_iff.1 hi
  have HN := Lib.hid hn
  have HI := Lib.hid hi
  rw [hn] at hil
  clear hn hi hq
  go_enter Try.func65, Try.ntmps65
  go_wp2
  go_loop [5] (fun kv => ∃ k : Nat, k ≤ i ∧ kv = .int .i64 k) (fun kv => n - (intOf kv).toNat)
  case atStart => exact ⟨0, Nat.zero_le _, rfl⟩
  case round =>
    obtain ⟨k, hk, rfl⟩ := hrel
    have hkn : k < n := by omega
    have hx : xs[k]? = some (xs[k]'(by rw [HN.out]; exact hkn)) := List.getElem?_eq_getElem _
    generalize xs[k]'(by rw [HN.out]; exact hkn) = x at hx
    obtain ⟨bb, off, rfl, hbb, x0⟩ := rd_nat rd hx
    rcases Nat.decEq x q with hne | rfl
    · have hki : k ≠ i := fun e => by subst e; rw [HI.out] at hx; injection hx with hx; exact hne hx.symm
      have hd : decide ((x : Int) = (q : Int)) = false := by simp; omega
      clear hx rd
      go_wp2
      go_round
      case rel => exact ⟨k + 1, by omega, by go_num⟩
      case measure => simp [intOf]; omega
    · clear hx rd
      go_wp2
      go_ret
      exact ⟨rfl, rfl⟩
end Go.Proofs.Ytbcgokpamhgabaa
namespace Go.Proofs.Ytbcgokpamhgabaa
set_option linter.unusedVariables false
set_option maxRecDepth 20000
open Go.RowKit Go.Sort

set_option maxHeartbeats 1000000 in
theorem sHasHole_ (b : Ln) (k : Int) (hk : I64 k) (W : World) :
    Calls Try.prog 140 #[.agg #[.int .i64 b.f, .int .i64 b.o, .int .i64 b.t], .int .i64 k] W fun e w' => e = .returned (.bool (holeB b k)) ∧ Below W.heap.size W w' := by
  rcases Bool.eq_false_or_eq_true (boardB b) with hB | hB
  · obtain ⟨w, h, s, rfl, hb⟩ := boardB_nat hB
    have s63 := hb.b63
    have hA := hb.area
    obtain ⟨m1, m2, m3⟩ := area_bounds hb.w1 hb.w7 hb.h1 hb.h7
    rcases Bool.eq_false_or_eq_true (inB k 0 ((w : Int) * h - 1)) with i1 | i1
    · obtain ⟨j, rfl⟩ := Int.eq_ofNat_of_zero_le (inB_iff.1 i1).1
      have jl : j < w * h := by have := (inB_iff.1 i1).2; rw [← Int.natCast_mul] at this; omega
      have hbit := bit_of s j s63
      have H := Lib.hid (show s.testBit j = holeB ⟨w, h, s⟩ j by rw [holeB_nat hb, decide_eq_true jl, Bool.true_and])
      go_enter Try.func140, Try.ntmps140
      go_wp2_with (first | (go_at_call 139; refine (is_ (sBoardOk_ _ _) hB).mono ?_; rintro e w1 ⟨rfl, hb1⟩; obtain ⟨hc, hf⟩ := bcell hb1; have hz0 : W.heap.size < w1.heap.size := (by have := hb1.size; (try simp at this); omega); have hw1 : Below W.heap.size W w1 := below_step ((Below.refl _ _).alloc (Nat.le_refl _) _) hb1 (by (try simp))) | (go_at_call 111; refine (l01In_ _ _ _ _).mono ?_; rintro e w' ⟨rfl, rfl⟩))
      go_ret
      exact ⟨ret_bool H.out, hw1⟩
    · have H := Lib.hid (show holeB ⟨w, h, s⟩ k = false by
        rw [holeB, decide_eq_false (fun hh : 0 ≤ k ∧ k < (w : Int) * h => by rw [inB_iff.2 ⟨hh.1, by omega⟩] at i1; cases i1)]; simp)
      go_enter Try.func140, Try.ntmps140
      go_wp2_with (first | (go_at_call 139; refine (is_ (sBoardOk_ _ _) hB).mono ?_; rintro e w1 ⟨rfl, hb1⟩; obtain ⟨hc, hf⟩ := bcell hb1; have hz0 : W.heap.size < w1.heap.size := (by have := hb1.size; (try simp at this); omega); have hw1 : Below W.heap.size W w1 := below_step ((Below.refl _ _).alloc (Nat.le_refl _) _) hb1 (by (try simp))) | (go_at_call 111; refine (l01In_ _ _ _ _).mono ?_; rintro e w' ⟨rfl, rfl⟩))
      go_ret
      exact ⟨ret_bool H.out.symm, hw1⟩
  · have H := Lib.hid (holeB_no (k := k) hB)
    go_enter Try.func140, Try.ntmps140
    go_wp2_with ((go_at_call 139; refine (is_ (sBoardOk_ _ _) hB).mono ?_; rintro e w1 ⟨rfl, hb1⟩; obtain ⟨hc, hf⟩ := bcell hb1; have hz0 : W.heap.size < w1.heap.size := (by have := hb1.size; (try simp at this); omega); have hw1 : Below W.heap.size W w1 := below_step ((Below.refl _ _).alloc (Nat.le_refl _) _) hb1 (by (try simp))))
    go_ret
    exact ⟨ret_bool H.out.symm, hw1⟩
end Go.Proofs.Ytbcgokpamhgabaa

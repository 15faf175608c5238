/- The contracts of IsSolution. -/
import Derived.Test.YtbcgokpamhgabaaChecked
import Derived.Test.YtbcgokpamhgabaaKc01
import Derived.Tactics
import Derived.Tactics2
import Derived.WalkKit
import Derived.WalkSpells
import Derived.WalkLawsBesides
import Derived.Deep.QuietTactic
import Derived.BigQuiet
import Derived.BigGuardPart
import Derived.Lib.QuietBelow
import Derived.OwnWalk
import Derived.KernelRfl
import Derived.Test.YtbcgokpamhgabaaKc23
import Derived.Test.YtbcgokpamhgabaaKc09
import Derived.Test.YtbcgokpamhgabaaKc21
namespace Go.Proofs.Ytbcgokpamhgabaa
set_option linter.unusedVariables false
set_option maxRecDepth 20000
open Go.RowKit Go.Sort

set_option maxHeartbeats 1000000 in
theorem iIsSolution_ (b : Ln) (p g : Int) (hp : I64 p) (ls : List Ln) (A : Option Addr) (c : Nat) (hm : ls.length ≤ 9223372036854775807) (W : World) (rd : Rd W W.heap.size A (flat ls)) :
    Calls Try.prog 116 #[.agg #[.int .i64 b.f, .int .i64 b.o, .int .i64 b.t], .int .i64 p, .int .i64 g, .slice A ls.length c] W fun e w' => e = .returned (.bool (solB b p g ls)) ∧ Below W.heap.size W w' := by
  have rd1 := rd.laid (.cells #[.int .i64 b.f, .int .i64 b.o, .int .i64 b.t] 42)
  rcases Bool.eq_false_or_eq_true (playB b p ls) with h1 | h1
  · rcases Bool.eq_false_or_eq_true (playR b p ls == g) with h2 | h2
    · have HR := Lib.hid (show solB b p g ls = true by rw [solB, h1, h2]; rfl)
      go_enter Try.func116, Try.ntmps116
      go_wp2_with fail
      refine (is2_ (iPlayAll_ b p hp ls A c hm _ rd1) rfl h1).mono ?_
      rintro e w1 ⟨rfl, hb1⟩
      have hw1 : Below W.heap.size W w1 := below_step ((Below.refl _ _).alloc (Nat.le_refl _) _) hb1 (by simp)
      go_wp2
      go_ret
      exact ⟨ret_bool HR.out.symm, hw1⟩
    · have HR := Lib.hid (show solB b p g ls = false by rw [solB, h1, h2]; rfl)
      go_enter Try.func116, Try.ntmps116
      go_wp2_with fail
      refine (is2_ (iPlayAll_ b p hp ls A c hm _ rd1) rfl h1).mono ?_
      rintro e w1 ⟨rfl, hb1⟩
      have hw1 : Below W.heap.size W w1 := below_step ((Below.refl _ _).alloc (Nat.le_refl _) _) hb1 (by simp)
      go_wp2
      go_ret
      exact ⟨ret_bool HR.out.symm, hw1⟩
  · have HR := Lib.hid (show solB b p g ls = false by rw [solB, h1]; rfl)
    go_enter Try.func116, Try.ntmps116
    go_wp2_with fail
    refine (is2_ (iPlayAll_ b p hp ls A c hm _ rd1) rfl h1).mono ?_
    rintro e w1 ⟨rfl, hb1⟩
    have hw1 : Below W.heap.size W w1 := below_step ((Below.refl _ _).alloc (Nat.le_refl _) _) hb1 (by simp)
    go_wp2
    go_ret
    exact ⟨ret_bool HR.out.symm, hw1⟩
set_option maxHeartbeats 1000000 in
theorem sIsSolution_ (b : Ln) (p g : Int) (hp : I64 p) (ls : List Ln) (A : Option Addr) (c : Nat) (hm : ls.length ≤ 9223372036854775807) (W : World) (rd : Rd W W.heap.size A (flat ls)) :
    Calls Try.prog 48 #[.agg #[.int .i64 b.f, .int .i64 b.o, .int .i64 b.t], .int .i64 p, .int .i64 g, .slice A ls.length c] W fun e w' => e = .returned (.bool (solB b p g ls)) ∧ Below W.heap.size W w' := by
  have rd1 := rd.laid (.cells #[.int .i64 b.f, .int .i64 b.o, .int .i64 b.t] 42)
  rcases Bool.eq_false_or_eq_true (playB b p ls) with h1 | h1
  · rcases Bool.eq_false_or_eq_true (playR b p ls == g) with h2 | h2
    · have HR := Lib.hid (show solB b p g ls = true by rw [solB, h1, h2]; rfl)
      go_enter Try.func48, Try.ntmps48
      go_wp2_with fail
      refine (is2_ (sPlayAll_ b p hp ls A c hm _ rd1) rfl h1).mono ?_
      rintro e w1 ⟨rfl, hb1⟩
      have hw1 : Below W.heap.size W w1 := below_step ((Below.refl _ _).alloc (Nat.le_refl _) _) hb1 (by simp)
      go_wp2
      go_ret
      exact ⟨ret_bool HR.out.symm, hw1⟩
    · have HR := Lib.hid (show solB b p g ls = false by rw [solB, h1, h2]; rfl)
      go_enter Try.func48, Try.ntmps48
      go_wp2_with fail
      refine (is2_ (sPlayAll_ b p hp ls A c hm _ rd1) rfl h1).mono ?_
      rintro e w1 ⟨rfl, hb1⟩
      have hw1 : Below W.heap.size W w1 := below_step ((Below.refl _ _).alloc (Nat.le_refl _) _) hb1 (by simp)
      go_wp2
      go_ret
      exact ⟨ret_bool HR.out.symm, hw1⟩
  · have HR := Lib.hid (show solB b p g ls = false by rw [solB, h1]; rfl)
    go_enter Try.func48, Try.ntmps48
    go_wp2_with fail
    refine (is2_ (sPlayAll_ b p hp ls A c hm _ rd1) rfl h1).mono ?_
    rintro e w1 ⟨rfl, hb1⟩
    have hw1 : Below W.heap.size W w1 := below_step ((Below.refl _ _).alloc (Nat.le_refl _) _) hb1 (by simp)
    go_wp2
    go_ret
    exact ⟨ret_bool HR.out.symm, hw1⟩
end Go.Proofs.Ytbcgokpamhgabaa

/- The contract of laws.has: a search among numbers. -/
import Derived.Test.YtbcgokpamhgabaaChecked
import Derived.Test.YtbcgokpamhgabaaMem
import Derived.Tactics
import Derived.Tactics2
import Derived.WalkKit
import Derived.WalkSpells
import Derived.WalkLawsBesides
import Derived.Deep.QuietTactic
import Derived.BigQuiet
import Derived.BigGuardPart
import Derived.Lib.QuietBelow
import Derived.OwnWalk
import Derived.KernelRfl
import Derived.Test.YtbcgokpamhgabaaStuckG
set_option linter.unusedVariables false
namespace Go.Proofs.Ytbcgokpamhgabaa
open Go.RowKit Go.Sort
set_option maxHeartbeats 1000000 in
theorem has_ (xs : List Nat) (n : Nat) (hn : xs.length = n) (A : Option Addr) (c : Nat) (q : Nat) (hq : q ∈ xs) (hm : n ≤ 1048576) (W : World) (rd : Rd W W.heap.size A (ints (natL xs))) :
    Calls Try.prog 65 #[.slice A n c, .int .i64 q] W fun e w' => e = .returned (.bool true) ∧ W = w' := by
  obtain ⟨i, hi⟩ := List.getElem?_of_mem hq
  obtain ⟨hil, -⟩ := List.getElem?_eq_some_iff.1 hi
  have HN := Lib.hid hn
  have HI := Lib.hid hi
  rw [hn] at hil
  clear hn hi hq
  go_enter Try.func65, Try.ntmps65
  go_wp2
  go_loop [5] (fun kv => ∃ k : Nat, k ≤ i ∧ kv = .int .i64 k) (fun kv => n - (intOf kv).toNat)
  case atStart => exact ⟨0, Nat.zero_le _, rfl⟩
  case round =>
    obtain ⟨k, hk, rfl⟩ := hrel
    have hkn : k < n := by omega
    have hx : xs[k]? = some (xs[k]'(by rw [HN.out]; exact hkn)) := List.getElem?_eq_getElem _
    generalize xs[k]'(by rw [HN.out]; exact hkn) = x at hx
    obtain ⟨bb, off, rfl, hbb, x0⟩ := rd_nat rd hx
    rcases Nat.decEq x q with hne | rfl
    · have hki : k ≠ i := fun e => by subst e; rw [HI.out] at hx; injection hx with hx; exact hne hx.symm
      have hd : decide ((x : Int) = (q : Int)) = false := by simp; omega
      clear hx rd
      go_wp2
      go_round
      case rel => exact ⟨k + 1, by omega, by go_num⟩
      case measure => simp [intOf]; omega
    · clear hx rd
      go_wp2
      go_ret
      exact ⟨rfl, rfl⟩
end Go.Proofs.Ytbcgokpamhgabaa

/- The contracts of the laws' own functions on packages. -/
import Derived.Test.YtfbpnfjaheeooaaChecked
import Derived.Test.YtfbpnfjaheeooaaMem
import Derived.Tactics
import Derived.Tactics2
import Derived.WalkKit
import Derived.WalkSpells
import Derived.WalkLawsBesides
import Derived.Deep.QuietTactic
import Derived.BigQuiet
import Derived.BigGuardPart
import Derived.Lib.QuietBelow
import Derived.OwnWalk
import Derived.KernelRfl
import Derived.Test.YtfbpnfjaheeooaaHelp
import Derived.Test.YtfbpnfjaheeooaaHelpL
import Derived.Test.YtfbpnfjaheeooaaOrdB
set_option linter.unusedVariables false
set_option maxRecDepth 20000
namespace Go.Proofs.Ytfbpnfjaheeooaa
open Go.RowKit Go.Sort

theorem eqPackage_same (n g : Int) (a : List Ln) (A B : Option Addr) (c d : Nat) (hm : a.length ≤ 9223372036854775807) (w : World) (rdA : Rd w w.heap.size A (flat a)) (rdB : Rd w w.heap.size B (flat a)) :
    Calls Try.prog 19 #[.agg #[.int .i64 n, .int .i64 g, .slice A a.length c], .agg #[.int .i64 n, .int .i64 g, .slice B a.length d]] w fun e w' => e = .returned (.bool true) ∧ Below w.heap.size w w' := by
  have RA := Lib.hid ((rdA.laid (.cells #[.int .i64 n, .int .i64 g, .slice A a.length c] 33)).laid (.cells #[.int .i64 n, .int .i64 g, .slice B a.length d] 33))
  have RB := Lib.hid ((rdB.laid (.cells #[.int .i64 n, .int .i64 g, .slice A a.length c] 33)).laid (.cells #[.int .i64 n, .int .i64 g, .slice B a.length d] 33))
  clear rdA rdB
  go_enter Try.func19, Try.ntmps19
  go_wp2_with fail
  refine (is_ (eqLineS_ a a A B c d _ RA.out RB.out hm hm) (eqB_refl a)).mono ?_
  rintro e w1 ⟨rfl, hb1⟩
  go_wp2
  go_ret
  exact ⟨rfl, below_step (((Below.refl _ _).alloc (Nat.le_refl _) _).alloc (by simp) _) hb1 (by simp; omega)⟩
theorem markPackage_ (base : Nat) (xs : List Ln) (A : Option Addr) (n c : Nat) (x y : Int) (k : Nat) (w : World) (hown : w.ownsRow base 83 3 (.slice A n c) n (flat xs)) (hn : n ≤ 4194304) (hk : k ≤ 16777216) :
    Calls Try.prog 48 #[.agg #[.int .i64 x, .int .i64 y, .slice A n c], .int .i64 k] w fun e w' => e = .returned (.int .i64 ((k + 3 * n : Nat) : Int)) ∧ w'.ownsRow base 83 3 (.slice A n c) n (flat (marks3 k n)) ∧ w.grownBy w' (Value.ownBlock (.slice A n c)) := by
  go_enter Try.func48, Try.ntmps48
  go_wp2_with fail
  refine (markLineS_ base xs A n c k _ (hown.alloc _) hn hk).mono ?_
  rintro e w1 ⟨rfl, own1, hg1⟩
  have HO := Lib.hid own1
  clear own1
  go_wp2
  go_ret
  exact ⟨rfl, HO.out, (World.grownBy_alloc w _ _).trans hg1⟩
theorem heldPackage_ (A : Option Addr) (n c : Nat) (x y : Int) (k : Nat) (w : World) (hr : Rd w w.heap.size A (flat (marks3 k n))) (hn : n ≤ 4194304) (hk : k ≤ 16777216) :
    Calls Try.prog 49 #[.agg #[.int .i64 x, .int .i64 y, .slice A n c], .int .i64 k] w fun e w' => e = .returned (.int .i64 ((k + 3 * n : Nat) : Int)) ∧ Below w.heap.size w w' := by
  go_enter Try.func49, Try.ntmps49
  go_wp2_with fail
  refine (heldLineS_ A n c k _ (hr.laid _) hn hk).mono ?_
  rintro e w1 ⟨rfl, rfl⟩
  go_wp2
  go_ret
  exact ⟨rfl, (Below.refl _ _).alloc (Nat.le_refl _) _⟩
end Go.Proofs.Ytfbpnfjaheeooaa

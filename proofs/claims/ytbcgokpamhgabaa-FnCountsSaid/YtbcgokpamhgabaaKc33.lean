/- The contract of the reference's l22Ways. -/
import Derived.Test.YtbcgokpamhgabaaChecked
import Derived.Test.YtbcgokpamhgabaaKc01
import Derived.Tactics
import Derived.Tactics2
import Derived.WalkKit
import Derived.WalkSpells
import Derived.WalkLawsBesides
import Derived.Deep.QuietTactic
import Derived.BigQuiet
import Derived.BigGuardPart
import Derived.Lib.QuietBelow
import Derived.OwnWalk
import Derived.KernelRfl
import Derived.Test.YtbcgokpamhgabaaKc26
import Derived.Test.YtbcgokpamhgabaaKc31
import Derived.Test.YtbcgokpamhgabaaKc32
namespace Go.Proofs.Ytbcgokpamhgabaa
set_option linter.unusedVariables false
set_option maxRecDepth 20000
open Go.RowKit Go.Sort

theorem set_twice (out : List Int) (x : Nat) (s v : Int) : (out.set x s).set x v = out.set x v := by simp [List.set_set]
end Go.Proofs.Ytbcgokpamhgabaa

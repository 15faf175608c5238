/- The contracts of CountSweeps, IsOneSweep, SameJumps and CanSwap. -/
import Derived.Test.YtbljoknlphaimaaChecked
import Derived.Test.YtbljoknlphaimaaMem
import Derived.Tactics
import Derived.Tactics2
import Derived.WalkKit
import Derived.WalkSpells
import Derived.WalkLawsBesides
import Derived.Deep.QuietTactic
import Derived.BigQuiet
import Derived.BigGuardPart
import Derived.Lib.QuietBelow
import Derived.OwnWalk
import Derived.KernelRfl
import Derived.Test.YtbljoknlphaimaaOrdA
import Derived.Test.YtbljoknlphaimaaStruct
import Derived.Test.YtbljoknlphaimaaOpen
set_option linter.unusedVariables false
namespace Go.Proofs.Ytbljoknlphaimaa
open Go.RowKit Go.Sort

end Go.Proofs.Ytbljoknlphaimaa

/- The contracts of the functions that turn and mirror whole boards. -/
import Derived.Test.YtliljgmpdfdakaaChecked
import Derived.Test.YtliljgmpdfdakaaMem
import Derived.Tactics
import Derived.Tactics2
import Derived.WalkKit
import Derived.WalkSpells
import Derived.WalkLawsBesides
import Derived.Deep.QuietTactic
import Derived.BigQuiet
import Derived.BigGuardPart
import Derived.Lib.QuietBelow
import Derived.OwnWalk
import Derived.KernelRfl
import Derived.Test.YtliljgmpdfdakaaSym
import Derived.Test.YtliljgmpdfdakaaTail
import Derived.Test.YtliljgmpdfdakaaStruct
set_option linter.unusedVariables false
set_option maxRecDepth 20000
namespace Go.Proofs.Ytliljgmpdfdakaa
open Go.RowKit Go.Sort

theorem toBoard_ (l : Ln) (w : World) :
    Calls Try.prog 12 #[.agg #[.int .i64 l.f, .int .i64 l.o, .int .i64 l.t]] w fun e w' => e = .returned (.agg #[.int .i64 l.f, .int .i64 l.o, .int .i64 l.t]) ∧ Below w.heap.size w w' := by
  go_enter Try.func12, Try.ntmps12
  go_wp2
  refine bodyPost_ret (v := .agg #[.int .i64 l.f, .int .i64 l.o, .int .i64 l.t]) (by simp [results, Try.results12, go_sem]) rfl ⟨rfl, ?_⟩
  exact ((((Below.refl _ _).alloc (Nat.le_refl _) _).alloc (by simp) _).alloc (by simp; omega) _)

end Go.Proofs.Ytliljgmpdfdakaa

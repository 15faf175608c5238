/- The walk of the law FnExactFewestSweeps. -/
import Derived.Test.YtliljgmpdfdakaaChecked
import Derived.Test.YtliljgmpdfdakaaMem
import Derived.Tactics
import Derived.Tactics2
import Derived.WalkKit
import Derived.WalkSpells
import Derived.WalkLawsBesides
import Derived.Deep.QuietTactic
import Derived.BigQuiet
import Derived.BigGuardPart
import Derived.Lib.QuietBelow
import Derived.OwnWalk
import Derived.KernelRfl
import Derived.Test.YtliljgmpdfdakaaSweepS
import Derived.Test.YtliljgmpdfdakaaSweepI
import Derived.Test.YtliljgmpdfdakaaSymB
set_option linter.unusedVariables false
set_option maxRecDepth 20000
namespace Go.Proofs.Ytliljgmpdfdakaa
open Go.RowKit Go.Sort

set_option maxHeartbeats 1000000 in
theorem fnExactFewestSweeps_walk (b : Ln) (p : Int) (q : Int) (w : World) (_ : I64 b.f ∧ I64 b.o ∧ I64 b.t) (hp : I64 p) (hq : I64 q) :
    Calls Try.prog 6 #[.agg #[.int .i64 b.f, .int .i64 b.o, .int .i64 b.t], .int .i64 p, .int .i64 q] w fun e w' => e = .returned (.bool true) ∧ Below w.heap.size w w' := by
  go_enter Try.func6, Try.ntmps6
  go_wp2_with (first
    | (go_at_call 12; refine (toBoard_ b _).mono ?_; rintro e w' ⟨rfl, hb⟩; obtain ⟨hc, hf⟩ := bcell hb; have hz0 : w.heap.size < w'.heap.size := (by have := hb.size; (try simp at this); omega); have hw : Below w.heap.size w w' := below_step (by first | assumption | exact (Below.refl _ _).alloc (Nat.le_refl _) _) hb (by (try simp); (try omega)))
    | (go_at_call 18; refine (sFewestSweeps_ b p q hp hq _).mono ?_; rintro e w' ⟨rfl, hb⟩; obtain ⟨hc, hf⟩ := bcell hb; have hz0 : w.heap.size < w'.heap.size := (by have := hb.size; (try simp at this); omega); have hw : Below w.heap.size w w' := below_step (by first | assumption | exact (Below.refl _ _).alloc (Nat.le_refl _) _) hb (by (try simp); (try omega)))
    | (go_at_call 19; refine (iFewestSweeps_ b p q hp hq _).mono ?_; rintro e w' ⟨rfl, hb⟩; obtain ⟨hc, hf⟩ := bcell hb; have hz0 : w.heap.size < w'.heap.size := (by have := hb.size; (try simp at this); omega); have hw : Below w.heap.size w w' := below_step (by first | assumption | exact (Below.refl _ _).alloc (Nat.le_refl _) _) hb (by (try simp); (try omega))))
  go_ret
  exact ⟨rfl, hw⟩
end Go.Proofs.Ytliljgmpdfdakaa

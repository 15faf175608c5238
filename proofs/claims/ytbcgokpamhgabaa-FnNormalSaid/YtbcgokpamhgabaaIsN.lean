/- The contract of IsNormal. -/
import Derived.Test.YtbcgokpamhgabaaChecked
import Derived.Test.YtbcgokpamhgabaaMem
import Derived.Tactics
import Derived.Tactics2
import Derived.WalkKit
import Derived.WalkSpells
import Derived.WalkLawsBesides
import Derived.Deep.QuietTactic
import Derived.BigQuiet
import Derived.BigGuardPart
import Derived.Lib.QuietBelow
import Derived.OwnWalk
import Derived.KernelRfl
import Derived.Test.YtbcgokpamhgabaaOrdB
import Derived.Test.YtbcgokpamhgabaaNorm
set_option linter.unusedVariables false
set_option maxRecDepth 100000
namespace Go.Proofs.Ytbcgokpamhgabaa
open Go.RowKit Go.Sort

set_option maxHeartbeats 1000000 in
theorem iIsNormal_ (ls : List Ln) (A : Option Addr) (c : Nat) (w : World) (hr : Rd w w.heap.size A (flat ls)) (hm : ls.length ≤ 9223372036854775807) :
    Calls Try.prog 20 #[.slice A ls.length c] w fun e w' => e = .returned (.bool (isnB ls)) ∧ Below w.heap.size w w' := by
  have hN := nfL_bound ls
  rcases Bool.eq_false_or_eq_true (nfB ls) with hB | hB
  · have HB := Lib.hid (isnB_yes hB)
    go_enter Try.func20, Try.ntmps20
    go_wp2_with fail
    refine (iNormalForm_ ls A c w hr hm).mono ?_
    rintro e w1 ⟨A1, c1, rfl, own1, hb1⟩
    have HR := Lib.hid (hr.next hb1)
    have H1 := Lib.hid (rd_of_own own1)
    go_wp2_with fail
    refine (iSameJumps_ (nfL ls) ls A1 A c1 c _ H1.out HR.out (by omega) hm).mono ?_
    rintro e w2 ⟨rfl, hb2⟩
    go_wp2
    go_ret
    exact ⟨ret_bool HB.out.symm, below_next hb1 hb2⟩
  · have HB := Lib.hid (isnB_no hB)
    go_enter Try.func20, Try.ntmps20
    go_wp2_with fail
    refine (iNormalForm_ ls A c w hr hm).mono ?_
    rintro e w1 ⟨A1, c1, rfl, own1, hb1⟩
    go_wp2
    go_ret
    exact ⟨ret_bool HB.out.symm, hb1⟩
end Go.Proofs.Ytbcgokpamhgabaa

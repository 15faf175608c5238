/- The walk of the law FnExactLongestSweep. -/
import Derived.Test.YtbefkagmgpcfdaaChecked
import Derived.Test.YtbefkagmgpcfdaaMem
import Derived.Tactics
import Derived.Tactics2
import Derived.WalkKit
import Derived.WalkSpells
import Derived.WalkLawsBesides
import Derived.Deep.QuietTactic
import Derived.BigQuiet
import Derived.BigGuardPart
import Derived.Lib.QuietBelow
import Derived.OwnWalk
import Derived.KernelRfl
import Derived.Test.YtbefkagmgpcfdaaLongS
import Derived.Test.YtbefkagmgpcfdaaOpen
set_option linter.unusedVariables false
namespace Go.Proofs.Ytbefkagmgpcfdaa
open Go.RowKit Go.Sort

set_option maxHeartbeats 1000000 in
theorem fnExactLongestSweep_walk (a : List Ln) (A : Option Addr) (c : Nat)  (w : World) (rd : Rd w w.heap.size A (flat a)) (hm : a.length ≤ 9223372036854775807) (_ : ∀ l ∈ a, I64 l.f ∧ I64 l.o ∧ I64 l.t)  :
    Calls Try.prog 4 #[.slice A a.length c] w fun e w' => e = .returned (.bool true) ∧ Below w.heap.size w w' := by
  by_cases hs : a.length ≤ 1048576
  · have hs1 := hs
    go_enter Try.func4, Try.ntmps4
    have hw0 : Below w.heap.size w w := Below.refl _ _
    go_wp2_with fail
    refine (szLineS_ok A a.length c 1048576 _ hm (by omega) (by omega)).mono ?_
    rintro e w' ⟨rfl, rfl⟩
    go_wp2_with fail
    refine (toLineS_ a A c _ rd hs).mono ?_
    rintro e w1 ⟨As, cs, rfl, own1, hb1⟩
    have hw1 := below_next hw0 hb1
    have sz1 : w.heap.size ≤ w1.heap.size := hb1.size
    have os1 := own1
    clear own1
    have LOs := Lib.hid (show ∀ g, (Value.slice As (a.length) cs).ownBlock = some g → w.heap.size ≤ g from fun g hg => (os1.lt g hg).1)
    have HIs := Lib.hid (show ∀ g, (Value.slice As (a.length) cs).ownBlock = some g → g < w1.heap.size from fun g hg => (os1.lt g hg).2)
    go_wp2_with fail
    refine (sLongestSweep_ a As cs _ (rd_of_own os1) hs).mono ?_
    rintro e w2 ⟨rfl, hb2⟩
    have hw2 := below_next hw1 hb2
    have sz2 : w1.heap.size ≤ w2.heap.size := hb2.size
    have os2 := own_next os1 hb2
    clear os1
    clear os2 LOs HIs
    go_wp2_with fail
    refine (toLineS_ a A c _ ((rd.below hw2).more hw2.size) hs).mono ?_
    rintro e w3 ⟨Ax, cx, rfl, own3, hb3⟩
    have hw3 := below_next hw2 hb3
    have sz3 : w2.heap.size ≤ w3.heap.size := hb3.size
    have ox3 := own3
    clear own3
    have LOx := Lib.hid (show ∀ g, (Value.slice Ax (a.length) cx).ownBlock = some g → w2.heap.size ≤ g from fun g hg => (ox3.lt g hg).1)
    have HIx := Lib.hid (show ∀ g, (Value.slice Ax (a.length) cx).ownBlock = some g → g < w3.heap.size from fun g hg => (ox3.lt g hg).2)
    go_wp2_with fail
    refine (iLongestSweep_ a Ax cx _ (rd_of_own ox3) hs).mono ?_
    rintro e w4 ⟨rfl, hb4⟩
    have hw4 := below_next hw3 hb4
    have sz4 : w3.heap.size ≤ w4.heap.size := hb4.size
    have ox4 := own_next ox3 hb4
    clear ox3
    go_wp2_with fail
    refine (toLineS_ a A c _ ((rd.below hw4).more hw4.size) hs).mono ?_
    rintro e w5 ⟨Ay, cy, rfl, own5, hb5⟩
    have hw5 := below_next hw4 hb5
    have sz5 : w4.heap.size ≤ w5.heap.size := hb5.size
    have ox5 := own_next ox4 hb5
    clear ox4
    have oy5 := own5
    clear own5
    have LOy := Lib.hid (show ∀ g, (Value.slice Ay (a.length) cy).ownBlock = some g → w4.heap.size ≤ g from fun g hg => (oy5.lt g hg).1)
    have HIy := Lib.hid (show ∀ g, (Value.slice Ay (a.length) cy).ownBlock = some g → g < w5.heap.size from fun g hg => (oy5.lt g hg).2)
    go_wp2_with fail
    refine (is_ (eqLineS_ a a Ax Ay cx cy _ (rd_of_own ox5) (rd_of_own oy5) hm hm) (eqB_refl a)).mono ?_
    rintro e w6 ⟨rfl, hb6⟩
    have hw6 := below_next hw5 hb6
    have sz6 : w5.heap.size ≤ w6.heap.size := hb6.size
    have ox6 := own_next ox5 hb6
    have oy6 := own_next oy5 hb6
    clear ox5 oy5
    go_wp2
    go_ret
    exact ⟨rfl, hw6⟩
  · go_enter Try.func4, Try.ntmps4
    go_wp2_with (go_at_call 25; refine (szLineS_no A a.length c 1048576 _ hm (by omega) (by omega) (by omega)).mono ?_; rintro e w' ⟨rfl, rfl⟩)
    go_ret
    exact ⟨rfl, Below.refl _ _⟩
end Go.Proofs.Ytbefkagmgpcfdaa

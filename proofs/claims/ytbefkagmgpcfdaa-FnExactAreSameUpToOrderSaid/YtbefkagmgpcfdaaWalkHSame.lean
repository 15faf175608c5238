/- The walk of the law of AreSameUpToOrder. -/
import Derived.Test.YtbefkagmgpcfdaaChecked
import Derived.Test.YtbefkagmgpcfdaaMem
import Derived.Tactics
import Derived.Tactics2
import Derived.WalkKit
import Derived.WalkSpells
import Derived.WalkLawsBesides
import Derived.Deep.QuietTactic
import Derived.BigQuiet
import Derived.BigGuardPart
import Derived.Lib.QuietBelow
import Derived.OwnWalk
import Derived.KernelRfl
import Derived.Test.YtbefkagmgpcfdaaSame
import Derived.Test.YtbefkagmgpcfdaaOpen
set_option linter.unusedVariables false
namespace Go.Proofs.Ytbefkagmgpcfdaa
open Go.RowKit Go.Sort

theorem fnExactAreSameUpToOrder_walk (a : List Ln) (A : Option Addr) (c : Nat) (b : List Ln) (B : Option Addr) (d : Nat) (w : World) (rd : Rd w w.heap.size A (flat a)) (hm : a.length ≤ 9223372036854775807) (_ : ∀ l ∈ a, I64 l.f ∧ I64 l.o ∧ I64 l.t) (rd2 : Rd w w.heap.size B (flat b)) (hm2 : b.length ≤ 9223372036854775807) (_ : ∀ l ∈ b, I64 l.f ∧ I64 l.o ∧ I64 l.t) :
    Calls Try.prog 9 #[.slice A a.length c, .slice B b.length d] w fun e w' => e = .returned (.bool true) ∧ Below w.heap.size w w' := by
  by_cases hs : a.length ≤ 1048576
  · by_cases hs2 : (b.length : Int) ≤ 1048576 - a.length
    · have hs2 : b.length ≤ 1048576 := by omega
      have hs3 : (b.length : Int) ≤ 1048576 - a.length := by assumption
      go_enter Try.func9, Try.ntmps9
      have hw0 : Below w.heap.size w w := Below.refl _ _
      go_wp2_with fail
      refine (szLineS_ok A a.length c 1048576 _ hm (by omega) (by omega)).mono ?_
      rintro e w' ⟨rfl, rfl⟩
      go_wp2_with fail
      refine (szLineS_ok B b.length d (1048576 - a.length) _ hm2 (by omega) (by omega)).mono ?_
      rintro e w' ⟨rfl, rfl⟩
      go_wp2_with fail
      refine (toLineS_ a A c _ rd hs).mono ?_
      rintro e w1 ⟨As, cs, rfl, own1, hb1⟩
      have hw1 := below_next hw0 hb1
      have sz1 : w.heap.size ≤ w1.heap.size := hb1.size
      have os1 := own1
      clear own1
      have LOs := Lib.hid (show ∀ g, (Value.slice As (a.length) cs).ownBlock = some g → w.heap.size ≤ g from fun g hg => (os1.lt g hg).1)
      have HIs := Lib.hid (show ∀ g, (Value.slice As (a.length) cs).ownBlock = some g → g < w1.heap.size from fun g hg => (os1.lt g hg).2)
      go_wp2_with fail
      refine (toLineS_ b B d _ ((rd2.below hw1).more hw1.size) hs2).mono ?_
      rintro e w2 ⟨At, ct, rfl, own2, hb2⟩
      have hw2 := below_next hw1 hb2
      have sz2 : w1.heap.size ≤ w2.heap.size := hb2.size
      have os2 := own_next os1 hb2
      clear os1
      have ot2 := own2
      clear own2
      have LOt := Lib.hid (show ∀ g, (Value.slice At (b.length) ct).ownBlock = some g → w1.heap.size ≤ g from fun g hg => (ot2.lt g hg).1)
      have HIt := Lib.hid (show ∀ g, (Value.slice At (b.length) ct).ownBlock = some g → g < w2.heap.size from fun g hg => (ot2.lt g hg).2)
      go_wp2_with fail
      refine (sAreSame_ a b As At cs ct _ (rd_of_own os2) (rd_of_own ot2) hm hm2).mono ?_
      rintro e w3 ⟨rfl, hb3⟩
      have hw3 := below_next hw2 hb3
      have sz3 : w2.heap.size ≤ w3.heap.size := hb3.size
      have os3 := own_next os2 hb3
      have ot3 := own_next ot2 hb3
      clear os2 ot2
      go_wp2_with fail
      refine (toLineS_ a A c _ ((rd.below hw3).more hw3.size) hs).mono ?_
      rintro e w4 ⟨Ax, cx, rfl, own4, hb4⟩
      have hw4 := below_next hw3 hb4
      have sz4 : w3.heap.size ≤ w4.heap.size := hb4.size
      have os4 := own_next os3 hb4
      have ot4 := own_next ot3 hb4
      clear os3 ot3
      have ox4 := own4
      clear own4
      have LOx := Lib.hid (show ∀ g, (Value.slice Ax (a.length) cx).ownBlock = some g → w3.heap.size ≤ g from fun g hg => (ox4.lt g hg).1)
      have HIx := Lib.hid (show ∀ g, (Value.slice Ax (a.length) cx).ownBlock = some g → g < w4.heap.size from fun g hg => (ox4.lt g hg).2)
      go_wp2_with fail
      refine (toLineS_ b B d _ ((rd2.below hw4).more hw4.size) hs2).mono ?_
      rintro e w5 ⟨Ay, cy, rfl, own5, hb5⟩
      have hw5 := below_next hw4 hb5
      have sz5 : w4.heap.size ≤ w5.heap.size := hb5.size
      have os5 := own_next os4 hb5
      have ot5 := own_next ot4 hb5
      have ox5 := own_next ox4 hb5
      clear os4 ot4 ox4
      have oy5 := own5
      clear own5
      have LOy := Lib.hid (show ∀ g, (Value.slice Ay (b.length) cy).ownBlock = some g → w4.heap.size ≤ g from fun g hg => (oy5.lt g hg).1)
      have HIy := Lib.hid (show ∀ g, (Value.slice Ay (b.length) cy).ownBlock = some g → g < w5.heap.size from fun g hg => (oy5.lt g hg).2)
      go_wp2_with fail
      refine (iAreSame_ a b Ax Ay cx cy _ (rd_of_own ox5) (rd_of_own oy5) hm hm2).mono ?_
      rintro e w6 ⟨rfl, hb6⟩
      have hw6 := below_next hw5 hb6
      have sz6 : w5.heap.size ≤ w6.heap.size := hb6.size
      have os6 := own_next os5 hb6
      have ot6 := own_next ot5 hb6
      have ox6 := own_next ox5 hb6
      have oy6 := own_next oy5 hb6
      clear os5 ot5 ox5 oy5
      go_wp2_with fail
      refine (toLineS_ a A c _ ((rd.below hw6).more hw6.size) hs).mono ?_
      rintro e w7 ⟨Au, cu, rfl, own7, hb7⟩
      have hw7 := below_next hw6 hb7
      have sz7 : w6.heap.size ≤ w7.heap.size := hb7.size
      have os7 := own_next os6 hb7
      have ot7 := own_next ot6 hb7
      have ox7 := own_next ox6 hb7
      have oy7 := own_next oy6 hb7
      clear os6 ot6 ox6 oy6
      have ou7 := own7
      clear own7
      have LOu := Lib.hid (show ∀ g, (Value.slice Au (a.length) cu).ownBlock = some g → w6.heap.size ≤ g from fun g hg => (ou7.lt g hg).1)
      have HIu := Lib.hid (show ∀ g, (Value.slice Au (a.length) cu).ownBlock = some g → g < w7.heap.size from fun g hg => (ou7.lt g hg).2)
      go_wp2_with fail
      refine (is_ (eqLineS_ a a Ax Au cx cu _ (rd_of_own ox7) (rd_of_own ou7) hm hm) (eqB_refl a)).mono ?_
      rintro e w8 ⟨rfl, hb8⟩
      have hw8 := below_next hw7 hb8
      have sz8 : w7.heap.size ≤ w8.heap.size := hb8.size
      have os8 := own_next os7 hb8
      have ot8 := own_next ot7 hb8
      have ox8 := own_next ox7 hb8
      have oy8 := own_next oy7 hb8
      have ou8 := own_next ou7 hb8
      clear os7 ot7 ox7 oy7 ou7
      go_wp2_with fail
      refine (toLineS_ b B d _ ((rd2.below hw8).more hw8.size) hs2).mono ?_
      rintro e w9 ⟨Av, cv, rfl, own9, hb9⟩
      have hw9 := below_next hw8 hb9
      have sz9 : w8.heap.size ≤ w9.heap.size := hb9.size
      have os9 := own_next os8 hb9
      have ot9 := own_next ot8 hb9
      have ox9 := own_next ox8 hb9
      have oy9 := own_next oy8 hb9
      have ou9 := own_next ou8 hb9
      clear os8 ot8 ox8 oy8 ou8
      have ov9 := own9
      clear own9
      have LOv := Lib.hid (show ∀ g, (Value.slice Av (b.length) cv).ownBlock = some g → w8.heap.size ≤ g from fun g hg => (ov9.lt g hg).1)
      have HIv := Lib.hid (show ∀ g, (Value.slice Av (b.length) cv).ownBlock = some g → g < w9.heap.size from fun g hg => (ov9.lt g hg).2)
      go_wp2_with fail
      refine (is_ (eqLineS_ b b Ay Av cy cv _ (rd_of_own oy9) (rd_of_own ov9) hm2 hm2) (eqB_refl b)).mono ?_
      rintro e w10 ⟨rfl, hb10⟩
      have hw10 := below_next hw9 hb10
      have sz10 : w9.heap.size ≤ w10.heap.size := hb10.size
      have os10 := own_next os9 hb10
      have ot10 := own_next ot9 hb10
      have ox10 := own_next ox9 hb10
      have oy10 := own_next oy9 hb10
      have ou10 := own_next ou9 hb10
      have ov10 := own_next ov9 hb10
      clear os9 ot9 ox9 oy9 ou9 ov9
      go_wp2
      go_ret
      exact ⟨rfl, hw10⟩
    · go_enter Try.func9, Try.ntmps9
      go_wp2_with fail
      refine (szLineS_ok A a.length c 1048576 _ hm (by omega) (by omega)).mono ?_
      rintro e w' ⟨rfl, rfl⟩
      go_wp2_with fail
      refine (szLineS_no B b.length d (1048576 - a.length) _ hm2 (by omega) (by omega) (by omega)).mono ?_
      rintro e w' ⟨rfl, rfl⟩
      go_wp2
      go_ret
      exact ⟨rfl, Below.refl _ _⟩
  · go_enter Try.func9, Try.ntmps9
    go_wp2_with (go_at_call 25; refine (szLineS_no A a.length c 1048576 _ hm (by omega) (by omega) (by omega)).mono ?_; rintro e w' ⟨rfl, rfl⟩)
    go_ret
    exact ⟨rfl, Below.refl _ _⟩
end Go.Proofs.Ytbefkagmgpcfdaa

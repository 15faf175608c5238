/- The walk of the law FnExactLayersOf. -/
import Derived.Test.YtbefkagmgpcfdaaChecked
import Derived.Test.YtbefkagmgpcfdaaMem
import Derived.Tactics
import Derived.Tactics2
import Derived.WalkKit
import Derived.WalkSpells
import Derived.WalkLawsBesides
import Derived.Deep.QuietTactic
import Derived.BigQuiet
import Derived.BigGuardPart
import Derived.Lib.QuietBelow
import Derived.OwnWalk
import Derived.KernelRfl
import Derived.Test.YtbefkagmgpcfdaaLayersI
import Derived.Test.YtbefkagmgpcfdaaLayersS
import Derived.Test.YtbefkagmgpcfdaaGridH
import Derived.Test.YtbefkagmgpcfdaaOpen
set_option linter.unusedVariables false
set_option maxRecDepth 20000
namespace Go.Proofs.Ytbefkagmgpcfdaa
open Go.RowKit Go.Sort

set_option maxHeartbeats 2000000 in
theorem fnExactLayersOf_walk (a : List Ln) (A : Option Addr) (c : Nat) (w : World) (rd : Rd w w.heap.size A (flat a)) (hm : a.length ≤ 9223372036854775807) (_ : ∀ l ∈ a, I64 l.f ∧ I64 l.o ∧ I64 l.t) :
    Calls Try.prog 10 #[.slice A a.length c] w fun e w' => e = .returned (.bool true) ∧ Below w.heap.size w w' := by
  by_cases hs : a.length ≤ 1048576
  · obtain ⟨hF, hA⟩ := layersL_facts a
    have hN1 := full_len hF
    rw [hA] at hN1
    have hN2 : allN (layersL a) ≤ 1048576 := by rw [hA]; exact hs
    clear hF hA
    go_enter Try.func10, Try.ntmps10
    have hw0 : Below w.heap.size w w := Below.refl _ _
    go_wp2_with fail
    refine (szLineS_ok A a.length c 1048576 _ hm (by omega) (by omega)).mono ?_
    rintro e w' ⟨rfl, rfl⟩
    go_wp2_with fail
    refine (toLineS_ a A c _ rd hs).mono ?_
    rintro e w1 ⟨As, cs, rfl, own1, hb1⟩
    have hw1 := below_next hw0 hb1
    have sz1 : w.heap.size ≤ w1.heap.size := hb1.size
    have os1 := own1
    clear own1
    have LOs := Lib.hid (show ∀ g, (Value.slice As (a.length) cs).ownBlock = some g → w.heap.size ≤ g from fun g hg => (os1.lt g hg).1)
    have HIs := Lib.hid (show ∀ g, (Value.slice As (a.length) cs).ownBlock = some g → g < w1.heap.size from fun g hg => (os1.lt g hg).2)
    go_wp2_with fail
    refine (sLayersOf_ a As cs _ (rd_of_own os1) hs).mono ?_
    rintro e w2 ⟨AP, cP, vP, rfl, gg2, hb2⟩
    have hw2 := below_next hw1 hb2
    have sz2 : w1.heap.size ≤ w2.heap.size := hb2.size
    have os2 := own_next os1 hb2
    clear os1
    have gP2 := gg2
    clear gg2
    have UP := Lib.hid gP2.under
    clear os2 LOs HIs
    go_wp2_with fail
    refine (toLineS_ a A c _ ((rd.below hw2).more hw2.size) hs).mono ?_
    rintro e w3 ⟨Ax, cx, rfl, own3, hb3⟩
    have hw3 := below_next hw2 hb3
    have sz3 : w2.heap.size ≤ w3.heap.size := hb3.size
    have gP3 := gP2.next hb3
    clear gP2
    have ox3 := own3
    clear own3
    have LOx := Lib.hid (show ∀ g, (Value.slice Ax (a.length) cx).ownBlock = some g → w2.heap.size ≤ g from fun g hg => (ox3.lt g hg).1)
    have HIx := Lib.hid (show ∀ g, (Value.slice Ax (a.length) cx).ownBlock = some g → g < w3.heap.size from fun g hg => (ox3.lt g hg).2)
    go_wp2_with fail
    refine (iLayersOf_ a Ax cx _ (rd_of_own ox3) hs).mono ?_
    rintro e w4 ⟨AG, cG, vG, rfl, gg4, hb4⟩
    have hw4 := below_next hw3 hb4
    have sz4 : w3.heap.size ≤ w4.heap.size := hb4.size
    have ox4 := own_next ox3 hb4
    clear ox3
    have gP4 := gP3.next hb4
    clear gP3
    have gG4 := gg4
    clear gg4
    have UG := Lib.hid gG4.under
    go_wp2_with fail
    refine (eqLineSS_ (layersL a) AG AP cG cP _ _ vG vP _ gG4 gP4 (by omega) (by omega)).mono ?_
    rintro e w5 ⟨rfl, hb5⟩
    have hw5 := below_next hw4 hb5
    have sz5 : w4.heap.size ≤ w5.heap.size := hb5.size
    have ox5 := own_next ox4 hb5
    clear ox4
    have gP5 := gP4.next hb5
    have gG5 := gG4.next hb5
    clear gP4 gG4
    go_wp2_with fail
    refine (toLineS_ a A c _ ((rd.below hw5).more hw5.size) hs).mono ?_
    rintro e w6 ⟨Au, cu, rfl, own6, hb6⟩
    have hw6 := below_next hw5 hb6
    have sz6 : w5.heap.size ≤ w6.heap.size := hb6.size
    have ox6 := own_next ox5 hb6
    clear ox5
    have gP6 := gP5.next hb6
    have gG6 := gG5.next hb6
    clear gP5 gG5
    have ou6 := own6
    clear own6
    have LOu := Lib.hid (show ∀ g, (Value.slice Au (a.length) cu).ownBlock = some g → w5.heap.size ≤ g from fun g hg => (ou6.lt g hg).1)
    have HIu := Lib.hid (show ∀ g, (Value.slice Au (a.length) cu).ownBlock = some g → g < w6.heap.size from fun g hg => (ou6.lt g hg).2)
    go_wp2_with fail
    refine (is_ (eqLineS_n (a) (a) Ax Au _ _ cx cu _ rfl rfl (rd_of_own ox6) (rd_of_own ou6) hm hm) (eqB_refl _)).mono ?_
    rintro e w7 ⟨rfl, hb7⟩
    have hw7 := below_next hw6 hb7
    have sz7 : w6.heap.size ≤ w7.heap.size := hb7.size
    have ox7 := own_next ox6 hb7
    have ou7 := own_next ou6 hb7
    clear ox6 ou6
    have gP7 := gP6.next hb7
    have gG7 := gG6.next hb7
    clear gP6 gG6
    clear ou7 LOu HIu
    go_wp2_with fail
    refine (markLineS_ _ a Ax a.length cx 1 _ ox7 (by omega) (by omega)).mono ?_
    rintro e w8 ⟨rfl, own8, hg8⟩
    have sz8 : w7.heap.size ≤ w8.heap.size := hg8.size
    have hw8 := hw7.grown hg8 hw7.size (fun g hg => by have := LOx.out g hg; omega)
    have gP8 := gP7.kept_row hg8 UP.out (fun g hg => by have := LOx.out g hg; omega)
    have gG8 := gG7.kept_low hg8 (fun g hg => Nat.lt_of_lt_of_le (HIx.out g hg) (by omega))
    have ox8 := own8
    clear own8 hg8 ox7 gP7 gG7
    clear ox8 LOx HIx
    go_wp2_with fail
    refine (eqLineSS_ (layersL a) AG AP cG cP _ _ vG vP _ gG8 gP8 (by omega) (by omega)).mono ?_
    rintro e w9 ⟨rfl, hb9⟩
    have hw9 := below_next hw8 hb9
    have sz9 : w8.heap.size ≤ w9.heap.size := hb9.size
    have gP9 := gP8.next hb9
    have gG9 := gG8.next hb9
    clear gP8 gG8
    go_wp2_with fail
    refine (markLineSS_ (layersL a) AG cG _ 1 vG _ gG9 (by omega) (by omega) (by omega) (by omega)).mono ?_
    rintro e w10 ⟨rfl, gg10, hb10⟩
    have sz10 : w9.heap.size ≤ w10.heap.size := hb10.size
    have hw10 := hw9.trans (hb10.mono (by have := hw3.size; omega))
    have gP10 := gP9.below hb10 ⟨fun g hg => Nat.lt_of_lt_of_le (UP.out.1 g hg) (by omega), fun u hu g hg => Nat.lt_of_lt_of_le (UP.out.2 u hu g hg) (by omega)⟩
    have gG10 := gg10
    clear gg10 hb10 gP9 gG9
    go_wp2_with fail
    refine (heldLineSS_ (layersL a) AG cG _ 1 vG _ gG10 (by omega) (by omega) (by omega)).mono ?_
    rintro e w' ⟨rfl, rfl⟩
    go_wp2_with fail
    refine (toLineS_ a A c _ ((rd.below hw10).more hw10.size) hs).mono ?_
    rintro e w11 ⟨Au, cu, rfl, own11, hb11⟩
    have hw11 := below_next hw10 hb11
    have sz11 : w10.heap.size ≤ w11.heap.size := hb11.size
    have gP11 := gP10.next hb11
    have gG11 := gG10.next hb11
    clear gP10 gG10
    have ou11 := own11
    clear own11
    have LOu := Lib.hid (show ∀ g, (Value.slice Au (a.length) cu).ownBlock = some g → w10.heap.size ≤ g from fun g hg => (ou11.lt g hg).1)
    have HIu := Lib.hid (show ∀ g, (Value.slice Au (a.length) cu).ownBlock = some g → g < w11.heap.size from fun g hg => (ou11.lt g hg).2)
    go_wp2_with fail
    refine (iLayersOf_ a Au cu _ (rd_of_own ou11) hs).mono ?_
    rintro e w12 ⟨AH, cH, vH, rfl, gg12, hb12⟩
    have hw12 := below_next hw11 hb12
    have sz12 : w11.heap.size ≤ w12.heap.size := hb12.size
    have ou12 := own_next ou11 hb12
    clear ou11
    have gP12 := gP11.next hb12
    have gG12 := gG11.next hb12
    clear gP11 gG11
    have gH12 := gg12
    clear gg12
    have UH := Lib.hid gH12.under
    clear ou12 LOu HIu
    go_wp2_with fail
    refine (eqLineSS_ (layersL a) AH AP cH cP _ _ vH vP _ gH12 gP12 (by omega) (by omega)).mono ?_
    rintro e w13 ⟨rfl, hb13⟩
    have hw13 := below_next hw12 hb13
    have sz13 : w12.heap.size ≤ w13.heap.size := hb13.size
    have gP13 := gP12.next hb13
    have gG13 := gG12.next hb13
    have gH13 := gH12.next hb13
    clear gP12 gG12 gH12
    clear gH13 UH
    clear gP13 UP
    go_wp2_with fail
    refine (heldLineSS_ (layersL a) AG cG _ 1 vG _ gG13 (by omega) (by omega) (by omega)).mono ?_
    rintro e w' ⟨rfl, rfl⟩
    go_wp2
    go_ret
    exact ⟨rfl, hw13⟩
  · go_enter Try.func10, Try.ntmps10
    go_wp2_with (go_at_call 25; refine (szLineS_no A a.length c 1048576 _ hm (by omega) (by omega) (by omega)).mono ?_; rintro e w' ⟨rfl, rfl⟩)
    go_ret
    exact ⟨rfl, Below.refl _ _⟩
end Go.Proofs.Ytbefkagmgpcfdaa

/- The walk of the law FnExactNormalForm. -/
import Derived.Test.YtbefkagmgpcfdaaChecked
import Derived.Test.YtbefkagmgpcfdaaMem
import Derived.Tactics
import Derived.Tactics2
import Derived.WalkKit
import Derived.WalkSpells
import Derived.WalkLawsBesides
import Derived.Deep.QuietTactic
import Derived.BigQuiet
import Derived.BigGuardPart
import Derived.Lib.QuietBelow
import Derived.OwnWalk
import Derived.KernelRfl
import Derived.Test.YtbefkagmgpcfdaaNorm
import Derived.Test.YtbefkagmgpcfdaaHelpL
set_option linter.unusedVariables false
namespace Go.Proofs.Ytbefkagmgpcfdaa
open Go.RowKit Go.Sort

set_option maxHeartbeats 1000000 in
theorem fnExactNormalForm_walk (a : List Ln) (A : Option Addr) (c : Nat)  (w : World) (rd : Rd w w.heap.size A (flat a)) (hm : a.length ≤ 9223372036854775807) (_ : ∀ l ∈ a, I64 l.f ∧ I64 l.o ∧ I64 l.t)  :
    Calls Try.prog 11 #[.slice A a.length c] w fun e w' => e = .returned (.bool true) ∧ Below w.heap.size w w' := by
  by_cases hs : a.length ≤ 1048576
  · have hN := Lib.hid (show (nfL a).length ≤ 9223372036854775807 from Nat.le_trans (nfL_bound a) hm)
    have hN1 := nfL_bound a
    go_enter Try.func11, Try.ntmps11
    have hw0 : Below w.heap.size w w := Below.refl _ _
    go_wp2_with fail
    refine (szLineS_ok A a.length c 1048576 _ hm (by omega) (by omega)).mono ?_
    rintro e w' ⟨rfl, rfl⟩
    go_wp2_with fail
    refine (toLineS_ a A c _ rd hs).mono ?_
    rintro e w1 ⟨As, cs, rfl, own1, hb1⟩
    have hw1 := below_next hw0 hb1
    have sz1 : w.heap.size ≤ w1.heap.size := hb1.size
    have os1 := own1
    clear own1
    have LOs := Lib.hid (show ∀ g, (Value.slice As (a.length) cs).ownBlock = some g → w.heap.size ≤ g from fun g hg => (os1.lt g hg).1)
    have HIs := Lib.hid (show ∀ g, (Value.slice As (a.length) cs).ownBlock = some g → g < w1.heap.size from fun g hg => (os1.lt g hg).2)
    go_wp2_with fail
    refine (sNormalForm_ a As cs _ (rd_of_own os1) hm).mono ?_
    rintro e w2 ⟨Ap, cp, rfl, own2, hb2⟩
    have hw2 := below_next hw1 hb2
    have sz2 : w1.heap.size ≤ w2.heap.size := hb2.size
    have os2 := own_next os1 hb2
    clear os1
    have op2 := own2
    clear own2
    have LOp := Lib.hid (show ∀ g, (Value.slice Ap ((nfL a).length) cp).ownBlock = some g → w1.heap.size ≤ g from fun g hg => (op2.lt g hg).1)
    have HIp := Lib.hid (show ∀ g, (Value.slice Ap ((nfL a).length) cp).ownBlock = some g → g < w2.heap.size from fun g hg => (op2.lt g hg).2)
    clear os2 LOs HIs
    go_wp2_with fail
    refine (toLineS_ a A c _ ((rd.below hw2).more hw2.size) hs).mono ?_
    rintro e w3 ⟨Ax, cx, rfl, own3, hb3⟩
    have hw3 := below_next hw2 hb3
    have sz3 : w2.heap.size ≤ w3.heap.size := hb3.size
    have op3 := own_next op2 hb3
    clear op2
    have ox3 := own3
    clear own3
    have LOx := Lib.hid (show ∀ g, (Value.slice Ax (a.length) cx).ownBlock = some g → w2.heap.size ≤ g from fun g hg => (ox3.lt g hg).1)
    have HIx := Lib.hid (show ∀ g, (Value.slice Ax (a.length) cx).ownBlock = some g → g < w3.heap.size from fun g hg => (ox3.lt g hg).2)
    go_wp2_with fail
    refine (iNormalForm_ a Ax cx _ (rd_of_own ox3) hm).mono ?_
    rintro e w4 ⟨Ag, cg, rfl, own4, hb4⟩
    have hw4 := below_next hw3 hb4
    have sz4 : w3.heap.size ≤ w4.heap.size := hb4.size
    have op4 := own_next op3 hb4
    have ox4 := own_next ox3 hb4
    clear op3 ox3
    have og4 := own4
    clear own4
    have LOg := Lib.hid (show ∀ g, (Value.slice Ag ((nfL a).length) cg).ownBlock = some g → w3.heap.size ≤ g from fun g hg => (og4.lt g hg).1)
    have HIg := Lib.hid (show ∀ g, (Value.slice Ag ((nfL a).length) cg).ownBlock = some g → g < w4.heap.size from fun g hg => (og4.lt g hg).2)
    go_wp2_with fail
    refine (is_ (eqLineS_n (nfL a) (nfL a) Ag Ap _ _ cg cp _ rfl rfl (rd_of_own og4) (rd_of_own op4) hN.out hN.out) (eqB_refl _)).mono ?_
    rintro e w5 ⟨rfl, hb5⟩
    have hw5 := below_next hw4 hb5
    have sz5 : w4.heap.size ≤ w5.heap.size := hb5.size
    have op5 := own_next op4 hb5
    have ox5 := own_next ox4 hb5
    have og5 := own_next og4 hb5
    clear op4 ox4 og4
    go_wp2_with fail
    refine (toLineS_ a A c _ ((rd.below hw5).more hw5.size) hs).mono ?_
    rintro e w6 ⟨Au, cu, rfl, own6, hb6⟩
    have hw6 := below_next hw5 hb6
    have sz6 : w5.heap.size ≤ w6.heap.size := hb6.size
    have op6 := own_next op5 hb6
    have ox6 := own_next ox5 hb6
    have og6 := own_next og5 hb6
    clear op5 ox5 og5
    have ou6 := own6
    clear own6
    have LOu := Lib.hid (show ∀ g, (Value.slice Au (a.length) cu).ownBlock = some g → w5.heap.size ≤ g from fun g hg => (ou6.lt g hg).1)
    have HIu := Lib.hid (show ∀ g, (Value.slice Au (a.length) cu).ownBlock = some g → g < w6.heap.size from fun g hg => (ou6.lt g hg).2)
    go_wp2_with fail
    refine (is_ (eqLineS_n (a) (a) Ax Au _ _ cx cu _ rfl rfl (rd_of_own ox6) (rd_of_own ou6) hm hm) (eqB_refl _)).mono ?_
    rintro e w7 ⟨rfl, hb7⟩
    have hw7 := below_next hw6 hb7
    have sz7 : w6.heap.size ≤ w7.heap.size := hb7.size
    have op7 := own_next op6 hb7
    have ox7 := own_next ox6 hb7
    have og7 := own_next og6 hb7
    have ou7 := own_next ou6 hb7
    clear op6 ox6 og6 ou6
    clear ou7 LOu HIu
    go_wp2_with fail
    refine (markLineS_ _ a Ax a.length cx 1 _ ox7 (by omega) (by omega)).mono ?_
    rintro e w8 ⟨rfl, own8, hg8⟩
    have sz8 : w7.heap.size ≤ w8.heap.size := hg8.size
    have hw8 := hw7.grown hg8 hw7.size (fun g hg => by have := LOx.out g hg; omega)
    have op8 := own_kept_low (S := w2.heap.size) op7 hg8 (fun g hg => Nat.lt_of_lt_of_le (HIp.out g hg) (by omega)) (fun g hg => LOx.out g hg)
    have og8 := own_kept_high (S := w3.heap.size) og7 hg8 (fun g hg => LOg.out g hg) (fun g hg => Nat.lt_of_lt_of_le (HIx.out g hg) (by omega))
    have ox8 := own8
    clear own8 hg8 op7 ox7 og7
    go_wp2_with fail
    refine (is_ (eqLineS_n (nfL a) (nfL a) Ag Ap _ _ cg cp _ rfl rfl (rd_of_own og8) (rd_of_own op8) hN.out hN.out) (eqB_refl _)).mono ?_
    rintro e w9 ⟨rfl, hb9⟩
    have hw9 := below_next hw8 hb9
    have sz9 : w8.heap.size ≤ w9.heap.size := hb9.size
    have op9 := own_next op8 hb9
    have ox9 := own_next ox8 hb9
    have og9 := own_next og8 hb9
    clear op8 ox8 og8
    clear ox9 LOx HIx
    go_wp2_with fail
    refine (markLineS_ _ (nfL a) Ag ((nfL a).length) cg 1 _ og9 (by omega) (by omega)).mono ?_
    rintro e w10 ⟨rfl, own10, hg10⟩
    have sz10 : w9.heap.size ≤ w10.heap.size := hg10.size
    have hw10 := hw9.grown hg10 hw9.size (fun g hg => by have := LOg.out g hg; omega)
    have op10 := own_kept_low (S := w3.heap.size) op9 hg10 (fun g hg => Nat.lt_of_lt_of_le (HIp.out g hg) (by omega)) (fun g hg => LOg.out g hg)
    have og10 := own10
    clear own10 hg10 op9 og9
    go_wp2_with fail
    refine (heldLineS_ Ag ((nfL a).length) cg 1 _ (rd_of_own og10) (by omega) (by omega)).mono ?_
    rintro e w' ⟨rfl, rfl⟩
    go_wp2_with fail
    refine (toLineS_ a A c _ ((rd.below hw10).more hw10.size) hs).mono ?_
    rintro e w11 ⟨Au, cu, rfl, own11, hb11⟩
    have hw11 := below_next hw10 hb11
    have sz11 : w10.heap.size ≤ w11.heap.size := hb11.size
    have op11 := own_next op10 hb11
    have og11 := own_next og10 hb11
    clear op10 og10
    have ou11 := own11
    clear own11
    have LOu := Lib.hid (show ∀ g, (Value.slice Au (a.length) cu).ownBlock = some g → w10.heap.size ≤ g from fun g hg => (ou11.lt g hg).1)
    have HIu := Lib.hid (show ∀ g, (Value.slice Au (a.length) cu).ownBlock = some g → g < w11.heap.size from fun g hg => (ou11.lt g hg).2)
    go_wp2_with fail
    refine (iNormalForm_ a Au cu _ (rd_of_own ou11) hm).mono ?_
    rintro e w12 ⟨Ah, ch, rfl, own12, hb12⟩
    have hw12 := below_next hw11 hb12
    have sz12 : w11.heap.size ≤ w12.heap.size := hb12.size
    have op12 := own_next op11 hb12
    have og12 := own_next og11 hb12
    have ou12 := own_next ou11 hb12
    clear op11 og11 ou11
    have oh12 := own12
    clear own12
    have LOh := Lib.hid (show ∀ g, (Value.slice Ah ((nfL a).length) ch).ownBlock = some g → w11.heap.size ≤ g from fun g hg => (oh12.lt g hg).1)
    have HIh := Lib.hid (show ∀ g, (Value.slice Ah ((nfL a).length) ch).ownBlock = some g → g < w12.heap.size from fun g hg => (oh12.lt g hg).2)
    go_wp2_with fail
    refine (is_ (eqLineS_n (nfL a) (nfL a) Ah Ap _ _ ch cp _ rfl rfl (rd_of_own oh12) (rd_of_own op12) hN.out hN.out) (eqB_refl _)).mono ?_
    rintro e w13 ⟨rfl, hb13⟩
    have hw13 := below_next hw12 hb13
    have sz13 : w12.heap.size ≤ w13.heap.size := hb13.size
    have op13 := own_next op12 hb13
    have og13 := own_next og12 hb13
    have ou13 := own_next ou12 hb13
    have oh13 := own_next oh12 hb13
    clear op12 og12 ou12 oh12
    go_wp2_with fail
    refine (heldLineS_ Ag ((nfL a).length) cg 1 _ (rd_of_own og13) (by omega) (by omega)).mono ?_
    rintro e w' ⟨rfl, rfl⟩
    go_wp2
    go_ret
    exact ⟨rfl, hw13⟩
  · go_enter Try.func11, Try.ntmps11
    go_wp2_with (go_at_call 25; refine (szLineS_no A a.length c 1048576 _ hm (by omega) (by omega) (by omega)).mono ?_; rintro e w' ⟨rfl, rfl⟩)
    go_ret
    exact ⟨rfl, Below.refl _ _⟩
end Go.Proofs.Ytbefkagmgpcfdaa

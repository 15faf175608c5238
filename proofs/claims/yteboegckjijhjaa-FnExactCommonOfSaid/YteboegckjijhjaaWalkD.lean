/- The walk of the law of CommonOf. -/
import Derived.Test.YteboegckjijhjaaChecked
import Derived.Test.YteboegckjijhjaaMem
import Derived.Tactics
import Derived.Tactics2
import Derived.WalkKit
import Derived.WalkSpells
import Derived.WalkLawsBesides
import Derived.Deep.QuietTactic
import Derived.BigQuiet
import Derived.BigGuardPart
import Derived.Lib.QuietBelow
import Derived.OwnWalk
import Derived.KernelRfl
import Derived.Test.YteboegckjijhjaaCom
import Derived.Test.YteboegckjijhjaaOpen
set_option linter.unusedVariables false
namespace Go.Proofs.Yteboegckjijhjaa
open Go.RowKit Go.Sort

set_option maxHeartbeats 1000000 in
theorem fnExactCommonOf_walk (a : List Int) (A : Option Addr) (ca : Nat) (b : List Int) (B : Option Addr) (cb : Nat) (w : World) (rd : Rd w w.heap.size A (ints a)) (hm : a.length ≤ 9223372036854775807) (_ : ∀ x ∈ a, I64 x) (rd2 : Rd w w.heap.size B (ints b)) (hm2 : b.length ≤ 9223372036854775807) (_ : ∀ x ∈ b, I64 x) :
    Calls Try.prog 14 #[.slice A a.length ca, .slice B b.length cb] w fun e w' => e = .returned (.bool true) ∧ Below w.heap.size w w' := by
  by_cases hs : a.length ≤ 1048576
  · by_cases hs2 : b.length ≤ 1048576
    · have hcl := common_le a b
      have hN : (common a b).length ≤ 9223372036854775807 := by omega
      have hN2 : (common a b).length ≤ 1048576 := by omega
      go_enter Try.func14, Try.ntmps14
      have hw0 : Below w.heap.size w w := Below.refl _ _
      go_wp2_with fail
      refine (toIntS_ a A ca _ rd hs).mono ?_
      rintro e w1 ⟨As, cs, rfl, own1, hb1⟩
      have hw1 := below_next hw0 hb1
      have sz1 : w.heap.size ≤ w1.heap.size := hb1.size
      have os1 := own1
      clear own1
      have LOs := Lib.hid (show ∀ g, (Value.slice As (a.length) cs).ownBlock = some g → w.heap.size ≤ g from fun g hg => (os1.lt g hg).1)
      have HIs := Lib.hid (show ∀ g, (Value.slice As (a.length) cs).ownBlock = some g → g < w1.heap.size from fun g hg => (os1.lt g hg).2)
      go_wp2_with fail
      refine (toIntS_ b B cb _ ((rd2.below hw1).more hw1.size) hs2).mono ?_
      rintro e w2 ⟨At, ct, rfl, own2, hb2⟩
      have hw2 := below_next hw1 hb2
      have sz2 : w1.heap.size ≤ w2.heap.size := hb2.size
      have os2 := own_next os1 hb2
      clear os1
      have ot2 := own2
      clear own2
      have LOt := Lib.hid (show ∀ g, (Value.slice At (b.length) ct).ownBlock = some g → w1.heap.size ≤ g from fun g hg => (ot2.lt g hg).1)
      have HIt := Lib.hid (show ∀ g, (Value.slice At (b.length) ct).ownBlock = some g → g < w2.heap.size from fun g hg => (ot2.lt g hg).2)
      go_wp2_with fail
      refine (sCommonOf_ a b As At cs ct _ (rd_of_own os2) (rd_of_own ot2) hs hs2).mono ?_
      rintro e w3 ⟨Ap, cp, rfl, own3, hb3⟩
      have hw3 := below_next hw2 hb3
      have sz3 : w2.heap.size ≤ w3.heap.size := hb3.size
      have os3 := own_next os2 hb3
      have ot3 := own_next ot2 hb3
      clear os2 ot2
      have op3 := own3
      clear own3
      have LOp := Lib.hid (show ∀ g, (Value.slice Ap ((common a b).length) cp).ownBlock = some g → w2.heap.size ≤ g from fun g hg => (op3.lt g hg).1)
      have HIp := Lib.hid (show ∀ g, (Value.slice Ap ((common a b).length) cp).ownBlock = some g → g < w3.heap.size from fun g hg => (op3.lt g hg).2)
      clear os3 LOs HIs
      clear ot3 LOt HIt
      go_wp2_with fail
      refine (toIntS_ a A ca _ ((rd.below hw3).more hw3.size) hs).mono ?_
      rintro e w4 ⟨Ax, cx, rfl, own4, hb4⟩
      have hw4 := below_next hw3 hb4
      have sz4 : w3.heap.size ≤ w4.heap.size := hb4.size
      have op4 := own_next op3 hb4
      clear op3
      have ox4 := own4
      clear own4
      have LOx := Lib.hid (show ∀ g, (Value.slice Ax (a.length) cx).ownBlock = some g → w3.heap.size ≤ g from fun g hg => (ox4.lt g hg).1)
      have HIx := Lib.hid (show ∀ g, (Value.slice Ax (a.length) cx).ownBlock = some g → g < w4.heap.size from fun g hg => (ox4.lt g hg).2)
      go_wp2_with fail
      refine (toIntS_ b B cb _ ((rd2.below hw4).more hw4.size) hs2).mono ?_
      rintro e w5 ⟨Ay, cy, rfl, own5, hb5⟩
      have hw5 := below_next hw4 hb5
      have sz5 : w4.heap.size ≤ w5.heap.size := hb5.size
      have op5 := own_next op4 hb5
      have ox5 := own_next ox4 hb5
      clear op4 ox4
      have oy5 := own5
      clear own5
      have LOy := Lib.hid (show ∀ g, (Value.slice Ay (b.length) cy).ownBlock = some g → w4.heap.size ≤ g from fun g hg => (oy5.lt g hg).1)
      have HIy := Lib.hid (show ∀ g, (Value.slice Ay (b.length) cy).ownBlock = some g → g < w5.heap.size from fun g hg => (oy5.lt g hg).2)
      go_wp2_with fail
      refine (iCommonOf_ a b Ax Ay cx cy _ (rd_of_own ox5) (rd_of_own oy5) hs hs2).mono ?_
      rintro e w6 ⟨Ag, cg, rfl, own6, hb6⟩
      have hw6 := below_next hw5 hb6
      have sz6 : w5.heap.size ≤ w6.heap.size := hb6.size
      have op6 := own_next op5 hb6
      have ox6 := own_next ox5 hb6
      have oy6 := own_next oy5 hb6
      clear op5 ox5 oy5
      have og6 := own6
      clear own6
      have LOg := Lib.hid (show ∀ g, (Value.slice Ag ((common a b).length) cg).ownBlock = some g → w5.heap.size ≤ g from fun g hg => (og6.lt g hg).1)
      have HIg := Lib.hid (show ∀ g, (Value.slice Ag ((common a b).length) cg).ownBlock = some g → g < w6.heap.size from fun g hg => (og6.lt g hg).2)
      go_wp2_with fail
      refine (is_ (eqIntS_ (common a b) (common a b) Ag Ap cg cp _ (rd_of_own og6) (rd_of_own op6) hN hN) (eqB_refl _)).mono ?_
      rintro e w7 ⟨rfl, hb7⟩
      have hw7 := below_next hw6 hb7
      have sz7 : w6.heap.size ≤ w7.heap.size := hb7.size
      have op7 := own_next op6 hb7
      have ox7 := own_next ox6 hb7
      have oy7 := own_next oy6 hb7
      have og7 := own_next og6 hb7
      clear op6 ox6 oy6 og6
      go_wp2_with fail
      refine (toIntS_ a A ca _ ((rd.below hw7).more hw7.size) hs).mono ?_
      rintro e w8 ⟨Au, cu, rfl, own8, hb8⟩
      have hw8 := below_next hw7 hb8
      have sz8 : w7.heap.size ≤ w8.heap.size := hb8.size
      have op8 := own_next op7 hb8
      have ox8 := own_next ox7 hb8
      have oy8 := own_next oy7 hb8
      have og8 := own_next og7 hb8
      clear op7 ox7 oy7 og7
      have ou8 := own8
      clear own8
      have LOu := Lib.hid (show ∀ g, (Value.slice Au (a.length) cu).ownBlock = some g → w7.heap.size ≤ g from fun g hg => (ou8.lt g hg).1)
      have HIu := Lib.hid (show ∀ g, (Value.slice Au (a.length) cu).ownBlock = some g → g < w8.heap.size from fun g hg => (ou8.lt g hg).2)
      go_wp2_with fail
      refine (is_ (eqIntS_ a a Ax Au cx cu _ (rd_of_own ox8) (rd_of_own ou8) hm hm) (eqB_refl _)).mono ?_
      rintro e w9 ⟨rfl, hb9⟩
      have hw9 := below_next hw8 hb9
      have sz9 : w8.heap.size ≤ w9.heap.size := hb9.size
      have op9 := own_next op8 hb9
      have ox9 := own_next ox8 hb9
      have oy9 := own_next oy8 hb9
      have og9 := own_next og8 hb9
      have ou9 := own_next ou8 hb9
      clear op8 ox8 oy8 og8 ou8
      clear ou9 LOu HIu
      go_wp2_with fail
      refine (toIntS_ b B cb _ ((rd2.below hw9).more hw9.size) hs2).mono ?_
      rintro e w10 ⟨Av, cv, rfl, own10, hb10⟩
      have hw10 := below_next hw9 hb10
      have sz10 : w9.heap.size ≤ w10.heap.size := hb10.size
      have op10 := own_next op9 hb10
      have ox10 := own_next ox9 hb10
      have oy10 := own_next oy9 hb10
      have og10 := own_next og9 hb10
      clear op9 ox9 oy9 og9
      have ov10 := own10
      clear own10
      have LOv := Lib.hid (show ∀ g, (Value.slice Av (b.length) cv).ownBlock = some g → w9.heap.size ≤ g from fun g hg => (ov10.lt g hg).1)
      have HIv := Lib.hid (show ∀ g, (Value.slice Av (b.length) cv).ownBlock = some g → g < w10.heap.size from fun g hg => (ov10.lt g hg).2)
      go_wp2_with fail
      refine (is_ (eqIntS_ b b Ay Av cy cv _ (rd_of_own oy10) (rd_of_own ov10) hm2 hm2) (eqB_refl _)).mono ?_
      rintro e w11 ⟨rfl, hb11⟩
      have hw11 := below_next hw10 hb11
      have sz11 : w10.heap.size ≤ w11.heap.size := hb11.size
      have op11 := own_next op10 hb11
      have ox11 := own_next ox10 hb11
      have oy11 := own_next oy10 hb11
      have og11 := own_next og10 hb11
      have ov11 := own_next ov10 hb11
      clear op10 ox10 oy10 og10 ov10
      clear ov11 LOv HIv
      go_wp2_with fail
      refine (markIntS_ _ a Ax a.length cx 1 _ ox11 (by omega) (by omega)).mono ?_
      rintro e w12 ⟨rfl, own12, hg12⟩
      have sz12 : w11.heap.size ≤ w12.heap.size := hg12.size
      have hw12 := hw11.grown hg12 hw11.size (fun g hg => by have := LOx.out g hg; omega)
      have op12 := own_kept_low (S := w3.heap.size) op11 hg12 (fun g hg => Nat.lt_of_lt_of_le (HIp.out g hg) (by omega)) (fun g hg => LOx.out g hg)
      have oy12 := own_kept_high (S := w4.heap.size) oy11 hg12 (fun g hg => LOy.out g hg) (fun g hg => Nat.lt_of_lt_of_le (HIx.out g hg) (by omega))
      have og12 := own_kept_high (S := w5.heap.size) og11 hg12 (fun g hg => LOg.out g hg) (fun g hg => Nat.lt_of_lt_of_le (HIx.out g hg) (by omega))
      have ox12 := own12
      clear own12 hg12 op11 ox11 oy11 og11
      go_wp2_with fail
      refine (markIntS_ _ b Ay b.length cy (1 + a.length) _ oy12 (by omega) (by omega)).mono ?_
      rintro e w13 ⟨rfl, own13, hg13⟩
      have sz13 : w12.heap.size ≤ w13.heap.size := hg13.size
      have hw13 := hw12.grown hg13 hw12.size (fun g hg => by have := LOy.out g hg; omega)
      have op13 := own_kept_low (S := w4.heap.size) op12 hg13 (fun g hg => Nat.lt_of_lt_of_le (HIp.out g hg) (by omega)) (fun g hg => LOy.out g hg)
      have ox13 := own_kept_low (S := w4.heap.size) ox12 hg13 (fun g hg => Nat.lt_of_lt_of_le (HIx.out g hg) (by omega)) (fun g hg => LOy.out g hg)
      have og13 := own_kept_high (S := w5.heap.size) og12 hg13 (fun g hg => LOg.out g hg) (fun g hg => Nat.lt_of_lt_of_le (HIy.out g hg) (by omega))
      have oy13 := own13
      clear own13 hg13 op12 ox12 oy12 og12
      go_wp2_with fail
      refine (is_ (eqIntS_ (common a b) (common a b) Ag Ap cg cp _ (rd_of_own og13) (rd_of_own op13) hN hN) (eqB_refl _)).mono ?_
      rintro e w14 ⟨rfl, hb14⟩
      have hw14 := below_next hw13 hb14
      have sz14 : w13.heap.size ≤ w14.heap.size := hb14.size
      have op14 := own_next op13 hb14
      have ox14 := own_next ox13 hb14
      have oy14 := own_next oy13 hb14
      have og14 := own_next og13 hb14
      clear op13 ox13 oy13 og13
      clear ox14 LOx HIx
      clear oy14 LOy HIy
      go_wp2_with fail
      refine (markIntS_ _ (common a b) Ag (common a b).length cg 1 _ og14 (by omega) (by omega)).mono ?_
      rintro e w15 ⟨rfl, own15, hg15⟩
      have sz15 : w14.heap.size ≤ w15.heap.size := hg15.size
      have hw15 := hw14.grown hg15 hw14.size (fun g hg => by have := LOg.out g hg; omega)
      have op15 := own_kept_low (S := w5.heap.size) op14 hg15 (fun g hg => Nat.lt_of_lt_of_le (HIp.out g hg) (by omega)) (fun g hg => LOg.out g hg)
      have og15 := own15
      clear own15 hg15 op14 og14
      go_wp2_with fail
      refine (heldIntS_ Ag (common a b).length cg 1 _ (rd_of_own og15) (by omega) (by omega)).mono ?_
      rintro e w' ⟨rfl, rfl⟩
      go_wp2_with fail
      refine (toIntS_ a A ca _ ((rd.below hw15).more hw15.size) hs).mono ?_
      rintro e w16 ⟨Au, cu, rfl, own16, hb16⟩
      have hw16 := below_next hw15 hb16
      have sz16 : w15.heap.size ≤ w16.heap.size := hb16.size
      have op16 := own_next op15 hb16
      have og16 := own_next og15 hb16
      clear op15 og15
      have ou16 := own16
      clear own16
      have LOu := Lib.hid (show ∀ g, (Value.slice Au (a.length) cu).ownBlock = some g → w15.heap.size ≤ g from fun g hg => (ou16.lt g hg).1)
      have HIu := Lib.hid (show ∀ g, (Value.slice Au (a.length) cu).ownBlock = some g → g < w16.heap.size from fun g hg => (ou16.lt g hg).2)
      go_wp2_with fail
      refine (toIntS_ b B cb _ ((rd2.below hw16).more hw16.size) hs2).mono ?_
      rintro e w17 ⟨Av, cv, rfl, own17, hb17⟩
      have hw17 := below_next hw16 hb17
      have sz17 : w16.heap.size ≤ w17.heap.size := hb17.size
      have op17 := own_next op16 hb17
      have og17 := own_next og16 hb17
      have ou17 := own_next ou16 hb17
      clear op16 og16 ou16
      have ov17 := own17
      clear own17
      have LOv := Lib.hid (show ∀ g, (Value.slice Av (b.length) cv).ownBlock = some g → w16.heap.size ≤ g from fun g hg => (ov17.lt g hg).1)
      have HIv := Lib.hid (show ∀ g, (Value.slice Av (b.length) cv).ownBlock = some g → g < w17.heap.size from fun g hg => (ov17.lt g hg).2)
      go_wp2_with fail
      refine (iCommonOf_ a b Au Av cu cv _ (rd_of_own ou17) (rd_of_own ov17) hs hs2).mono ?_
      rintro e w18 ⟨Ah, ch, rfl, own18, hb18⟩
      have hw18 := below_next hw17 hb18
      have sz18 : w17.heap.size ≤ w18.heap.size := hb18.size
      have op18 := own_next op17 hb18
      have og18 := own_next og17 hb18
      have ou18 := own_next ou17 hb18
      have ov18 := own_next ov17 hb18
      clear op17 og17 ou17 ov17
      have oh18 := own18
      clear own18
      have LOh := Lib.hid (show ∀ g, (Value.slice Ah ((common a b).length) ch).ownBlock = some g → w17.heap.size ≤ g from fun g hg => (oh18.lt g hg).1)
      have HIh := Lib.hid (show ∀ g, (Value.slice Ah ((common a b).length) ch).ownBlock = some g → g < w18.heap.size from fun g hg => (oh18.lt g hg).2)
      go_wp2_with fail
      refine (is_ (eqIntS_ (common a b) (common a b) Ah Ap ch cp _ (rd_of_own oh18) (rd_of_own op18) hN hN) (eqB_refl _)).mono ?_
      rintro e w19 ⟨rfl, hb19⟩
      have hw19 := below_next hw18 hb19
      have sz19 : w18.heap.size ≤ w19.heap.size := hb19.size
      have op19 := own_next op18 hb19
      have og19 := own_next og18 hb19
      have ou19 := own_next ou18 hb19
      have ov19 := own_next ov18 hb19
      have oh19 := own_next oh18 hb19
      clear op18 og18 ou18 ov18 oh18
      go_wp2_with fail
      refine (heldIntS_ Ag (common a b).length cg 1 _ (rd_of_own og19) (by omega) (by omega)).mono ?_
      rintro e w' ⟨rfl, rfl⟩
      go_wp2
      go_ret
      exact ⟨rfl, hw19⟩
    · go_enter Try.func14, Try.ntmps14
      go_wp2_with fail
      go_ret
      exact ⟨rfl, Below.refl _ _⟩
  · go_enter Try.func14, Try.ntmps14
    go_wp2_with fail
    go_ret
    exact ⟨rfl, Below.refl _ _⟩
end Go.Proofs.Yteboegckjijhjaa

/- The walk of the law FnExactPackageOf. -/
import Derived.Test.YtfbpnfjaheeooaaChecked
import Derived.Test.YtfbpnfjaheeooaaMem
import Derived.Tactics
import Derived.Tactics2
import Derived.WalkKit
import Derived.WalkSpells
import Derived.WalkLawsBesides
import Derived.Deep.QuietTactic
import Derived.BigQuiet
import Derived.BigGuardPart
import Derived.Lib.QuietBelow
import Derived.OwnWalk
import Derived.KernelRfl
import Derived.Test.YtfbpnfjaheeooaaPackB
import Derived.Test.YtfbpnfjaheeooaaHelpP
import Derived.Test.YtfbpnfjaheeooaaSymB
import Derived.Test.YtfbpnfjaheeooaaOrdB
import Derived.Test.YtfbpnfjaheeooaaOpen
set_option linter.unusedVariables false
set_option maxRecDepth 20000
namespace Go.Proofs.Ytfbpnfjaheeooaa
open Go.RowKit Go.Sort

set_option maxHeartbeats 2000000 in
theorem fnExactPackageOf_walk (b : Ln) (p : Int) (a : List Ln) (A : Option Addr) (c : Nat) (w : World) (_ : I64 b.f ∧ I64 b.o ∧ I64 b.t) (hp : I64 p) (rd : Rd w w.heap.size A (flat a)) (hm : a.length ≤ 9223372036854775807) (_ : ∀ l ∈ a, I64 l.f ∧ I64 l.o ∧ I64 l.t) :
    Calls Try.prog 10 #[.agg #[.int .i64 b.f, .int .i64 b.o, .int .i64 b.t], .int .i64 p, .slice A a.length c] w fun e w' => e = .returned (.bool true) ∧ Below w.heap.size w w' := by
  by_cases hs : a.length ≤ 1048576
  · have hJ := pack_le (b := b) (p := p) (ls := a)
    have hmJ : (packL b p a).length ≤ 9223372036854775807 := by omega
    go_enter Try.func10, Try.ntmps10
    have hw0 : Below w.heap.size w w := Below.refl _ _
    go_wp2_with fail
    refine (szLineS_ok A a.length c 1048576 _ hm (by omega) (by omega)).mono ?_
    rintro e w' ⟨rfl, rfl⟩
    go_wp2_with fail
    refine (toBoard_ b _).mono ?_
    rintro e w1 ⟨rfl, hb1⟩
    have hn1 : Below w.heap.size w w1 := below_step ((Below.refl _ _).alloc (by first | exact Nat.le_refl _ | (simp; try omega)) _) hb1 (by (try simp); (try omega))
    have hw1 : Below w.heap.size w w1 := below_next hw0 hn1
    have sz1 : w.heap.size + 1 ≤ w1.heap.size := by have := hb1.size; (try simp at this); omega
    have zB1_0_1 : w.heap.size < w1.heap.size := by omega
    have c0_1 : w1.cell? ⟨w.heap.size, 0, none⟩ = some (.int .i64 b.f) := by rw [hb1.cell (p := ⟨w.heap.size, 0, none⟩) (by simp; try omega)]; simp [go_sem]
    have c1_1 : w1.cell? ⟨w.heap.size, 1, none⟩ = some (.int .i64 b.o) := by rw [hb1.cell (p := ⟨w.heap.size, 1, none⟩) (by simp; try omega)]; simp [go_sem]
    have c2_1 : w1.cell? ⟨w.heap.size, 2, none⟩ = some (.int .i64 b.t) := by rw [hb1.cell (p := ⟨w.heap.size, 2, none⟩) (by simp; try omega)]; simp [go_sem]
    go_wp2_with fail
    refine (toLineS_ a A c _ ((rd.below hw1).more hw1.size) hs).mono ?_
    rintro e w2 ⟨As, cs, rfl, own2, hb2⟩
    have hn2 : Below w1.heap.size w1 w2 := hb2
    have hw2 : Below w.heap.size w w2 := below_next hw1 hn2
    have sz2 : w1.heap.size + 0 ≤ w2.heap.size := by have := hb2.size; (try simp at this); omega
    have zB1_0_2 : w.heap.size < w2.heap.size := by omega
    have c0_2 := (hn2.cell (p := ⟨w.heap.size, 0, none⟩) (show w.heap.size < w1.heap.size by omega)).trans c0_1
    have c1_2 := (hn2.cell (p := ⟨w.heap.size, 1, none⟩) (show w.heap.size < w1.heap.size by omega)).trans c1_1
    have c2_2 := (hn2.cell (p := ⟨w.heap.size, 2, none⟩) (show w.heap.size < w1.heap.size by omega)).trans c2_1
    clear c0_1 c1_1 c2_1 zB1_0_1
    have os2 := own2
    clear own2
    have LOs := Lib.hid (show ∀ g, (Value.slice As (a.length) cs).ownBlock = some g → w1.heap.size ≤ g from fun g hg => by have := (os2.lt g hg).1; (try simp at this); omega)
    have HIs := Lib.hid (show ∀ g, (Value.slice As (a.length) cs).ownBlock = some g → g < w2.heap.size from fun g hg => (os2.lt g hg).2)
    go_wp2_with fail
    refine (sPackageOf_ b p hp a As cs hs _ (rd_of_own os2)).mono ?_
    rintro e w3 ⟨AW, cW, rfl, own3, hb3⟩
    have hn3 : Below w2.heap.size w2 w3 := hb3
    have hw3 : Below w.heap.size w w3 := below_next hw2 hn3
    have sz3 : w2.heap.size + 0 ≤ w3.heap.size := by have := hb3.size; (try simp at this); omega
    have zB1_0_3 : w.heap.size < w3.heap.size := by omega
    have c0_3 := (hn3.cell (p := ⟨w.heap.size, 0, none⟩) (show w.heap.size < w2.heap.size by omega)).trans c0_2
    have c1_3 := (hn3.cell (p := ⟨w.heap.size, 1, none⟩) (show w.heap.size < w2.heap.size by omega)).trans c1_2
    have c2_3 := (hn3.cell (p := ⟨w.heap.size, 2, none⟩) (show w.heap.size < w2.heap.size by omega)).trans c2_2
    have os3 := own_next os2 hn3
    clear c0_2 c1_2 c2_2 os2 zB1_0_2
    have oW3 := own3
    clear own3
    have LOW := Lib.hid (show ∀ g, (Value.slice AW ((packL b p a).length) cW).ownBlock = some g → w2.heap.size ≤ g from fun g hg => by have := (oW3.lt g hg).1; (try simp at this); omega)
    have HIW := Lib.hid (show ∀ g, (Value.slice AW ((packL b p a).length) cW).ownBlock = some g → g < w3.heap.size from fun g hg => (oW3.lt g hg).2)
    clear os3 LOs HIs
    go_wp2_with fail
    refine (toLineS_ a A c _ (((rd.below hw3).more hw3.size).laid _) hs).mono ?_
    rintro e w4 ⟨Ax, cx, rfl, own4, hb4⟩
    have hn4 : Below w3.heap.size w3 w4 := below_step ((Below.refl _ _).alloc (by first | exact Nat.le_refl _ | (simp; try omega)) _) hb4 (by (try simp); (try omega))
    have hw4 : Below w.heap.size w w4 := below_next hw3 hn4
    have sz4 : w3.heap.size + 1 ≤ w4.heap.size := by have := hb4.size; (try simp at this); omega
    have zB1_0_4 : w.heap.size < w4.heap.size := by omega
    have c0_4 := (hn4.cell (p := ⟨w.heap.size, 0, none⟩) (show w.heap.size < w3.heap.size by omega)).trans c0_3
    have c1_4 := (hn4.cell (p := ⟨w.heap.size, 1, none⟩) (show w.heap.size < w3.heap.size by omega)).trans c1_3
    have c2_4 := (hn4.cell (p := ⟨w.heap.size, 2, none⟩) (show w.heap.size < w3.heap.size by omega)).trans c2_3
    have zB4_0_4 : w3.heap.size < w4.heap.size := by omega
    have d0_4 : w4.cell? ⟨w3.heap.size, 0, none⟩ = some (.int .i64 (packN b p a)) := by rw [hb4.cell (p := ⟨w3.heap.size, 0, none⟩) (by simp; try omega)]; simp [go_sem]
    have d1_4 : w4.cell? ⟨w3.heap.size, 1, none⟩ = some (.int .i64 (packG b p a)) := by rw [hb4.cell (p := ⟨w3.heap.size, 1, none⟩) (by simp; try omega)]; simp [go_sem]
    have d2_4 : w4.cell? ⟨w3.heap.size, 2, none⟩ = some (.slice AW (packL b p a).length cW) := by rw [hb4.cell (p := ⟨w3.heap.size, 2, none⟩) (by simp; try omega)]; simp [go_sem]
    have oW4 := own_next oW3 hn4
    clear c0_3 c1_3 c2_3 oW3 zB1_0_3
    have ox4 := own4
    clear own4
    have LOx := Lib.hid (show ∀ g, (Value.slice Ax (a.length) cx).ownBlock = some g → w3.heap.size + 1 ≤ g from fun g hg => by have := (ox4.lt g hg).1; (try simp at this); omega)
    have HIx := Lib.hid (show ∀ g, (Value.slice Ax (a.length) cx).ownBlock = some g → g < w4.heap.size from fun g hg => (ox4.lt g hg).2)
    go_wp2_with fail
    refine (toBoard_ b _).mono ?_
    rintro e w5 ⟨rfl, hb5⟩
    have hn5 : Below w4.heap.size w4 w5 := hb5
    have hw5 : Below w.heap.size w w5 := below_next hw4 hn5
    have sz5 : w4.heap.size + 0 ≤ w5.heap.size := by have := hb5.size; (try simp at this); omega
    have zB1_0_5 : w.heap.size < w5.heap.size := by omega
    have zB4_0_5 : w3.heap.size < w5.heap.size := by omega
    have c0_5 := (hn5.cell (p := ⟨w.heap.size, 0, none⟩) (show w.heap.size < w4.heap.size by omega)).trans c0_4
    have c1_5 := (hn5.cell (p := ⟨w.heap.size, 1, none⟩) (show w.heap.size < w4.heap.size by omega)).trans c1_4
    have c2_5 := (hn5.cell (p := ⟨w.heap.size, 2, none⟩) (show w.heap.size < w4.heap.size by omega)).trans c2_4
    have d0_5 := (hn5.cell (p := ⟨w3.heap.size, 0, none⟩) (show w3.heap.size < w4.heap.size by omega)).trans d0_4
    have d1_5 := (hn5.cell (p := ⟨w3.heap.size, 1, none⟩) (show w3.heap.size < w4.heap.size by omega)).trans d1_4
    have d2_5 := (hn5.cell (p := ⟨w3.heap.size, 2, none⟩) (show w3.heap.size < w4.heap.size by omega)).trans d2_4
    have oW5 := own_next oW4 hn5
    have ox5 := own_next ox4 hn5
    clear c0_4 c1_4 c2_4 d0_4 d1_4 d2_4 oW4 ox4 zB1_0_4 zB4_0_4
    go_wp2_with fail
    refine (iPackageOf_ b p hp a Ax cx hs _ (rd_of_own ox5)).mono ?_
    rintro e w6 ⟨AG, cG, rfl, own6, hb6⟩
    have hn6 : Below w5.heap.size w5 w6 := hb6
    have hw6 : Below w.heap.size w w6 := below_next hw5 hn6
    have sz6 : w5.heap.size + 0 ≤ w6.heap.size := by have := hb6.size; (try simp at this); omega
    have zB1_0_6 : w.heap.size < w6.heap.size := by omega
    have zB4_0_6 : w3.heap.size < w6.heap.size := by omega
    have c0_6 := (hn6.cell (p := ⟨w.heap.size, 0, none⟩) (show w.heap.size < w5.heap.size by omega)).trans c0_5
    have c1_6 := (hn6.cell (p := ⟨w.heap.size, 1, none⟩) (show w.heap.size < w5.heap.size by omega)).trans c1_5
    have c2_6 := (hn6.cell (p := ⟨w.heap.size, 2, none⟩) (show w.heap.size < w5.heap.size by omega)).trans c2_5
    have d0_6 := (hn6.cell (p := ⟨w3.heap.size, 0, none⟩) (show w3.heap.size < w5.heap.size by omega)).trans d0_5
    have d1_6 := (hn6.cell (p := ⟨w3.heap.size, 1, none⟩) (show w3.heap.size < w5.heap.size by omega)).trans d1_5
    have d2_6 := (hn6.cell (p := ⟨w3.heap.size, 2, none⟩) (show w3.heap.size < w5.heap.size by omega)).trans d2_5
    have oW6 := own_next oW5 hn6
    have ox6 := own_next ox5 hn6
    clear c0_5 c1_5 c2_5 d0_5 d1_5 d2_5 oW5 ox5 zB1_0_5 zB4_0_5
    have oG6 := own6
    clear own6
    have LOG := Lib.hid (show ∀ g, (Value.slice AG ((packL b p a).length) cG).ownBlock = some g → w5.heap.size ≤ g from fun g hg => by have := (oG6.lt g hg).1; (try simp at this); omega)
    have HIG := Lib.hid (show ∀ g, (Value.slice AG ((packL b p a).length) cG).ownBlock = some g → g < w6.heap.size from fun g hg => (oG6.lt g hg).2)
    go_wp2_with fail
    refine (eqPackage_same (packN b p a) (packG b p a) (packL b p a) AG AW cG cW hmJ _ ((rd_of_own oG6).laid _) ((rd_of_own oW6).laid _)).mono ?_
    rintro e w7 ⟨rfl, hb7⟩
    have hn7 : Below w6.heap.size w6 w7 := below_step ((Below.refl _ _).alloc (by first | exact Nat.le_refl _ | (simp; try omega)) _) hb7 (by (try simp); (try omega))
    have hw7 : Below w.heap.size w w7 := below_next hw6 hn7
    have sz7 : w6.heap.size + 1 ≤ w7.heap.size := by have := hb7.size; (try simp at this); omega
    have zB1_0_7 : w.heap.size < w7.heap.size := by omega
    have zB4_0_7 : w3.heap.size < w7.heap.size := by omega
    have c0_7 := (hn7.cell (p := ⟨w.heap.size, 0, none⟩) (show w.heap.size < w6.heap.size by omega)).trans c0_6
    have c1_7 := (hn7.cell (p := ⟨w.heap.size, 1, none⟩) (show w.heap.size < w6.heap.size by omega)).trans c1_6
    have c2_7 := (hn7.cell (p := ⟨w.heap.size, 2, none⟩) (show w.heap.size < w6.heap.size by omega)).trans c2_6
    have d0_7 := (hn7.cell (p := ⟨w3.heap.size, 0, none⟩) (show w3.heap.size < w6.heap.size by omega)).trans d0_6
    have d1_7 := (hn7.cell (p := ⟨w3.heap.size, 1, none⟩) (show w3.heap.size < w6.heap.size by omega)).trans d1_6
    have d2_7 := (hn7.cell (p := ⟨w3.heap.size, 2, none⟩) (show w3.heap.size < w6.heap.size by omega)).trans d2_6
    have zB7_0_7 : w6.heap.size < w7.heap.size := by omega
    have e0_7 : w7.cell? ⟨w6.heap.size, 0, none⟩ = some (.int .i64 (packN b p a)) := by rw [hb7.cell (p := ⟨w6.heap.size, 0, none⟩) (by simp; try omega)]; simp [go_sem]
    have e1_7 : w7.cell? ⟨w6.heap.size, 1, none⟩ = some (.int .i64 (packG b p a)) := by rw [hb7.cell (p := ⟨w6.heap.size, 1, none⟩) (by simp; try omega)]; simp [go_sem]
    have e2_7 : w7.cell? ⟨w6.heap.size, 2, none⟩ = some (.slice AG (packL b p a).length cG) := by rw [hb7.cell (p := ⟨w6.heap.size, 2, none⟩) (by simp; try omega)]; simp [go_sem]
    have oW7 := own_next oW6 hn7
    have ox7 := own_next ox6 hn7
    have oG7 := own_next oG6 hn7
    clear c0_6 c1_6 c2_6 d0_6 d1_6 d2_6 oW6 ox6 oG6 zB1_0_6 zB4_0_6
    go_wp2_with fail
    refine (toLineS_ a A c _ ((rd.below hw7).more hw7.size) hs).mono ?_
    rintro e w8 ⟨Ay, cy, rfl, own8, hb8⟩
    have hn8 : Below w7.heap.size w7 w8 := hb8
    have hw8 : Below w.heap.size w w8 := below_next hw7 hn8
    have sz8 : w7.heap.size + 0 ≤ w8.heap.size := by have := hb8.size; (try simp at this); omega
    have zB1_0_8 : w.heap.size < w8.heap.size := by omega
    have zB4_0_8 : w3.heap.size < w8.heap.size := by omega
    have zB7_0_8 : w6.heap.size < w8.heap.size := by omega
    have c0_8 := (hn8.cell (p := ⟨w.heap.size, 0, none⟩) (show w.heap.size < w7.heap.size by omega)).trans c0_7
    have c1_8 := (hn8.cell (p := ⟨w.heap.size, 1, none⟩) (show w.heap.size < w7.heap.size by omega)).trans c1_7
    have c2_8 := (hn8.cell (p := ⟨w.heap.size, 2, none⟩) (show w.heap.size < w7.heap.size by omega)).trans c2_7
    have d0_8 := (hn8.cell (p := ⟨w3.heap.size, 0, none⟩) (show w3.heap.size < w7.heap.size by omega)).trans d0_7
    have d1_8 := (hn8.cell (p := ⟨w3.heap.size, 1, none⟩) (show w3.heap.size < w7.heap.size by omega)).trans d1_7
    have d2_8 := (hn8.cell (p := ⟨w3.heap.size, 2, none⟩) (show w3.heap.size < w7.heap.size by omega)).trans d2_7
    have e0_8 := (hn8.cell (p := ⟨w6.heap.size, 0, none⟩) (show w6.heap.size < w7.heap.size by omega)).trans e0_7
    have e1_8 := (hn8.cell (p := ⟨w6.heap.size, 1, none⟩) (show w6.heap.size < w7.heap.size by omega)).trans e1_7
    have e2_8 := (hn8.cell (p := ⟨w6.heap.size, 2, none⟩) (show w6.heap.size < w7.heap.size by omega)).trans e2_7
    have oW8 := own_next oW7 hn8
    have ox8 := own_next ox7 hn8
    have oG8 := own_next oG7 hn8
    clear c0_7 c1_7 c2_7 d0_7 d1_7 d2_7 e0_7 e1_7 e2_7 oW7 ox7 oG7 zB1_0_7 zB4_0_7 zB7_0_7
    have oy8 := own8
    clear own8
    have LOy := Lib.hid (show ∀ g, (Value.slice Ay (a.length) cy).ownBlock = some g → w7.heap.size ≤ g from fun g hg => by have := (oy8.lt g hg).1; (try simp at this); omega)
    have HIy := Lib.hid (show ∀ g, (Value.slice Ay (a.length) cy).ownBlock = some g → g < w8.heap.size from fun g hg => (oy8.lt g hg).2)
    go_wp2_with fail
    refine (is_ (eqLineS_ a a Ax Ay cx cy _ (rd_of_own ox8) (rd_of_own oy8) hm hm) (eqB_refl a)).mono ?_
    rintro e w9 ⟨rfl, hb9⟩
    have hn9 : Below w8.heap.size w8 w9 := hb9
    have hw9 : Below w.heap.size w w9 := below_next hw8 hn9
    have sz9 : w8.heap.size + 0 ≤ w9.heap.size := by have := hb9.size; (try simp at this); omega
    have zB1_0_9 : w.heap.size < w9.heap.size := by omega
    have zB4_0_9 : w3.heap.size < w9.heap.size := by omega
    have zB7_0_9 : w6.heap.size < w9.heap.size := by omega
    have c0_9 := (hn9.cell (p := ⟨w.heap.size, 0, none⟩) (show w.heap.size < w8.heap.size by omega)).trans c0_8
    have c1_9 := (hn9.cell (p := ⟨w.heap.size, 1, none⟩) (show w.heap.size < w8.heap.size by omega)).trans c1_8
    have c2_9 := (hn9.cell (p := ⟨w.heap.size, 2, none⟩) (show w.heap.size < w8.heap.size by omega)).trans c2_8
    have d0_9 := (hn9.cell (p := ⟨w3.heap.size, 0, none⟩) (show w3.heap.size < w8.heap.size by omega)).trans d0_8
    have d1_9 := (hn9.cell (p := ⟨w3.heap.size, 1, none⟩) (show w3.heap.size < w8.heap.size by omega)).trans d1_8
    have d2_9 := (hn9.cell (p := ⟨w3.heap.size, 2, none⟩) (show w3.heap.size < w8.heap.size by omega)).trans d2_8
    have e0_9 := (hn9.cell (p := ⟨w6.heap.size, 0, none⟩) (show w6.heap.size < w8.heap.size by omega)).trans e0_8
    have e1_9 := (hn9.cell (p := ⟨w6.heap.size, 1, none⟩) (show w6.heap.size < w8.heap.size by omega)).trans e1_8
    have e2_9 := (hn9.cell (p := ⟨w6.heap.size, 2, none⟩) (show w6.heap.size < w8.heap.size by omega)).trans e2_8
    have oW9 := own_next oW8 hn9
    have ox9 := own_next ox8 hn9
    have oG9 := own_next oG8 hn9
    have oy9 := own_next oy8 hn9
    clear c0_8 c1_8 c2_8 d0_8 d1_8 d2_8 e0_8 e1_8 e2_8 oW8 ox8 oG8 oy8 zB1_0_8 zB4_0_8 zB7_0_8
    clear oy9 LOy HIy
    go_wp2_with fail
    refine (markLineS_ _ a Ax a.length cx 1 _ ox9 (by omega) (by omega)).mono ?_
    rintro e w10 ⟨rfl, own10, hg10⟩
    have sz10 : w9.heap.size ≤ w10.heap.size := hg10.size
    have hw10 := hw9.grown hg10 hw9.size (fun g hg => by have := LOx.out g hg; have := hw3.size; omega)
    have zB1_0_10 : w.heap.size < w10.heap.size := by omega
    have zB4_0_10 : w3.heap.size < w10.heap.size := by omega
    have zB7_0_10 : w6.heap.size < w10.heap.size := by omega
    have c0_10 : w10.cell? ⟨w.heap.size, 0, none⟩ = some (.int .i64 b.f) := by rw [World.cell?_of_block (a := ⟨w.heap.size, 0, none⟩) (hg10.block (w.heap.size) (by omega) (fun hh => by first | (have := LOx.out _ hh.symm; omega) | (have := HIx.out _ hh.symm; omega)))]; exact c0_9
    have c1_10 : w10.cell? ⟨w.heap.size, 1, none⟩ = some (.int .i64 b.o) := by rw [World.cell?_of_block (a := ⟨w.heap.size, 1, none⟩) (hg10.block (w.heap.size) (by omega) (fun hh => by first | (have := LOx.out _ hh.symm; omega) | (have := HIx.out _ hh.symm; omega)))]; exact c1_9
    have c2_10 : w10.cell? ⟨w.heap.size, 2, none⟩ = some (.int .i64 b.t) := by rw [World.cell?_of_block (a := ⟨w.heap.size, 2, none⟩) (hg10.block (w.heap.size) (by omega) (fun hh => by first | (have := LOx.out _ hh.symm; omega) | (have := HIx.out _ hh.symm; omega)))]; exact c2_9
    have d0_10 : w10.cell? ⟨w3.heap.size, 0, none⟩ = some (.int .i64 (packN b p a)) := by rw [World.cell?_of_block (a := ⟨w3.heap.size, 0, none⟩) (hg10.block (w3.heap.size) (by omega) (fun hh => by first | (have := LOx.out _ hh.symm; omega) | (have := HIx.out _ hh.symm; omega)))]; exact d0_9
    have d1_10 : w10.cell? ⟨w3.heap.size, 1, none⟩ = some (.int .i64 (packG b p a)) := by rw [World.cell?_of_block (a := ⟨w3.heap.size, 1, none⟩) (hg10.block (w3.heap.size) (by omega) (fun hh => by first | (have := LOx.out _ hh.symm; omega) | (have := HIx.out _ hh.symm; omega)))]; exact d1_9
    have d2_10 : w10.cell? ⟨w3.heap.size, 2, none⟩ = some (.slice AW (packL b p a).length cW) := by rw [World.cell?_of_block (a := ⟨w3.heap.size, 2, none⟩) (hg10.block (w3.heap.size) (by omega) (fun hh => by first | (have := LOx.out _ hh.symm; omega) | (have := HIx.out _ hh.symm; omega)))]; exact d2_9
    have e0_10 : w10.cell? ⟨w6.heap.size, 0, none⟩ = some (.int .i64 (packN b p a)) := by rw [World.cell?_of_block (a := ⟨w6.heap.size, 0, none⟩) (hg10.block (w6.heap.size) (by omega) (fun hh => by first | (have := LOx.out _ hh.symm; omega) | (have := HIx.out _ hh.symm; omega)))]; exact e0_9
    have e1_10 : w10.cell? ⟨w6.heap.size, 1, none⟩ = some (.int .i64 (packG b p a)) := by rw [World.cell?_of_block (a := ⟨w6.heap.size, 1, none⟩) (hg10.block (w6.heap.size) (by omega) (fun hh => by first | (have := LOx.out _ hh.symm; omega) | (have := HIx.out _ hh.symm; omega)))]; exact e1_9
    have e2_10 : w10.cell? ⟨w6.heap.size, 2, none⟩ = some (.slice AG (packL b p a).length cG) := by rw [World.cell?_of_block (a := ⟨w6.heap.size, 2, none⟩) (hg10.block (w6.heap.size) (by omega) (fun hh => by first | (have := LOx.out _ hh.symm; omega) | (have := HIx.out _ hh.symm; omega)))]; exact e2_9
    have oW10 := own_kept_low (S := w3.heap.size) oW9 hg10 (fun g hg => Nat.lt_of_lt_of_le (HIW.out g hg) (by omega)) (fun g hg => by have := LOx.out g hg; omega)
    have oG10 := own_kept_high (S := w5.heap.size) oG9 hg10 (fun g hg => by have := LOG.out g hg; omega) (fun g hg => Nat.lt_of_lt_of_le (HIx.out g hg) (by omega))
    have ox10 := own10
    clear own10 hg10 oW9 ox9 oG9 c0_9 c1_9 c2_9 d0_9 d1_9 d2_9 e0_9 e1_9 e2_9 zB1_0_9 zB4_0_9 zB7_0_9
    clear ox10 LOx HIx
    go_wp2_with fail
    refine (eqPackage_same (packN b p a) (packG b p a) (packL b p a) AG AW cG cW hmJ _ (rd_of_own oG10) (rd_of_own oW10)).mono ?_
    rintro e w11 ⟨rfl, hb11⟩
    have hn11 : Below w10.heap.size w10 w11 := hb11
    have hw11 : Below w.heap.size w w11 := below_next hw10 hn11
    have sz11 : w10.heap.size + 0 ≤ w11.heap.size := by have := hb11.size; (try simp at this); omega
    have zB1_0_11 : w.heap.size < w11.heap.size := by omega
    have zB4_0_11 : w3.heap.size < w11.heap.size := by omega
    have zB7_0_11 : w6.heap.size < w11.heap.size := by omega
    have c0_11 := (hn11.cell (p := ⟨w.heap.size, 0, none⟩) (show w.heap.size < w10.heap.size by omega)).trans c0_10
    have c1_11 := (hn11.cell (p := ⟨w.heap.size, 1, none⟩) (show w.heap.size < w10.heap.size by omega)).trans c1_10
    have c2_11 := (hn11.cell (p := ⟨w.heap.size, 2, none⟩) (show w.heap.size < w10.heap.size by omega)).trans c2_10
    have d0_11 := (hn11.cell (p := ⟨w3.heap.size, 0, none⟩) (show w3.heap.size < w10.heap.size by omega)).trans d0_10
    have d1_11 := (hn11.cell (p := ⟨w3.heap.size, 1, none⟩) (show w3.heap.size < w10.heap.size by omega)).trans d1_10
    have d2_11 := (hn11.cell (p := ⟨w3.heap.size, 2, none⟩) (show w3.heap.size < w10.heap.size by omega)).trans d2_10
    have e0_11 := (hn11.cell (p := ⟨w6.heap.size, 0, none⟩) (show w6.heap.size < w10.heap.size by omega)).trans e0_10
    have e1_11 := (hn11.cell (p := ⟨w6.heap.size, 1, none⟩) (show w6.heap.size < w10.heap.size by omega)).trans e1_10
    have e2_11 := (hn11.cell (p := ⟨w6.heap.size, 2, none⟩) (show w6.heap.size < w10.heap.size by omega)).trans e2_10
    have oW11 := own_next oW10 hn11
    have oG11 := own_next oG10 hn11
    clear c0_10 c1_10 c2_10 d0_10 d1_10 d2_10 e0_10 e1_10 e2_10 oW10 oG10 zB1_0_10 zB4_0_10 zB7_0_10
    go_wp2_with fail
    refine (markPackage_ _ (packL b p a) AG (packL b p a).length cG _ _ 1 _ oG11 (by omega) (by omega)).mono ?_
    rintro e w12 ⟨rfl, own12, hg12⟩
    have sz12 : w11.heap.size ≤ w12.heap.size := hg12.size
    have hw12 := hw11.grown hg12 hw11.size (fun g hg => by have := LOG.out g hg; have := hw5.size; omega)
    have zB1_0_12 : w.heap.size < w12.heap.size := by omega
    have zB4_0_12 : w3.heap.size < w12.heap.size := by omega
    have zB7_0_12 : w6.heap.size < w12.heap.size := by omega
    have c0_12 : w12.cell? ⟨w.heap.size, 0, none⟩ = some (.int .i64 b.f) := by rw [World.cell?_of_block (a := ⟨w.heap.size, 0, none⟩) (hg12.block (w.heap.size) (by omega) (fun hh => by first | (have := LOG.out _ hh.symm; omega) | (have := HIG.out _ hh.symm; omega)))]; exact c0_11
    have c1_12 : w12.cell? ⟨w.heap.size, 1, none⟩ = some (.int .i64 b.o) := by rw [World.cell?_of_block (a := ⟨w.heap.size, 1, none⟩) (hg12.block (w.heap.size) (by omega) (fun hh => by first | (have := LOG.out _ hh.symm; omega) | (have := HIG.out _ hh.symm; omega)))]; exact c1_11
    have c2_12 : w12.cell? ⟨w.heap.size, 2, none⟩ = some (.int .i64 b.t) := by rw [World.cell?_of_block (a := ⟨w.heap.size, 2, none⟩) (hg12.block (w.heap.size) (by omega) (fun hh => by first | (have := LOG.out _ hh.symm; omega) | (have := HIG.out _ hh.symm; omega)))]; exact c2_11
    have d0_12 : w12.cell? ⟨w3.heap.size, 0, none⟩ = some (.int .i64 (packN b p a)) := by rw [World.cell?_of_block (a := ⟨w3.heap.size, 0, none⟩) (hg12.block (w3.heap.size) (by omega) (fun hh => by first | (have := LOG.out _ hh.symm; omega) | (have := HIG.out _ hh.symm; omega)))]; exact d0_11
    have d1_12 : w12.cell? ⟨w3.heap.size, 1, none⟩ = some (.int .i64 (packG b p a)) := by rw [World.cell?_of_block (a := ⟨w3.heap.size, 1, none⟩) (hg12.block (w3.heap.size) (by omega) (fun hh => by first | (have := LOG.out _ hh.symm; omega) | (have := HIG.out _ hh.symm; omega)))]; exact d1_11
    have d2_12 : w12.cell? ⟨w3.heap.size, 2, none⟩ = some (.slice AW (packL b p a).length cW) := by rw [World.cell?_of_block (a := ⟨w3.heap.size, 2, none⟩) (hg12.block (w3.heap.size) (by omega) (fun hh => by first | (have := LOG.out _ hh.symm; omega) | (have := HIG.out _ hh.symm; omega)))]; exact d2_11
    have e0_12 : w12.cell? ⟨w6.heap.size, 0, none⟩ = some (.int .i64 (packN b p a)) := by rw [World.cell?_of_block (a := ⟨w6.heap.size, 0, none⟩) (hg12.block (w6.heap.size) (by omega) (fun hh => by first | (have := LOG.out _ hh.symm; omega) | (have := HIG.out _ hh.symm; omega)))]; exact e0_11
    have e1_12 : w12.cell? ⟨w6.heap.size, 1, none⟩ = some (.int .i64 (packG b p a)) := by rw [World.cell?_of_block (a := ⟨w6.heap.size, 1, none⟩) (hg12.block (w6.heap.size) (by omega) (fun hh => by first | (have := LOG.out _ hh.symm; omega) | (have := HIG.out _ hh.symm; omega)))]; exact e1_11
    have e2_12 : w12.cell? ⟨w6.heap.size, 2, none⟩ = some (.slice AG (packL b p a).length cG) := by rw [World.cell?_of_block (a := ⟨w6.heap.size, 2, none⟩) (hg12.block (w6.heap.size) (by omega) (fun hh => by first | (have := LOG.out _ hh.symm; omega) | (have := HIG.out _ hh.symm; omega)))]; exact e2_11
    have oW12 := own_kept_low (S := w5.heap.size) oW11 hg12 (fun g hg => Nat.lt_of_lt_of_le (HIW.out g hg) (by omega)) (fun g hg => by have := LOG.out g hg; omega)
    have oG12 := own12
    clear own12 hg12 oW11 oG11 c0_11 c1_11 c2_11 d0_11 d1_11 d2_11 e0_11 e1_11 e2_11 zB1_0_11 zB4_0_11 zB7_0_11
    go_wp2_with fail
    refine (heldPackage_ AG (packL b p a).length cG _ _ 1 _ (rd_of_own oG12) (by omega) (by omega)).mono ?_
    rintro e w13 ⟨rfl, hb13⟩
    have hn13 : Below w12.heap.size w12 w13 := hb13
    have hw13 : Below w.heap.size w w13 := below_next hw12 hn13
    have sz13 : w12.heap.size + 0 ≤ w13.heap.size := by have := hb13.size; (try simp at this); omega
    have zB1_0_13 : w.heap.size < w13.heap.size := by omega
    have zB4_0_13 : w3.heap.size < w13.heap.size := by omega
    have zB7_0_13 : w6.heap.size < w13.heap.size := by omega
    have c0_13 := (hn13.cell (p := ⟨w.heap.size, 0, none⟩) (show w.heap.size < w12.heap.size by omega)).trans c0_12
    have c1_13 := (hn13.cell (p := ⟨w.heap.size, 1, none⟩) (show w.heap.size < w12.heap.size by omega)).trans c1_12
    have c2_13 := (hn13.cell (p := ⟨w.heap.size, 2, none⟩) (show w.heap.size < w12.heap.size by omega)).trans c2_12
    have d0_13 := (hn13.cell (p := ⟨w3.heap.size, 0, none⟩) (show w3.heap.size < w12.heap.size by omega)).trans d0_12
    have d1_13 := (hn13.cell (p := ⟨w3.heap.size, 1, none⟩) (show w3.heap.size < w12.heap.size by omega)).trans d1_12
    have d2_13 := (hn13.cell (p := ⟨w3.heap.size, 2, none⟩) (show w3.heap.size < w12.heap.size by omega)).trans d2_12
    have e0_13 := (hn13.cell (p := ⟨w6.heap.size, 0, none⟩) (show w6.heap.size < w12.heap.size by omega)).trans e0_12
    have e1_13 := (hn13.cell (p := ⟨w6.heap.size, 1, none⟩) (show w6.heap.size < w12.heap.size by omega)).trans e1_12
    have e2_13 := (hn13.cell (p := ⟨w6.heap.size, 2, none⟩) (show w6.heap.size < w12.heap.size by omega)).trans e2_12
    have oW13 := own_next oW12 hn13
    have oG13 := own_next oG12 hn13
    clear c0_12 c1_12 c2_12 d0_12 d1_12 d2_12 e0_12 e1_12 e2_12 oW12 oG12 zB1_0_12 zB4_0_12 zB7_0_12
    go_wp2_with fail
    refine (toBoard_ b _).mono ?_
    rintro e w14 ⟨rfl, hb14⟩
    have hn14 : Below w13.heap.size w13 w14 := hb14
    have hw14 : Below w.heap.size w w14 := below_next hw13 hn14
    have sz14 : w13.heap.size + 0 ≤ w14.heap.size := by have := hb14.size; (try simp at this); omega
    have zB1_0_14 : w.heap.size < w14.heap.size := by omega
    have zB4_0_14 : w3.heap.size < w14.heap.size := by omega
    have zB7_0_14 : w6.heap.size < w14.heap.size := by omega
    have c0_14 := (hn14.cell (p := ⟨w.heap.size, 0, none⟩) (show w.heap.size < w13.heap.size by omega)).trans c0_13
    have c1_14 := (hn14.cell (p := ⟨w.heap.size, 1, none⟩) (show w.heap.size < w13.heap.size by omega)).trans c1_13
    have c2_14 := (hn14.cell (p := ⟨w.heap.size, 2, none⟩) (show w.heap.size < w13.heap.size by omega)).trans c2_13
    have d0_14 := (hn14.cell (p := ⟨w3.heap.size, 0, none⟩) (show w3.heap.size < w13.heap.size by omega)).trans d0_13
    have d1_14 := (hn14.cell (p := ⟨w3.heap.size, 1, none⟩) (show w3.heap.size < w13.heap.size by omega)).trans d1_13
    have d2_14 := (hn14.cell (p := ⟨w3.heap.size, 2, none⟩) (show w3.heap.size < w13.heap.size by omega)).trans d2_13
    have e0_14 := (hn14.cell (p := ⟨w6.heap.size, 0, none⟩) (show w6.heap.size < w13.heap.size by omega)).trans e0_13
    have e1_14 := (hn14.cell (p := ⟨w6.heap.size, 1, none⟩) (show w6.heap.size < w13.heap.size by omega)).trans e1_13
    have e2_14 := (hn14.cell (p := ⟨w6.heap.size, 2, none⟩) (show w6.heap.size < w13.heap.size by omega)).trans e2_13
    have oW14 := own_next oW13 hn14
    have oG14 := own_next oG13 hn14
    clear c0_13 c1_13 c2_13 d0_13 d1_13 d2_13 e0_13 e1_13 e2_13 oW13 oG13 zB1_0_13 zB4_0_13 zB7_0_13
    clear c0_14 c1_14 c2_14
    go_wp2_with fail
    refine (toLineS_ a A c _ ((rd.below hw14).more hw14.size) hs).mono ?_
    rintro e w15 ⟨Az, cz, rfl, own15, hb15⟩
    have hn15 : Below w14.heap.size w14 w15 := hb15
    have hw15 : Below w.heap.size w w15 := below_next hw14 hn15
    have sz15 : w14.heap.size + 0 ≤ w15.heap.size := by have := hb15.size; (try simp at this); omega
    have zB1_0_15 : w.heap.size < w15.heap.size := by omega
    have zB4_0_15 : w3.heap.size < w15.heap.size := by omega
    have zB7_0_15 : w6.heap.size < w15.heap.size := by omega
    have d0_15 := (hn15.cell (p := ⟨w3.heap.size, 0, none⟩) (show w3.heap.size < w14.heap.size by omega)).trans d0_14
    have d1_15 := (hn15.cell (p := ⟨w3.heap.size, 1, none⟩) (show w3.heap.size < w14.heap.size by omega)).trans d1_14
    have d2_15 := (hn15.cell (p := ⟨w3.heap.size, 2, none⟩) (show w3.heap.size < w14.heap.size by omega)).trans d2_14
    have e0_15 := (hn15.cell (p := ⟨w6.heap.size, 0, none⟩) (show w6.heap.size < w14.heap.size by omega)).trans e0_14
    have e1_15 := (hn15.cell (p := ⟨w6.heap.size, 1, none⟩) (show w6.heap.size < w14.heap.size by omega)).trans e1_14
    have e2_15 := (hn15.cell (p := ⟨w6.heap.size, 2, none⟩) (show w6.heap.size < w14.heap.size by omega)).trans e2_14
    have oW15 := own_next oW14 hn15
    have oG15 := own_next oG14 hn15
    clear d0_14 d1_14 d2_14 e0_14 e1_14 e2_14 oW14 oG14 zB1_0_14 zB4_0_14 zB7_0_14
    have oz15 := own15
    clear own15
    have LOz := Lib.hid (show ∀ g, (Value.slice Az (a.length) cz).ownBlock = some g → w14.heap.size ≤ g from fun g hg => by have := (oz15.lt g hg).1; (try simp at this); omega)
    have HIz := Lib.hid (show ∀ g, (Value.slice Az (a.length) cz).ownBlock = some g → g < w15.heap.size from fun g hg => (oz15.lt g hg).2)
    go_wp2_with fail
    refine (iPackageOf_ b p hp a Az cz hs _ (rd_of_own oz15)).mono ?_
    rintro e w16 ⟨AH, cH, rfl, own16, hb16⟩
    have hn16 : Below w15.heap.size w15 w16 := hb16
    have hw16 : Below w.heap.size w w16 := below_next hw15 hn16
    have sz16 : w15.heap.size + 0 ≤ w16.heap.size := by have := hb16.size; (try simp at this); omega
    have zB1_0_16 : w.heap.size < w16.heap.size := by omega
    have zB4_0_16 : w3.heap.size < w16.heap.size := by omega
    have zB7_0_16 : w6.heap.size < w16.heap.size := by omega
    have d0_16 := (hn16.cell (p := ⟨w3.heap.size, 0, none⟩) (show w3.heap.size < w15.heap.size by omega)).trans d0_15
    have d1_16 := (hn16.cell (p := ⟨w3.heap.size, 1, none⟩) (show w3.heap.size < w15.heap.size by omega)).trans d1_15
    have d2_16 := (hn16.cell (p := ⟨w3.heap.size, 2, none⟩) (show w3.heap.size < w15.heap.size by omega)).trans d2_15
    have e0_16 := (hn16.cell (p := ⟨w6.heap.size, 0, none⟩) (show w6.heap.size < w15.heap.size by omega)).trans e0_15
    have e1_16 := (hn16.cell (p := ⟨w6.heap.size, 1, none⟩) (show w6.heap.size < w15.heap.size by omega)).trans e1_15
    have e2_16 := (hn16.cell (p := ⟨w6.heap.size, 2, none⟩) (show w6.heap.size < w15.heap.size by omega)).trans e2_15
    have oW16 := own_next oW15 hn16
    have oG16 := own_next oG15 hn16
    have oz16 := own_next oz15 hn16
    clear d0_15 d1_15 d2_15 e0_15 e1_15 e2_15 oW15 oG15 oz15 zB1_0_15 zB4_0_15 zB7_0_15
    have oH16 := own16
    clear own16
    have LOH := Lib.hid (show ∀ g, (Value.slice AH ((packL b p a).length) cH).ownBlock = some g → w15.heap.size ≤ g from fun g hg => by have := (oH16.lt g hg).1; (try simp at this); omega)
    have HIH := Lib.hid (show ∀ g, (Value.slice AH ((packL b p a).length) cH).ownBlock = some g → g < w16.heap.size from fun g hg => (oH16.lt g hg).2)
    clear oz16 LOz HIz
    go_wp2_with fail
    refine (eqPackage_same (packN b p a) (packG b p a) (packL b p a) AH AW cH cW hmJ _ ((rd_of_own oH16).laid _) ((rd_of_own oW16).laid _)).mono ?_
    rintro e w17 ⟨rfl, hb17⟩
    have hn17 : Below w16.heap.size w16 w17 := below_step ((Below.refl _ _).alloc (by first | exact Nat.le_refl _ | (simp; try omega)) _) hb17 (by (try simp); (try omega))
    have hw17 : Below w.heap.size w w17 := below_next hw16 hn17
    have sz17 : w16.heap.size + 1 ≤ w17.heap.size := by have := hb17.size; (try simp at this); omega
    have zB1_0_17 : w.heap.size < w17.heap.size := by omega
    have zB4_0_17 : w3.heap.size < w17.heap.size := by omega
    have zB7_0_17 : w6.heap.size < w17.heap.size := by omega
    have d0_17 := (hn17.cell (p := ⟨w3.heap.size, 0, none⟩) (show w3.heap.size < w16.heap.size by omega)).trans d0_16
    have d1_17 := (hn17.cell (p := ⟨w3.heap.size, 1, none⟩) (show w3.heap.size < w16.heap.size by omega)).trans d1_16
    have d2_17 := (hn17.cell (p := ⟨w3.heap.size, 2, none⟩) (show w3.heap.size < w16.heap.size by omega)).trans d2_16
    have e0_17 := (hn17.cell (p := ⟨w6.heap.size, 0, none⟩) (show w6.heap.size < w16.heap.size by omega)).trans e0_16
    have e1_17 := (hn17.cell (p := ⟨w6.heap.size, 1, none⟩) (show w6.heap.size < w16.heap.size by omega)).trans e1_16
    have e2_17 := (hn17.cell (p := ⟨w6.heap.size, 2, none⟩) (show w6.heap.size < w16.heap.size by omega)).trans e2_16
    have zB17_0_17 : w16.heap.size < w17.heap.size := by omega
    have f0_17 : w17.cell? ⟨w16.heap.size, 0, none⟩ = some (.int .i64 (packN b p a)) := by rw [hb17.cell (p := ⟨w16.heap.size, 0, none⟩) (by simp; try omega)]; simp [go_sem]
    have f1_17 : w17.cell? ⟨w16.heap.size, 1, none⟩ = some (.int .i64 (packG b p a)) := by rw [hb17.cell (p := ⟨w16.heap.size, 1, none⟩) (by simp; try omega)]; simp [go_sem]
    have f2_17 : w17.cell? ⟨w16.heap.size, 2, none⟩ = some (.slice AH (packL b p a).length cH) := by rw [hb17.cell (p := ⟨w16.heap.size, 2, none⟩) (by simp; try omega)]; simp [go_sem]
    have oW17 := own_next oW16 hn17
    have oG17 := own_next oG16 hn17
    have oH17 := own_next oH16 hn17
    clear d0_16 d1_16 d2_16 e0_16 e1_16 e2_16 oW16 oG16 oH16 zB1_0_16 zB4_0_16 zB7_0_16
    clear oH17 LOH HIH
    clear oW17 LOW HIW
    go_wp2_with fail
    refine (heldPackage_ AG (packL b p a).length cG _ _ 1 _ (rd_of_own oG17) (by omega) (by omega)).mono ?_
    rintro e w18 ⟨rfl, hb18⟩
    have hn18 : Below w17.heap.size w17 w18 := hb18
    have hw18 : Below w.heap.size w w18 := below_next hw17 hn18
    have sz18 : w17.heap.size + 0 ≤ w18.heap.size := by have := hb18.size; (try simp at this); omega
    have zB1_0_18 : w.heap.size < w18.heap.size := by omega
    have zB4_0_18 : w3.heap.size < w18.heap.size := by omega
    have zB7_0_18 : w6.heap.size < w18.heap.size := by omega
    have zB17_0_18 : w16.heap.size < w18.heap.size := by omega
    have d0_18 := (hn18.cell (p := ⟨w3.heap.size, 0, none⟩) (show w3.heap.size < w17.heap.size by omega)).trans d0_17
    have d1_18 := (hn18.cell (p := ⟨w3.heap.size, 1, none⟩) (show w3.heap.size < w17.heap.size by omega)).trans d1_17
    have d2_18 := (hn18.cell (p := ⟨w3.heap.size, 2, none⟩) (show w3.heap.size < w17.heap.size by omega)).trans d2_17
    have e0_18 := (hn18.cell (p := ⟨w6.heap.size, 0, none⟩) (show w6.heap.size < w17.heap.size by omega)).trans e0_17
    have e1_18 := (hn18.cell (p := ⟨w6.heap.size, 1, none⟩) (show w6.heap.size < w17.heap.size by omega)).trans e1_17
    have e2_18 := (hn18.cell (p := ⟨w6.heap.size, 2, none⟩) (show w6.heap.size < w17.heap.size by omega)).trans e2_17
    have f0_18 := (hn18.cell (p := ⟨w16.heap.size, 0, none⟩) (show w16.heap.size < w17.heap.size by omega)).trans f0_17
    have f1_18 := (hn18.cell (p := ⟨w16.heap.size, 1, none⟩) (show w16.heap.size < w17.heap.size by omega)).trans f1_17
    have f2_18 := (hn18.cell (p := ⟨w16.heap.size, 2, none⟩) (show w16.heap.size < w17.heap.size by omega)).trans f2_17
    have oG18 := own_next oG17 hn18
    clear d0_17 d1_17 d2_17 e0_17 e1_17 e2_17 f0_17 f1_17 f2_17 oG17 zB1_0_17 zB4_0_17 zB7_0_17 zB17_0_17
    go_wp2
    go_ret
    exact ⟨rfl, hw18⟩
  · go_enter Try.func10, Try.ntmps10
    go_wp2_with (go_at_call 40; refine (szLineS_no A a.length c 1048576 _ hm (by omega) (by omega) (by omega)).mono ?_; rintro e w' ⟨rfl, rfl⟩)
    go_ret
    exact ⟨rfl, (Below.refl _ _).alloc (Nat.le_refl _) _⟩
end Go.Proofs.Ytfbpnfjaheeooaa

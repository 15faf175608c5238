/- The walk of the law FnExactRowOfThree. -/
import Derived.Test.YtfbpnfjaheeooaaChecked
import Derived.Test.YtfbpnfjaheeooaaMem
import Derived.Tactics
import Derived.Tactics2
import Derived.WalkKit
import Derived.WalkSpells
import Derived.WalkLawsBesides
import Derived.Deep.QuietTactic
import Derived.BigQuiet
import Derived.BigGuardPart
import Derived.Lib.QuietBelow
import Derived.OwnWalk
import Derived.KernelRfl
import Derived.Test.YtfbpnfjaheeooaaRowS
import Derived.Test.YtfbpnfjaheeooaaHelpP
import Derived.Test.YtfbpnfjaheeooaaSymB
import Derived.Test.YtfbpnfjaheeooaaOrdB
import Derived.Test.YtfbpnfjaheeooaaOpen
set_option linter.unusedVariables false
set_option maxRecDepth 20000
namespace Go.Proofs.Ytfbpnfjaheeooaa
open Go.RowKit Go.Sort

set_option maxHeartbeats 2000000 in
theorem fnExactRowOfThree_walk (b : Ln) (k way : Int) (w : World) (_ : I64 b.f ∧ I64 b.o ∧ I64 b.t) (hk : I64 k) (hway : I64 way) :
    Calls Try.prog 12 #[.agg #[.int .i64 b.f, .int .i64 b.o, .int .i64 b.t], .int .i64 k, .int .i64 way] w fun e w' => e = .returned (.bool true) ∧ Below w.heap.size w w' := by
  have hJ := rLs_le b k way
  have hmJ : (rLs b k way).length ≤ 9223372036854775807 := by omega
  go_enter Try.func12, Try.ntmps12
  have hw0 : Below w.heap.size w w := Below.refl _ _
  go_wp2_with fail
  refine (toBoard_ b _).mono ?_
  rintro e w1 ⟨rfl, hb1⟩
  have hn1 : Below w.heap.size w w1 := below_step ((Below.refl _ _).alloc (by first | exact Nat.le_refl _ | (simp; try omega)) _) hb1 (by (try simp); (try omega))
  have hw1 : Below w.heap.size w w1 := below_next hw0 hn1
  have sz1 : w.heap.size + 1 ≤ w1.heap.size := by have := hb1.size; (try simp at this); omega
  have zB1_0_1 : w.heap.size < w1.heap.size := by omega
  have c0_1 : w1.cell? ⟨w.heap.size, 0, none⟩ = some (.int .i64 b.f) := by rw [hb1.cell (p := ⟨w.heap.size, 0, none⟩) (by simp; try omega)]; simp [go_sem]
  have c1_1 : w1.cell? ⟨w.heap.size, 1, none⟩ = some (.int .i64 b.o) := by rw [hb1.cell (p := ⟨w.heap.size, 1, none⟩) (by simp; try omega)]; simp [go_sem]
  have c2_1 : w1.cell? ⟨w.heap.size, 2, none⟩ = some (.int .i64 b.t) := by rw [hb1.cell (p := ⟨w.heap.size, 2, none⟩) (by simp; try omega)]; simp [go_sem]
  go_wp2_with fail
  refine (sRowOfThree_ b k way hk hway _).mono ?_
  rintro e w2 ⟨AW, cW, rfl, own2, hb2⟩
  have hn2 : Below w1.heap.size w1 w2 := hb2
  have hw2 : Below w.heap.size w w2 := below_next hw1 hn2
  have sz2 : w1.heap.size + 0 ≤ w2.heap.size := by have := hb2.size; (try simp at this); omega
  have zB1_0_2 : w.heap.size < w2.heap.size := by omega
  have c0_2 := (hn2.cell (p := ⟨w.heap.size, 0, none⟩) (show w.heap.size < w1.heap.size by omega)).trans c0_1
  have c1_2 := (hn2.cell (p := ⟨w.heap.size, 1, none⟩) (show w.heap.size < w1.heap.size by omega)).trans c1_1
  have c2_2 := (hn2.cell (p := ⟨w.heap.size, 2, none⟩) (show w.heap.size < w1.heap.size by omega)).trans c2_1
  clear c0_1 c1_1 c2_1 zB1_0_1
  have oW2 := own2
  clear own2
  have LOW := Lib.hid (show ∀ g, (Value.slice AW ((rLs b k way).length) cW).ownBlock = some g → w1.heap.size ≤ g from fun g hg => by have := (oW2.lt g hg).1; (try simp at this); omega)
  have HIW := Lib.hid (show ∀ g, (Value.slice AW ((rLs b k way).length) cW).ownBlock = some g → g < w2.heap.size from fun g hg => (oW2.lt g hg).2)
  go_wp2_with fail
  refine (toBoard_ b _).mono ?_
  rintro e w3 ⟨rfl, hb3⟩
  have hn3 : Below w2.heap.size w2 w3 := below_step ((Below.refl _ _).alloc (by first | exact Nat.le_refl _ | (simp; try omega)) _) hb3 (by (try simp); (try omega))
  have hw3 : Below w.heap.size w w3 := below_next hw2 hn3
  have sz3 : w2.heap.size + 1 ≤ w3.heap.size := by have := hb3.size; (try simp at this); omega
  have zB1_0_3 : w.heap.size < w3.heap.size := by omega
  have c0_3 := (hn3.cell (p := ⟨w.heap.size, 0, none⟩) (show w.heap.size < w2.heap.size by omega)).trans c0_2
  have c1_3 := (hn3.cell (p := ⟨w.heap.size, 1, none⟩) (show w.heap.size < w2.heap.size by omega)).trans c1_2
  have c2_3 := (hn3.cell (p := ⟨w.heap.size, 2, none⟩) (show w.heap.size < w2.heap.size by omega)).trans c2_2
  have zB3_0_3 : w2.heap.size < w3.heap.size := by omega
  have d0_3 : w3.cell? ⟨w2.heap.size, 0, none⟩ = some (.int .i64 (rNeed b k way)) := by rw [hb3.cell (p := ⟨w2.heap.size, 0, none⟩) (by simp; try omega)]; simp [go_sem]
  have d1_3 : w3.cell? ⟨w2.heap.size, 1, none⟩ = some (.int .i64 (rGone b k way)) := by rw [hb3.cell (p := ⟨w2.heap.size, 1, none⟩) (by simp; try omega)]; simp [go_sem]
  have d2_3 : w3.cell? ⟨w2.heap.size, 2, none⟩ = some (.slice AW (rLs b k way).length cW) := by rw [hb3.cell (p := ⟨w2.heap.size, 2, none⟩) (by simp; try omega)]; simp [go_sem]
  have oW3 := own_next oW2 hn3
  clear c0_2 c1_2 c2_2 oW2 zB1_0_2
  go_wp2_with fail
  refine (iRowOfThree_ b k way hk hway _).mono ?_
  rintro e w4 ⟨AG, cG, rfl, own4, hb4⟩
  have hn4 : Below w3.heap.size w3 w4 := hb4
  have hw4 : Below w.heap.size w w4 := below_next hw3 hn4
  have sz4 : w3.heap.size + 0 ≤ w4.heap.size := by have := hb4.size; (try simp at this); omega
  have zB1_0_4 : w.heap.size < w4.heap.size := by omega
  have zB3_0_4 : w2.heap.size < w4.heap.size := by omega
  have c0_4 := (hn4.cell (p := ⟨w.heap.size, 0, none⟩) (show w.heap.size < w3.heap.size by omega)).trans c0_3
  have c1_4 := (hn4.cell (p := ⟨w.heap.size, 1, none⟩) (show w.heap.size < w3.heap.size by omega)).trans c1_3
  have c2_4 := (hn4.cell (p := ⟨w.heap.size, 2, none⟩) (show w.heap.size < w3.heap.size by omega)).trans c2_3
  have d0_4 := (hn4.cell (p := ⟨w2.heap.size, 0, none⟩) (show w2.heap.size < w3.heap.size by omega)).trans d0_3
  have d1_4 := (hn4.cell (p := ⟨w2.heap.size, 1, none⟩) (show w2.heap.size < w3.heap.size by omega)).trans d1_3
  have d2_4 := (hn4.cell (p := ⟨w2.heap.size, 2, none⟩) (show w2.heap.size < w3.heap.size by omega)).trans d2_3
  have oW4 := own_next oW3 hn4
  clear c0_3 c1_3 c2_3 d0_3 d1_3 d2_3 oW3 zB1_0_3 zB3_0_3
  have oG4 := own4
  clear own4
  have LOG := Lib.hid (show ∀ g, (Value.slice AG ((rLs b k way).length) cG).ownBlock = some g → w3.heap.size ≤ g from fun g hg => by have := (oG4.lt g hg).1; (try simp at this); omega)
  have HIG := Lib.hid (show ∀ g, (Value.slice AG ((rLs b k way).length) cG).ownBlock = some g → g < w4.heap.size from fun g hg => (oG4.lt g hg).2)
  go_wp2_with fail
  refine (eqPackage_same (rNeed b k way) (rGone b k way) (rLs b k way) AG AW cG cW hmJ _ ((rd_of_own oG4).laid _) ((rd_of_own oW4).laid _)).mono ?_
  rintro e w5 ⟨rfl, hb5⟩
  have hn5 : Below w4.heap.size w4 w5 := below_step ((Below.refl _ _).alloc (by first | exact Nat.le_refl _ | (simp; try omega)) _) hb5 (by (try simp); (try omega))
  have hw5 : Below w.heap.size w w5 := below_next hw4 hn5
  have sz5 : w4.heap.size + 1 ≤ w5.heap.size := by have := hb5.size; (try simp at this); omega
  have zB1_0_5 : w.heap.size < w5.heap.size := by omega
  have zB3_0_5 : w2.heap.size < w5.heap.size := by omega
  have c0_5 := (hn5.cell (p := ⟨w.heap.size, 0, none⟩) (show w.heap.size < w4.heap.size by omega)).trans c0_4
  have c1_5 := (hn5.cell (p := ⟨w.heap.size, 1, none⟩) (show w.heap.size < w4.heap.size by omega)).trans c1_4
  have c2_5 := (hn5.cell (p := ⟨w.heap.size, 2, none⟩) (show w.heap.size < w4.heap.size by omega)).trans c2_4
  have d0_5 := (hn5.cell (p := ⟨w2.heap.size, 0, none⟩) (show w2.heap.size < w4.heap.size by omega)).trans d0_4
  have d1_5 := (hn5.cell (p := ⟨w2.heap.size, 1, none⟩) (show w2.heap.size < w4.heap.size by omega)).trans d1_4
  have d2_5 := (hn5.cell (p := ⟨w2.heap.size, 2, none⟩) (show w2.heap.size < w4.heap.size by omega)).trans d2_4
  have zB5_0_5 : w4.heap.size < w5.heap.size := by omega
  have e0_5 : w5.cell? ⟨w4.heap.size, 0, none⟩ = some (.int .i64 (rNeed b k way)) := by rw [hb5.cell (p := ⟨w4.heap.size, 0, none⟩) (by simp; try omega)]; simp [go_sem]
  have e1_5 : w5.cell? ⟨w4.heap.size, 1, none⟩ = some (.int .i64 (rGone b k way)) := by rw [hb5.cell (p := ⟨w4.heap.size, 1, none⟩) (by simp; try omega)]; simp [go_sem]
  have e2_5 : w5.cell? ⟨w4.heap.size, 2, none⟩ = some (.slice AG (rLs b k way).length cG) := by rw [hb5.cell (p := ⟨w4.heap.size, 2, none⟩) (by simp; try omega)]; simp [go_sem]
  have oW5 := own_next oW4 hn5
  have oG5 := own_next oG4 hn5
  clear c0_4 c1_4 c2_4 d0_4 d1_4 d2_4 oW4 oG4 zB1_0_4 zB3_0_4
  go_wp2_with fail
  refine (markPackage_ _ (rLs b k way) AG (rLs b k way).length cG _ _ 1 _ oG5 (by omega) (by omega)).mono ?_
  rintro e w6 ⟨rfl, own6, hg6⟩
  have sz6 : w5.heap.size ≤ w6.heap.size := hg6.size
  have hw6 := hw5.grown hg6 hw5.size (fun g hg => by have := LOG.out g hg; have := hw3.size; omega)
  have zB1_0_6 : w.heap.size < w6.heap.size := by omega
  have zB3_0_6 : w2.heap.size < w6.heap.size := by omega
  have zB5_0_6 : w4.heap.size < w6.heap.size := by omega
  have c0_6 : w6.cell? ⟨w.heap.size, 0, none⟩ = some (.int .i64 b.f) := by rw [World.cell?_of_block (a := ⟨w.heap.size, 0, none⟩) (hg6.block (w.heap.size) (by omega) (fun hh => by first | (have := LOG.out _ hh.symm; omega) | (have := HIG.out _ hh.symm; omega)))]; exact c0_5
  have c1_6 : w6.cell? ⟨w.heap.size, 1, none⟩ = some (.int .i64 b.o) := by rw [World.cell?_of_block (a := ⟨w.heap.size, 1, none⟩) (hg6.block (w.heap.size) (by omega) (fun hh => by first | (have := LOG.out _ hh.symm; omega) | (have := HIG.out _ hh.symm; omega)))]; exact c1_5
  have c2_6 : w6.cell? ⟨w.heap.size, 2, none⟩ = some (.int .i64 b.t) := by rw [World.cell?_of_block (a := ⟨w.heap.size, 2, none⟩) (hg6.block (w.heap.size) (by omega) (fun hh => by first | (have := LOG.out _ hh.symm; omega) | (have := HIG.out _ hh.symm; omega)))]; exact c2_5
  have d0_6 : w6.cell? ⟨w2.heap.size, 0, none⟩ = some (.int .i64 (rNeed b k way)) := by rw [World.cell?_of_block (a := ⟨w2.heap.size, 0, none⟩) (hg6.block (w2.heap.size) (by omega) (fun hh => by first | (have := LOG.out _ hh.symm; omega) | (have := HIG.out _ hh.symm; omega)))]; exact d0_5
  have d1_6 : w6.cell? ⟨w2.heap.size, 1, none⟩ = some (.int .i64 (rGone b k way)) := by rw [World.cell?_of_block (a := ⟨w2.heap.size, 1, none⟩) (hg6.block (w2.heap.size) (by omega) (fun hh => by first | (have := LOG.out _ hh.symm; omega) | (have := HIG.out _ hh.symm; omega)))]; exact d1_5
  have d2_6 : w6.cell? ⟨w2.heap.size, 2, none⟩ = some (.slice AW (rLs b k way).length cW) := by rw [World.cell?_of_block (a := ⟨w2.heap.size, 2, none⟩) (hg6.block (w2.heap.size) (by omega) (fun hh => by first | (have := LOG.out _ hh.symm; omega) | (have := HIG.out _ hh.symm; omega)))]; exact d2_5
  have e0_6 : w6.cell? ⟨w4.heap.size, 0, none⟩ = some (.int .i64 (rNeed b k way)) := by rw [World.cell?_of_block (a := ⟨w4.heap.size, 0, none⟩) (hg6.block (w4.heap.size) (by omega) (fun hh => by first | (have := LOG.out _ hh.symm; omega) | (have := HIG.out _ hh.symm; omega)))]; exact e0_5
  have e1_6 : w6.cell? ⟨w4.heap.size, 1, none⟩ = some (.int .i64 (rGone b k way)) := by rw [World.cell?_of_block (a := ⟨w4.heap.size, 1, none⟩) (hg6.block (w4.heap.size) (by omega) (fun hh => by first | (have := LOG.out _ hh.symm; omega) | (have := HIG.out _ hh.symm; omega)))]; exact e1_5
  have e2_6 : w6.cell? ⟨w4.heap.size, 2, none⟩ = some (.slice AG (rLs b k way).length cG) := by rw [World.cell?_of_block (a := ⟨w4.heap.size, 2, none⟩) (hg6.block (w4.heap.size) (by omega) (fun hh => by first | (have := LOG.out _ hh.symm; omega) | (have := HIG.out _ hh.symm; omega)))]; exact e2_5
  have oW6 := own_kept_low (S := w3.heap.size) oW5 hg6 (fun g hg => Nat.lt_of_lt_of_le (HIW.out g hg) (by omega)) (fun g hg => by have := LOG.out g hg; omega)
  have oG6 := own6
  clear own6 hg6 oW5 oG5 c0_5 c1_5 c2_5 d0_5 d1_5 d2_5 e0_5 e1_5 e2_5 zB1_0_5 zB3_0_5 zB5_0_5
  go_wp2_with fail
  refine (heldPackage_ AG (rLs b k way).length cG _ _ 1 _ (rd_of_own oG6) (by omega) (by omega)).mono ?_
  rintro e w7 ⟨rfl, hb7⟩
  have hn7 : Below w6.heap.size w6 w7 := hb7
  have hw7 : Below w.heap.size w w7 := below_next hw6 hn7
  have sz7 : w6.heap.size + 0 ≤ w7.heap.size := by have := hb7.size; (try simp at this); omega
  have zB1_0_7 : w.heap.size < w7.heap.size := by omega
  have zB3_0_7 : w2.heap.size < w7.heap.size := by omega
  have zB5_0_7 : w4.heap.size < w7.heap.size := by omega
  have c0_7 := (hn7.cell (p := ⟨w.heap.size, 0, none⟩) (show w.heap.size < w6.heap.size by omega)).trans c0_6
  have c1_7 := (hn7.cell (p := ⟨w.heap.size, 1, none⟩) (show w.heap.size < w6.heap.size by omega)).trans c1_6
  have c2_7 := (hn7.cell (p := ⟨w.heap.size, 2, none⟩) (show w.heap.size < w6.heap.size by omega)).trans c2_6
  have d0_7 := (hn7.cell (p := ⟨w2.heap.size, 0, none⟩) (show w2.heap.size < w6.heap.size by omega)).trans d0_6
  have d1_7 := (hn7.cell (p := ⟨w2.heap.size, 1, none⟩) (show w2.heap.size < w6.heap.size by omega)).trans d1_6
  have d2_7 := (hn7.cell (p := ⟨w2.heap.size, 2, none⟩) (show w2.heap.size < w6.heap.size by omega)).trans d2_6
  have e0_7 := (hn7.cell (p := ⟨w4.heap.size, 0, none⟩) (show w4.heap.size < w6.heap.size by omega)).trans e0_6
  have e1_7 := (hn7.cell (p := ⟨w4.heap.size, 1, none⟩) (show w4.heap.size < w6.heap.size by omega)).trans e1_6
  have e2_7 := (hn7.cell (p := ⟨w4.heap.size, 2, none⟩) (show w4.heap.size < w6.heap.size by omega)).trans e2_6
  have oW7 := own_next oW6 hn7
  have oG7 := own_next oG6 hn7
  clear c0_6 c1_6 c2_6 d0_6 d1_6 d2_6 e0_6 e1_6 e2_6 oW6 oG6 zB1_0_6 zB3_0_6 zB5_0_6
  go_wp2_with fail
  refine (toBoard_ b _).mono ?_
  rintro e w8 ⟨rfl, hb8⟩
  have hn8 : Below w7.heap.size w7 w8 := hb8
  have hw8 : Below w.heap.size w w8 := below_next hw7 hn8
  have sz8 : w7.heap.size + 0 ≤ w8.heap.size := by have := hb8.size; (try simp at this); omega
  have zB1_0_8 : w.heap.size < w8.heap.size := by omega
  have zB3_0_8 : w2.heap.size < w8.heap.size := by omega
  have zB5_0_8 : w4.heap.size < w8.heap.size := by omega
  have c0_8 := (hn8.cell (p := ⟨w.heap.size, 0, none⟩) (show w.heap.size < w7.heap.size by omega)).trans c0_7
  have c1_8 := (hn8.cell (p := ⟨w.heap.size, 1, none⟩) (show w.heap.size < w7.heap.size by omega)).trans c1_7
  have c2_8 := (hn8.cell (p := ⟨w.heap.size, 2, none⟩) (show w.heap.size < w7.heap.size by omega)).trans c2_7
  have d0_8 := (hn8.cell (p := ⟨w2.heap.size, 0, none⟩) (show w2.heap.size < w7.heap.size by omega)).trans d0_7
  have d1_8 := (hn8.cell (p := ⟨w2.heap.size, 1, none⟩) (show w2.heap.size < w7.heap.size by omega)).trans d1_7
  have d2_8 := (hn8.cell (p := ⟨w2.heap.size, 2, none⟩) (show w2.heap.size < w7.heap.size by omega)).trans d2_7
  have e0_8 := (hn8.cell (p := ⟨w4.heap.size, 0, none⟩) (show w4.heap.size < w7.heap.size by omega)).trans e0_7
  have e1_8 := (hn8.cell (p := ⟨w4.heap.size, 1, none⟩) (show w4.heap.size < w7.heap.size by omega)).trans e1_7
  have e2_8 := (hn8.cell (p := ⟨w4.heap.size, 2, none⟩) (show w4.heap.size < w7.heap.size by omega)).trans e2_7
  have oW8 := own_next oW7 hn8
  have oG8 := own_next oG7 hn8
  clear c0_7 c1_7 c2_7 d0_7 d1_7 d2_7 e0_7 e1_7 e2_7 oW7 oG7 zB1_0_7 zB3_0_7 zB5_0_7
  clear c0_8 c1_8 c2_8
  go_wp2_with fail
  refine (iRowOfThree_ b k way hk hway _).mono ?_
  rintro e w9 ⟨AH, cH, rfl, own9, hb9⟩
  have hn9 : Below w8.heap.size w8 w9 := hb9
  have hw9 : Below w.heap.size w w9 := below_next hw8 hn9
  have sz9 : w8.heap.size + 0 ≤ w9.heap.size := by have := hb9.size; (try simp at this); omega
  have zB1_0_9 : w.heap.size < w9.heap.size := by omega
  have zB3_0_9 : w2.heap.size < w9.heap.size := by omega
  have zB5_0_9 : w4.heap.size < w9.heap.size := by omega
  have d0_9 := (hn9.cell (p := ⟨w2.heap.size, 0, none⟩) (show w2.heap.size < w8.heap.size by omega)).trans d0_8
  have d1_9 := (hn9.cell (p := ⟨w2.heap.size, 1, none⟩) (show w2.heap.size < w8.heap.size by omega)).trans d1_8
  have d2_9 := (hn9.cell (p := ⟨w2.heap.size, 2, none⟩) (show w2.heap.size < w8.heap.size by omega)).trans d2_8
  have e0_9 := (hn9.cell (p := ⟨w4.heap.size, 0, none⟩) (show w4.heap.size < w8.heap.size by omega)).trans e0_8
  have e1_9 := (hn9.cell (p := ⟨w4.heap.size, 1, none⟩) (show w4.heap.size < w8.heap.size by omega)).trans e1_8
  have e2_9 := (hn9.cell (p := ⟨w4.heap.size, 2, none⟩) (show w4.heap.size < w8.heap.size by omega)).trans e2_8
  have oW9 := own_next oW8 hn9
  have oG9 := own_next oG8 hn9
  clear d0_8 d1_8 d2_8 e0_8 e1_8 e2_8 oW8 oG8 zB1_0_8 zB3_0_8 zB5_0_8
  have oH9 := own9
  clear own9
  have LOH := Lib.hid (show ∀ g, (Value.slice AH ((rLs b k way).length) cH).ownBlock = some g → w8.heap.size ≤ g from fun g hg => by have := (oH9.lt g hg).1; (try simp at this); omega)
  have HIH := Lib.hid (show ∀ g, (Value.slice AH ((rLs b k way).length) cH).ownBlock = some g → g < w9.heap.size from fun g hg => (oH9.lt g hg).2)
  go_wp2_with fail
  refine (eqPackage_same (rNeed b k way) (rGone b k way) (rLs b k way) AH AW cH cW hmJ _ ((rd_of_own oH9).laid _) ((rd_of_own oW9).laid _)).mono ?_
  rintro e w10 ⟨rfl, hb10⟩
  have hn10 : Below w9.heap.size w9 w10 := below_step ((Below.refl _ _).alloc (by first | exact Nat.le_refl _ | (simp; try omega)) _) hb10 (by (try simp); (try omega))
  have hw10 : Below w.heap.size w w10 := below_next hw9 hn10
  have sz10 : w9.heap.size + 1 ≤ w10.heap.size := by have := hb10.size; (try simp at this); omega
  have zB1_0_10 : w.heap.size < w10.heap.size := by omega
  have zB3_0_10 : w2.heap.size < w10.heap.size := by omega
  have zB5_0_10 : w4.heap.size < w10.heap.size := by omega
  have d0_10 := (hn10.cell (p := ⟨w2.heap.size, 0, none⟩) (show w2.heap.size < w9.heap.size by omega)).trans d0_9
  have d1_10 := (hn10.cell (p := ⟨w2.heap.size, 1, none⟩) (show w2.heap.size < w9.heap.size by omega)).trans d1_9
  have d2_10 := (hn10.cell (p := ⟨w2.heap.size, 2, none⟩) (show w2.heap.size < w9.heap.size by omega)).trans d2_9
  have e0_10 := (hn10.cell (p := ⟨w4.heap.size, 0, none⟩) (show w4.heap.size < w9.heap.size by omega)).trans e0_9
  have e1_10 := (hn10.cell (p := ⟨w4.heap.size, 1, none⟩) (show w4.heap.size < w9.heap.size by omega)).trans e1_9
  have e2_10 := (hn10.cell (p := ⟨w4.heap.size, 2, none⟩) (show w4.heap.size < w9.heap.size by omega)).trans e2_9
  have zB10_0_10 : w9.heap.size < w10.heap.size := by omega
  have f0_10 : w10.cell? ⟨w9.heap.size, 0, none⟩ = some (.int .i64 (rNeed b k way)) := by rw [hb10.cell (p := ⟨w9.heap.size, 0, none⟩) (by simp; try omega)]; simp [go_sem]
  have f1_10 : w10.cell? ⟨w9.heap.size, 1, none⟩ = some (.int .i64 (rGone b k way)) := by rw [hb10.cell (p := ⟨w9.heap.size, 1, none⟩) (by simp; try omega)]; simp [go_sem]
  have f2_10 : w10.cell? ⟨w9.heap.size, 2, none⟩ = some (.slice AH (rLs b k way).length cH) := by rw [hb10.cell (p := ⟨w9.heap.size, 2, none⟩) (by simp; try omega)]; simp [go_sem]
  have oW10 := own_next oW9 hn10
  have oG10 := own_next oG9 hn10
  have oH10 := own_next oH9 hn10
  clear d0_9 d1_9 d2_9 e0_9 e1_9 e2_9 oW9 oG9 oH9 zB1_0_9 zB3_0_9 zB5_0_9
  clear oH10 LOH HIH
  clear oW10 LOW HIW
  go_wp2_with fail
  refine (heldPackage_ AG (rLs b k way).length cG _ _ 1 _ (rd_of_own oG10) (by omega) (by omega)).mono ?_
  rintro e w11 ⟨rfl, hb11⟩
  have hn11 : Below w10.heap.size w10 w11 := hb11
  have hw11 : Below w.heap.size w w11 := below_next hw10 hn11
  have sz11 : w10.heap.size + 0 ≤ w11.heap.size := by have := hb11.size; (try simp at this); omega
  have zB1_0_11 : w.heap.size < w11.heap.size := by omega
  have zB3_0_11 : w2.heap.size < w11.heap.size := by omega
  have zB5_0_11 : w4.heap.size < w11.heap.size := by omega
  have zB10_0_11 : w9.heap.size < w11.heap.size := by omega
  have d0_11 := (hn11.cell (p := ⟨w2.heap.size, 0, none⟩) (show w2.heap.size < w10.heap.size by omega)).trans d0_10
  have d1_11 := (hn11.cell (p := ⟨w2.heap.size, 1, none⟩) (show w2.heap.size < w10.heap.size by omega)).trans d1_10
  have d2_11 := (hn11.cell (p := ⟨w2.heap.size, 2, none⟩) (show w2.heap.size < w10.heap.size by omega)).trans d2_10
  have e0_11 := (hn11.cell (p := ⟨w4.heap.size, 0, none⟩) (show w4.heap.size < w10.heap.size by omega)).trans e0_10
  have e1_11 := (hn11.cell (p := ⟨w4.heap.size, 1, none⟩) (show w4.heap.size < w10.heap.size by omega)).trans e1_10
  have e2_11 := (hn11.cell (p := ⟨w4.heap.size, 2, none⟩) (show w4.heap.size < w10.heap.size by omega)).trans e2_10
  have f0_11 := (hn11.cell (p := ⟨w9.heap.size, 0, none⟩) (show w9.heap.size < w10.heap.size by omega)).trans f0_10
  have f1_11 := (hn11.cell (p := ⟨w9.heap.size, 1, none⟩) (show w9.heap.size < w10.heap.size by omega)).trans f1_10
  have f2_11 := (hn11.cell (p := ⟨w9.heap.size, 2, none⟩) (show w9.heap.size < w10.heap.size by omega)).trans f2_10
  have oG11 := own_next oG10 hn11
  clear d0_10 d1_10 d2_10 e0_10 e1_10 e2_10 f0_10 f1_10 f2_10 oG10 zB1_0_10 zB3_0_10 zB5_0_10 zB10_0_10
  go_wp2
  go_ret
  exact ⟨rfl, hw11⟩
end Go.Proofs.Ytfbpnfjaheeooaa

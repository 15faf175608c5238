/- The walk of the law FnExactSweepGame. -/
import Derived.Test.YtliljgmpdfdakaaChecked
import Derived.Test.YtliljgmpdfdakaaMem
import Derived.Tactics
import Derived.Tactics2
import Derived.WalkKit
import Derived.WalkSpells
import Derived.WalkLawsBesides
import Derived.Deep.QuietTactic
import Derived.BigQuiet
import Derived.BigGuardPart
import Derived.Lib.QuietBelow
import Derived.OwnWalk
import Derived.KernelRfl
import Derived.Test.YtliljgmpdfdakaaSweepG
import Derived.Test.YtliljgmpdfdakaaSweepI
import Derived.Test.YtliljgmpdfdakaaHelp
import Derived.Test.YtliljgmpdfdakaaHelpL
import Derived.Test.YtliljgmpdfdakaaSymB
import Derived.Test.YtliljgmpdfdakaaOrdB
import Derived.Test.YtliljgmpdfdakaaOpen
set_option linter.unusedVariables false
set_option maxRecDepth 20000
namespace Go.Proofs.Ytliljgmpdfdakaa
open Go.RowKit Go.Sort

set_option maxHeartbeats 2000000 in
theorem fnExactSweepGame_walk (b : Ln) (p : Int) (r : Int) (w : World) (_ : I64 b.f ∧ I64 b.o ∧ I64 b.t) (hp : I64 p) (hr : I64 r) :
    Calls Try.prog 8 #[.agg #[.int .i64 b.f, .int .i64 b.o, .int .i64 b.t], .int .i64 p, .int .i64 r] w fun e w' => e = .returned (.bool true) ∧ Below w.heap.size w w' := by
  have hJ : (sgL b p r).length ≤ 131072 := Nat.le_trans (sgL_le b p r) (by omega)
  have hmJ : (sgL b p r).length ≤ 9223372036854775807 := by omega
  have hmK : (sgL b p r).length ≤ 4194304 := by omega
  go_enter Try.func8, Try.ntmps8
  have hw0 : Below w.heap.size w w := Below.refl _ _
  go_wp2_with fail
  refine (toBoard_ b _).mono ?_
  rintro e w1 ⟨rfl, hb1⟩
  have hn1 : Below w.heap.size w w1 := below_step ((Below.refl _ _).alloc (by first | exact Nat.le_refl _ | (simp; try omega)) _) hb1 (by (try simp); (try omega))
  have hw1 : Below w.heap.size w w1 := below_next hw0 hn1
  have sz1 : w.heap.size + 1 ≤ w1.heap.size := by have := hb1.size; (try simp at this); omega
  have zB1_0_1 : w.heap.size < w1.heap.size := by omega
  have c0_1 : w1.cell? ⟨w.heap.size, 0, none⟩ = some (.int .i64 b.f) := by rw [hb1.cell (p := ⟨w.heap.size, 0, none⟩) (by simp; try omega)]; simp [go_sem]
  have c1_1 : w1.cell? ⟨w.heap.size, 1, none⟩ = some (.int .i64 b.o) := by rw [hb1.cell (p := ⟨w.heap.size, 1, none⟩) (by simp; try omega)]; simp [go_sem]
  have c2_1 : w1.cell? ⟨w.heap.size, 2, none⟩ = some (.int .i64 b.t) := by rw [hb1.cell (p := ⟨w.heap.size, 2, none⟩) (by simp; try omega)]; simp [go_sem]
  go_wp2_with fail
  refine (sSweepGame_ b p r hp hr _).mono ?_
  rintro e w2 ⟨AW, cW, rfl, own2, hb2⟩
  have hn2 : Below w1.heap.size w1 w2 := hb2
  have hw2 : Below w.heap.size w w2 := below_next hw1 hn2
  have sz2 : w1.heap.size + 0 ≤ w2.heap.size := by have := hb2.size; (try simp at this); omega
  have zB1_0_2 : w.heap.size < w2.heap.size := by omega
  have c0_2 := (hn2.cell (p := ⟨w.heap.size, 0, none⟩) (show w.heap.size < w1.heap.size by omega)).trans c0_1
  have c1_2 := (hn2.cell (p := ⟨w.heap.size, 1, none⟩) (show w.heap.size < w1.heap.size by omega)).trans c1_1
  have c2_2 := (hn2.cell (p := ⟨w.heap.size, 2, none⟩) (show w.heap.size < w1.heap.size by omega)).trans c2_1
  clear c0_1 c1_1 c2_1 zB1_0_1
  have oW2 := own2
  clear own2
  have LOW := Lib.hid (show ∀ g, (Value.slice AW ((sgL b p r).length) cW).ownBlock = some g → w1.heap.size ≤ g from fun g hg => by have := (oW2.lt g hg).1; (try simp at this); omega)
  have HIW := Lib.hid (show ∀ g, (Value.slice AW ((sgL b p r).length) cW).ownBlock = some g → g < w2.heap.size from fun g hg => (oW2.lt g hg).2)
  go_wp2_with fail
  refine (toBoard_ b _).mono ?_
  rintro e w3 ⟨rfl, hb3⟩
  have hn3 : Below w2.heap.size w2 w3 := hb3
  have hw3 : Below w.heap.size w w3 := below_next hw2 hn3
  have sz3 : w2.heap.size + 0 ≤ w3.heap.size := by have := hb3.size; (try simp at this); omega
  have zB1_0_3 : w.heap.size < w3.heap.size := by omega
  have c0_3 := (hn3.cell (p := ⟨w.heap.size, 0, none⟩) (show w.heap.size < w2.heap.size by omega)).trans c0_2
  have c1_3 := (hn3.cell (p := ⟨w.heap.size, 1, none⟩) (show w.heap.size < w2.heap.size by omega)).trans c1_2
  have c2_3 := (hn3.cell (p := ⟨w.heap.size, 2, none⟩) (show w.heap.size < w2.heap.size by omega)).trans c2_2
  have oW3 := own_next oW2 hn3
  clear c0_2 c1_2 c2_2 oW2 zB1_0_2
  go_wp2_with fail
  refine (iSweepGame_ b p r hp hr _).mono ?_
  rintro e w4 ⟨AG, cG, rfl, own4, hb4⟩
  have hn4 : Below w3.heap.size w3 w4 := hb4
  have hw4 : Below w.heap.size w w4 := below_next hw3 hn4
  have sz4 : w3.heap.size + 0 ≤ w4.heap.size := by have := hb4.size; (try simp at this); omega
  have zB1_0_4 : w.heap.size < w4.heap.size := by omega
  have c0_4 := (hn4.cell (p := ⟨w.heap.size, 0, none⟩) (show w.heap.size < w3.heap.size by omega)).trans c0_3
  have c1_4 := (hn4.cell (p := ⟨w.heap.size, 1, none⟩) (show w.heap.size < w3.heap.size by omega)).trans c1_3
  have c2_4 := (hn4.cell (p := ⟨w.heap.size, 2, none⟩) (show w.heap.size < w3.heap.size by omega)).trans c2_3
  have oW4 := own_next oW3 hn4
  clear c0_3 c1_3 c2_3 oW3 zB1_0_3
  have oG4 := own4
  clear own4
  have LOG := Lib.hid (show ∀ g, (Value.slice AG ((sgL b p r).length) cG).ownBlock = some g → w3.heap.size ≤ g from fun g hg => by have := (oG4.lt g hg).1; (try simp at this); omega)
  have HIG := Lib.hid (show ∀ g, (Value.slice AG ((sgL b p r).length) cG).ownBlock = some g → g < w4.heap.size from fun g hg => (oG4.lt g hg).2)
  go_wp2_with fail
  refine (is_ (eqLineS_ (sgL b p r) (sgL b p r) AG AW cG cW _ (rd_of_own oG4) (rd_of_own oW4) hmJ hmJ) (eqB_refl _)).mono ?_
  rintro e w5 ⟨rfl, hb5⟩
  have hn5 : Below w4.heap.size w4 w5 := hb5
  have hw5 : Below w.heap.size w w5 := below_next hw4 hn5
  have sz5 : w4.heap.size + 0 ≤ w5.heap.size := by have := hb5.size; (try simp at this); omega
  have zB1_0_5 : w.heap.size < w5.heap.size := by omega
  have c0_5 := (hn5.cell (p := ⟨w.heap.size, 0, none⟩) (show w.heap.size < w4.heap.size by omega)).trans c0_4
  have c1_5 := (hn5.cell (p := ⟨w.heap.size, 1, none⟩) (show w.heap.size < w4.heap.size by omega)).trans c1_4
  have c2_5 := (hn5.cell (p := ⟨w.heap.size, 2, none⟩) (show w.heap.size < w4.heap.size by omega)).trans c2_4
  have oW5 := own_next oW4 hn5
  have oG5 := own_next oG4 hn5
  clear c0_4 c1_4 c2_4 oW4 oG4 zB1_0_4
  go_wp2_with fail
  refine (markLineS_ _ (sgL b p r) AG (sgL b p r).length cG 1 _ oG5 hmK (by omega)).mono ?_
  rintro e w6 ⟨rfl, own6, hg6⟩
  have sz6 : w5.heap.size ≤ w6.heap.size := hg6.size
  have hw6 := hw5.grown hg6 hw5.size (fun g hg => by have := LOG.out g hg; have := hw3.size; omega)
  have zB1_0_6 : w.heap.size < w6.heap.size := by omega
  have c0_6 : w6.cell? ⟨w.heap.size, 0, none⟩ = some (.int .i64 b.f) := by rw [World.cell?_of_block (a := ⟨w.heap.size, 0, none⟩) (hg6.block (w.heap.size) (by omega) (fun hh => by first | (have := LOG.out _ hh.symm; omega) | (have := HIG.out _ hh.symm; omega)))]; exact c0_5
  have c1_6 : w6.cell? ⟨w.heap.size, 1, none⟩ = some (.int .i64 b.o) := by rw [World.cell?_of_block (a := ⟨w.heap.size, 1, none⟩) (hg6.block (w.heap.size) (by omega) (fun hh => by first | (have := LOG.out _ hh.symm; omega) | (have := HIG.out _ hh.symm; omega)))]; exact c1_5
  have c2_6 : w6.cell? ⟨w.heap.size, 2, none⟩ = some (.int .i64 b.t) := by rw [World.cell?_of_block (a := ⟨w.heap.size, 2, none⟩) (hg6.block (w.heap.size) (by omega) (fun hh => by first | (have := LOG.out _ hh.symm; omega) | (have := HIG.out _ hh.symm; omega)))]; exact c2_5
  have oW6 := own_kept_low (S := w3.heap.size) oW5 hg6 (fun g hg => Nat.lt_of_lt_of_le (HIW.out g hg) (by omega)) (fun g hg => by have := LOG.out g hg; omega)
  have oG6 := own6
  clear own6 hg6 oW5 oG5 c0_5 c1_5 c2_5 zB1_0_5
  go_wp2_with fail
  refine (heldLineS_ AG (sgL b p r).length cG 1 _ (rd_of_own oG6) hmK (by omega)).mono ?_
  rintro e w' ⟨rfl, rfl⟩
  go_wp2_with fail
  refine (toBoard_ b _).mono ?_
  rintro e w7 ⟨rfl, hb7⟩
  have hn7 : Below w6.heap.size w6 w7 := hb7
  have hw7 : Below w.heap.size w w7 := below_next hw6 hn7
  have sz7 : w6.heap.size + 0 ≤ w7.heap.size := by have := hb7.size; (try simp at this); omega
  have zB1_0_7 : w.heap.size < w7.heap.size := by omega
  have c0_7 := (hn7.cell (p := ⟨w.heap.size, 0, none⟩) (show w.heap.size < w6.heap.size by omega)).trans c0_6
  have c1_7 := (hn7.cell (p := ⟨w.heap.size, 1, none⟩) (show w.heap.size < w6.heap.size by omega)).trans c1_6
  have c2_7 := (hn7.cell (p := ⟨w.heap.size, 2, none⟩) (show w.heap.size < w6.heap.size by omega)).trans c2_6
  have oW7 := own_next oW6 hn7
  have oG7 := own_next oG6 hn7
  clear c0_6 c1_6 c2_6 oW6 oG6 zB1_0_6
  clear c0_7 c1_7 c2_7
  go_wp2_with fail
  refine (iSweepGame_ b p r hp hr _).mono ?_
  rintro e w8 ⟨AH, cH, rfl, own8, hb8⟩
  have hn8 : Below w7.heap.size w7 w8 := hb8
  have hw8 : Below w.heap.size w w8 := below_next hw7 hn8
  have sz8 : w7.heap.size + 0 ≤ w8.heap.size := by have := hb8.size; (try simp at this); omega
  have zB1_0_8 : w.heap.size < w8.heap.size := by omega
  have oW8 := own_next oW7 hn8
  have oG8 := own_next oG7 hn8
  clear oW7 oG7 zB1_0_7
  have oH8 := own8
  clear own8
  have LOH := Lib.hid (show ∀ g, (Value.slice AH ((sgL b p r).length) cH).ownBlock = some g → w7.heap.size ≤ g from fun g hg => by have := (oH8.lt g hg).1; (try simp at this); omega)
  have HIH := Lib.hid (show ∀ g, (Value.slice AH ((sgL b p r).length) cH).ownBlock = some g → g < w8.heap.size from fun g hg => (oH8.lt g hg).2)
  go_wp2_with fail
  refine (is_ (eqLineS_ (sgL b p r) (sgL b p r) AH AW cH cW _ (rd_of_own oH8) (rd_of_own oW8) hmJ hmJ) (eqB_refl _)).mono ?_
  rintro e w9 ⟨rfl, hb9⟩
  have hn9 : Below w8.heap.size w8 w9 := hb9
  have hw9 : Below w.heap.size w w9 := below_next hw8 hn9
  have sz9 : w8.heap.size + 0 ≤ w9.heap.size := by have := hb9.size; (try simp at this); omega
  have zB1_0_9 : w.heap.size < w9.heap.size := by omega
  have oW9 := own_next oW8 hn9
  have oG9 := own_next oG8 hn9
  have oH9 := own_next oH8 hn9
  clear oW8 oG8 oH8 zB1_0_8
  clear oH9 LOH HIH
  clear oW9 LOW HIW
  go_wp2_with fail
  refine (heldLineS_ AG (sgL b p r).length cG 1 _ (rd_of_own oG9) hmK (by omega)).mono ?_
  rintro e w' ⟨rfl, rfl⟩
  go_wp2
  go_ret
  exact ⟨rfl, hw9⟩
end Go.Proofs.Ytliljgmpdfdakaa

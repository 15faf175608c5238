/- The walk of the law FnExactIndexOfGame. -/
import Derived.Test.YtliljgmpdfdakaaChecked
import Derived.Test.YtliljgmpdfdakaaMem
import Derived.Tactics
import Derived.Tactics2
import Derived.WalkKit
import Derived.WalkSpells
import Derived.WalkLawsBesides
import Derived.Deep.QuietTactic
import Derived.BigQuiet
import Derived.BigGuardPart
import Derived.Lib.QuietBelow
import Derived.OwnWalk
import Derived.KernelRfl
import Derived.Test.YtliljgmpdfdakaaIdxS
import Derived.Test.YtliljgmpdfdakaaSymB
import Derived.Test.YtliljgmpdfdakaaOrdB
import Derived.Test.YtliljgmpdfdakaaOpen
set_option linter.unusedVariables false
set_option maxRecDepth 20000
namespace Go.Proofs.Ytliljgmpdfdakaa
open Go.RowKit Go.Sort

set_option maxHeartbeats 1000000 in
theorem fnExactIndexOfGame_walk (b : Ln) (p r : Int) (a : List Ln) (A : Option Addr) (c : Nat) (w : World) (_ : I64 b.f ∧ I64 b.o ∧ I64 b.t) (hp : I64 p) (hr : I64 r) (rd : Rd w w.heap.size A (flat a)) (hm : a.length ≤ 9223372036854775807) (_ : ∀ l ∈ a, I64 l.f ∧ I64 l.o ∧ I64 l.t) :
    Calls Try.prog 9 #[.agg #[.int .i64 b.f, .int .i64 b.o, .int .i64 b.t], .int .i64 p, .int .i64 r, .slice A a.length c] w fun e w' => e = .returned (.bool true) ∧ Below w.heap.size w w' := by
  by_cases hs : a.length ≤ 1048576
  · go_enter Try.func9, Try.ntmps9
    have hw0 : Below w.heap.size w w := Below.refl _ _
    go_wp2_with fail
    refine (szLineS_ok A a.length c 1048576 _ hm (by omega) (by omega)).mono ?_
    rintro e w' ⟨rfl, rfl⟩
    go_wp2_with fail
    refine (toBoard_ b _).mono ?_
    rintro e w1 ⟨rfl, hb1⟩
    have hn1 : Below w.heap.size w w1 := below_step ((Below.refl _ _).alloc (by first | exact Nat.le_refl _ | (simp; try omega)) _) hb1 (by (try simp); (try omega))
    have hw1 : Below w.heap.size w w1 := below_next hw0 hn1
    have sz1 : w.heap.size + 1 ≤ w1.heap.size := by have := hb1.size; (try simp at this); omega
    have zB1_0_1 : w.heap.size < w1.heap.size := by omega
    have c0_1 : w1.cell? ⟨w.heap.size, 0, none⟩ = some (.int .i64 b.f) := by rw [hb1.cell (p := ⟨w.heap.size, 0, none⟩) (by simp; try omega)]; simp [go_sem]
    have c1_1 : w1.cell? ⟨w.heap.size, 1, none⟩ = some (.int .i64 b.o) := by rw [hb1.cell (p := ⟨w.heap.size, 1, none⟩) (by simp; try omega)]; simp [go_sem]
    have c2_1 : w1.cell? ⟨w.heap.size, 2, none⟩ = some (.int .i64 b.t) := by rw [hb1.cell (p := ⟨w.heap.size, 2, none⟩) (by simp; try omega)]; simp [go_sem]
    go_wp2_with fail
    refine (toLineS_ a A c _ ((rd.below hw1).more hw1.size) hs).mono ?_
    rintro e w2 ⟨As, cs, rfl, own2, hb2⟩
    have hn2 : Below w1.heap.size w1 w2 := hb2
    have hw2 : Below w.heap.size w w2 := below_next hw1 hn2
    have sz2 : w1.heap.size + 0 ≤ w2.heap.size := by have := hb2.size; (try simp at this); omega
    have zB1_0_2 : w.heap.size < w2.heap.size := by omega
    have c0_2 := (hn2.cell (p := ⟨w.heap.size, 0, none⟩) (show w.heap.size < w1.heap.size by omega)).trans c0_1
    have c1_2 := (hn2.cell (p := ⟨w.heap.size, 1, none⟩) (show w.heap.size < w1.heap.size by omega)).trans c1_1
    have c2_2 := (hn2.cell (p := ⟨w.heap.size, 2, none⟩) (show w.heap.size < w1.heap.size by omega)).trans c2_1
    clear c0_1 c1_1 c2_1 zB1_0_1
    have os2 := own2
    clear own2
    have LOs := Lib.hid (show ∀ g, (Value.slice As (a.length) cs).ownBlock = some g → w1.heap.size ≤ g from fun g hg => by have := (os2.lt g hg).1; (try simp at this); omega)
    have HIs := Lib.hid (show ∀ g, (Value.slice As (a.length) cs).ownBlock = some g → g < w2.heap.size from fun g hg => (os2.lt g hg).2)
    go_wp2_with fail
    refine (sIndexOfGame_ b p r hp hr a As cs hm _ (rd_of_own os2)).mono ?_
    rintro e w3 ⟨rfl, hb3⟩
    have hn3 : Below w2.heap.size w2 w3 := hb3
    have hw3 : Below w.heap.size w w3 := below_next hw2 hn3
    have sz3 : w2.heap.size + 0 ≤ w3.heap.size := by have := hb3.size; (try simp at this); omega
    have zB1_0_3 : w.heap.size < w3.heap.size := by omega
    have c0_3 := (hn3.cell (p := ⟨w.heap.size, 0, none⟩) (show w.heap.size < w2.heap.size by omega)).trans c0_2
    have c1_3 := (hn3.cell (p := ⟨w.heap.size, 1, none⟩) (show w.heap.size < w2.heap.size by omega)).trans c1_2
    have c2_3 := (hn3.cell (p := ⟨w.heap.size, 2, none⟩) (show w.heap.size < w2.heap.size by omega)).trans c2_2
    have os3 := own_next os2 hn3
    clear c0_2 c1_2 c2_2 os2 zB1_0_2
    clear os3 LOs HIs
    go_wp2_with fail
    refine (toLineS_ a A c _ ((rd.below hw3).more hw3.size) hs).mono ?_
    rintro e w4 ⟨Ax, cx, rfl, own4, hb4⟩
    have hn4 : Below w3.heap.size w3 w4 := hb4
    have hw4 : Below w.heap.size w w4 := below_next hw3 hn4
    have sz4 : w3.heap.size + 0 ≤ w4.heap.size := by have := hb4.size; (try simp at this); omega
    have zB1_0_4 : w.heap.size < w4.heap.size := by omega
    have c0_4 := (hn4.cell (p := ⟨w.heap.size, 0, none⟩) (show w.heap.size < w3.heap.size by omega)).trans c0_3
    have c1_4 := (hn4.cell (p := ⟨w.heap.size, 1, none⟩) (show w.heap.size < w3.heap.size by omega)).trans c1_3
    have c2_4 := (hn4.cell (p := ⟨w.heap.size, 2, none⟩) (show w.heap.size < w3.heap.size by omega)).trans c2_3
    clear c0_3 c1_3 c2_3 zB1_0_3
    have ox4 := own4
    clear own4
    have LOx := Lib.hid (show ∀ g, (Value.slice Ax (a.length) cx).ownBlock = some g → w3.heap.size ≤ g from fun g hg => by have := (ox4.lt g hg).1; (try simp at this); omega)
    have HIx := Lib.hid (show ∀ g, (Value.slice Ax (a.length) cx).ownBlock = some g → g < w4.heap.size from fun g hg => (ox4.lt g hg).2)
    go_wp2_with fail
    refine (toBoard_ b _).mono ?_
    rintro e w5 ⟨rfl, hb5⟩
    have hn5 : Below w4.heap.size w4 w5 := hb5
    have hw5 : Below w.heap.size w w5 := below_next hw4 hn5
    have sz5 : w4.heap.size + 0 ≤ w5.heap.size := by have := hb5.size; (try simp at this); omega
    have zB1_0_5 : w.heap.size < w5.heap.size := by omega
    have c0_5 := (hn5.cell (p := ⟨w.heap.size, 0, none⟩) (show w.heap.size < w4.heap.size by omega)).trans c0_4
    have c1_5 := (hn5.cell (p := ⟨w.heap.size, 1, none⟩) (show w.heap.size < w4.heap.size by omega)).trans c1_4
    have c2_5 := (hn5.cell (p := ⟨w.heap.size, 2, none⟩) (show w.heap.size < w4.heap.size by omega)).trans c2_4
    have ox5 := own_next ox4 hn5
    clear c0_4 c1_4 c2_4 ox4 zB1_0_4
    clear c0_5 c1_5 c2_5
    go_wp2_with fail
    refine (iIndexOfGame_ b p r hp hr a Ax cx hm _ (rd_of_own ox5)).mono ?_
    rintro e w6 ⟨rfl, hb6⟩
    have hn6 : Below w5.heap.size w5 w6 := hb6
    have hw6 : Below w.heap.size w w6 := below_next hw5 hn6
    have sz6 : w5.heap.size + 0 ≤ w6.heap.size := by have := hb6.size; (try simp at this); omega
    have zB1_0_6 : w.heap.size < w6.heap.size := by omega
    have ox6 := own_next ox5 hn6
    clear ox5 zB1_0_5
    go_wp2_with fail
    refine (toLineS_ a A c _ ((rd.below hw6).more hw6.size) hs).mono ?_
    rintro e w7 ⟨Ay, cy, rfl, own7, hb7⟩
    have hn7 : Below w6.heap.size w6 w7 := hb7
    have hw7 : Below w.heap.size w w7 := below_next hw6 hn7
    have sz7 : w6.heap.size + 0 ≤ w7.heap.size := by have := hb7.size; (try simp at this); omega
    have zB1_0_7 : w.heap.size < w7.heap.size := by omega
    have ox7 := own_next ox6 hn7
    clear ox6 zB1_0_6
    have oy7 := own7
    clear own7
    have LOy := Lib.hid (show ∀ g, (Value.slice Ay (a.length) cy).ownBlock = some g → w6.heap.size ≤ g from fun g hg => by have := (oy7.lt g hg).1; (try simp at this); omega)
    have HIy := Lib.hid (show ∀ g, (Value.slice Ay (a.length) cy).ownBlock = some g → g < w7.heap.size from fun g hg => (oy7.lt g hg).2)
    go_wp2_with fail
    refine (is_ (eqLineS_ a a Ax Ay cx cy _ (rd_of_own ox7) (rd_of_own oy7) hm hm) (eqB_refl a)).mono ?_
    rintro e w8 ⟨rfl, hb8⟩
    have hn8 : Below w7.heap.size w7 w8 := hb8
    have hw8 : Below w.heap.size w w8 := below_next hw7 hn8
    have sz8 : w7.heap.size + 0 ≤ w8.heap.size := by have := hb8.size; (try simp at this); omega
    have zB1_0_8 : w.heap.size < w8.heap.size := by omega
    have ox8 := own_next ox7 hn8
    have oy8 := own_next oy7 hn8
    clear ox7 oy7 zB1_0_7
    go_wp2
    go_ret
    exact ⟨rfl, hw8⟩
  · go_enter Try.func9, Try.ntmps9
    go_wp2_with (go_at_call 27; refine (szLineS_no A a.length c 1048576 _ hm (by omega) (by omega) (by omega)).mono ?_; rintro e w' ⟨rfl, rfl⟩)
    go_ret
    exact ⟨rfl, (Below.refl _ _).alloc (Nat.le_refl _) _⟩
end Go.Proofs.Ytliljgmpdfdakaa

/- The walks of the laws of the symmetries of boards and positions. -/
import Derived.Test.YteboegckjijhjaaChecked
import Derived.Test.YteboegckjijhjaaMem
import Derived.Tactics
import Derived.Tactics2
import Derived.WalkKit
import Derived.WalkSpells
import Derived.WalkLawsBesides
import Derived.Deep.QuietTactic
import Derived.BigQuiet
import Derived.BigGuardPart
import Derived.Lib.QuietBelow
import Derived.OwnWalk
import Derived.KernelRfl
import Derived.Outline
import Derived.Test.YteboegckjijhjaaSymB
set_option linter.unusedVariables false
namespace Go.Proofs.Yteboegckjijhjaa
open Go.RowKit Go.Sort

theorem fnExactIsMirrored_walk (b : Ln) (w : World) (_ : I64 b.f ∧ I64 b.o ∧ I64 b.t) :
    Calls Try.prog 5 #[.agg #[.int .i64 b.f, .int .i64 b.o, .int .i64 b.t]] w fun e w' => e = .returned (.bool true) ∧ Below w.heap.size w w' := by
  go_enter Try.func5, Try.ntmps5
  go_wp2_with (first
    | (go_at_call 21; refine (toBoard_ b _).mono ?_; rintro e w' ⟨rfl, hb⟩; obtain ⟨hc, hf⟩ := bcell hb; have hz0 : w.heap.size < w'.heap.size := (by have := hb.size; (try simp at this); omega); have hw : Below w.heap.size w w' := below_step (by first | assumption | exact (Below.refl _ _).alloc (Nat.le_refl _) _) hb (by (try simp); (try omega)))
    | (go_at_call 20; refine (sIsMirrored_ b _).mono ?_; rintro e w' ⟨rfl, hb⟩; obtain ⟨hc, hf⟩ := bcell hb; have hz0 : w.heap.size < w'.heap.size := (by have := hb.size; (try simp at this); omega); have hw : Below w.heap.size w w' := below_step (by first | assumption | exact (Below.refl _ _).alloc (Nat.le_refl _) _) hb (by (try simp); (try omega)))
    | (go_at_call 22; refine (iIsMirrored_ b _).mono ?_; rintro e w' ⟨rfl, hb⟩; obtain ⟨hc, hf⟩ := bcell hb; have hz0 : w.heap.size < w'.heap.size := (by have := hb.size; (try simp at this); omega); have hw : Below w.heap.size w w' := below_step (by first | assumption | exact (Below.refl _ _).alloc (Nat.le_refl _) _) hb (by (try simp); (try omega))))
  go_ret
  exact ⟨rfl, hw⟩
theorem fnExactIsTurned_walk (b : Ln) (w : World) (_ : I64 b.f ∧ I64 b.o ∧ I64 b.t) :
    Calls Try.prog 7 #[.agg #[.int .i64 b.f, .int .i64 b.o, .int .i64 b.t]] w fun e w' => e = .returned (.bool true) ∧ Below w.heap.size w w' := by
  go_enter Try.func7, Try.ntmps7
  go_wp2_with (first
    | (go_at_call 21; refine (toBoard_ b _).mono ?_; rintro e w' ⟨rfl, hb⟩; obtain ⟨hc, hf⟩ := bcell hb; have hz0 : w.heap.size < w'.heap.size := (by have := hb.size; (try simp at this); omega); have hw : Below w.heap.size w w' := below_step (by first | assumption | exact (Below.refl _ _).alloc (Nat.le_refl _) _) hb (by (try simp); (try omega)))
    | (go_at_call 25; refine (sIsTurned_ b _).mono ?_; rintro e w' ⟨rfl, hb⟩; obtain ⟨hc, hf⟩ := bcell hb; have hz0 : w.heap.size < w'.heap.size := (by have := hb.size; (try simp at this); omega); have hw : Below w.heap.size w w' := below_step (by first | assumption | exact (Below.refl _ _).alloc (Nat.le_refl _) _) hb (by (try simp); (try omega)))
    | (go_at_call 26; refine (iIsTurned_ b _).mono ?_; rintro e w' ⟨rfl, hb⟩; obtain ⟨hc, hf⟩ := bcell hb; have hz0 : w.heap.size < w'.heap.size := (by have := hb.size; (try simp at this); omega); have hw : Below w.heap.size w w' := below_step (by first | assumption | exact (Below.refl _ _).alloc (Nat.le_refl _) _) hb (by (try simp); (try omega))))
  go_ret
  exact ⟨rfl, hw⟩
theorem fnExactMirrorPosition_walk (b : Ln) (p : Int) (w : World) (_ : I64 b.f ∧ I64 b.o ∧ I64 b.t) (hp : I64 p) :
    Calls Try.prog 6 #[.agg #[.int .i64 b.f, .int .i64 b.o, .int .i64 b.t], .int .i64 p] w fun e w' => e = .returned (.bool true) ∧ Below w.heap.size w w' := by
  go_enter Try.func6, Try.ntmps6
  go_wp2_with (first
    | (go_at_call 21; refine (toBoard_ b _).mono ?_; rintro e w' ⟨rfl, hb⟩; obtain ⟨hc, hf⟩ := bcell hb; have hz0 : w.heap.size < w'.heap.size := (by have := hb.size; (try simp at this); omega); have hw : Below w.heap.size w w' := below_step (by first | assumption | exact (Below.refl _ _).alloc (Nat.le_refl _) _) hb (by (try simp); (try omega)))
    | (go_at_call 23; refine (sMirrorPosition_ b p hp _).mono ?_; rintro e w' ⟨rfl, hb⟩; obtain ⟨hc, hf⟩ := bcell hb; have hz0 : w.heap.size < w'.heap.size := (by have := hb.size; (try simp at this); omega); have hw : Below w.heap.size w w' := below_step (by first | assumption | exact (Below.refl _ _).alloc (Nat.le_refl _) _) hb (by (try simp); (try omega)))
    | (go_at_call 24; refine (iMirrorPosition_ b p hp _).mono ?_; rintro e w' ⟨rfl, hb⟩; obtain ⟨hc, hf⟩ := bcell hb; have hz0 : w.heap.size < w'.heap.size := (by have := hb.size; (try simp at this); omega); have hw : Below w.heap.size w w' := below_step (by first | assumption | exact (Below.refl _ _).alloc (Nat.le_refl _) _) hb (by (try simp); (try omega))))
  go_ret
  exact ⟨rfl, hw⟩
theorem fnExactTurnPosition_walk (b : Ln) (p : Int) (w : World) (_ : I64 b.f ∧ I64 b.o ∧ I64 b.t) (hp : I64 p) :
    Calls Try.prog 8 #[.agg #[.int .i64 b.f, .int .i64 b.o, .int .i64 b.t], .int .i64 p] w fun e w' => e = .returned (.bool true) ∧ Below w.heap.size w w' := by
  go_enter Try.func8, Try.ntmps8
  go_wp2_with (first
    | (go_at_call 21; refine (toBoard_ b _).mono ?_; rintro e w' ⟨rfl, hb⟩; obtain ⟨hc, hf⟩ := bcell hb; have hz0 : w.heap.size < w'.heap.size := (by have := hb.size; (try simp at this); omega); have hw : Below w.heap.size w w' := below_step (by first | assumption | exact (Below.refl _ _).alloc (Nat.le_refl _) _) hb (by (try simp); (try omega)))
    | (go_at_call 27; refine (sTurnPosition_ b p hp _).mono ?_; rintro e w' ⟨rfl, hb⟩; obtain ⟨hc, hf⟩ := bcell hb; have hz0 : w.heap.size < w'.heap.size := (by have := hb.size; (try simp at this); omega); have hw : Below w.heap.size w w' := below_step (by first | assumption | exact (Below.refl _ _).alloc (Nat.le_refl _) _) hb (by (try simp); (try omega)))
    | (go_at_call 28; refine (iTurnPosition_ b p hp _).mono ?_; rintro e w' ⟨rfl, hb⟩; obtain ⟨hc, hf⟩ := bcell hb; have hz0 : w.heap.size < w'.heap.size := (by have := hb.size; (try simp at this); omega); have hw : Below w.heap.size w w' := below_step (by first | assumption | exact (Below.refl _ _).alloc (Nat.le_refl _) _) hb (by (try simp); (try omega))))
  go_ret
  exact ⟨rfl, hw⟩
theorem fnExactMirrorBoard_walk (b : Ln) (w : World) (_ : I64 b.f ∧ I64 b.o ∧ I64 b.t) :
    Calls Try.prog 12 #[.agg #[.int .i64 b.f, .int .i64 b.o, .int .i64 b.t]] w fun e w' => e = .returned (.bool true) ∧ Below w.heap.size w w' := by
  have he : eqL (mirBoard b) (mirBoard b) = true := by simp [eqL]
  go_enter Try.func12, Try.ntmps12
  go_wp2_with fail
  refine (toBoard_ b _).mono ?_
  rintro e w1 ⟨rfl, hb1⟩
  have z0_1 : w.heap.size < w1.heap.size := by have := hb1.size; simp at this; omega
  have hw1 : Below w.heap.size w w1 := below_step (by repeat (first | exact Below.refl _ _ | (refine Below.alloc ?_ (by simp; try omega) _))) hb1 (by simp; try omega)
  have c01 : w1.cell? ⟨w.heap.size, 0, none⟩ = some (.int .i64 b.f) := by rw [hb1.cell (p := ⟨w.heap.size, 0, none⟩) (by show w.heap.size < _; simp; try omega)]; simp [go_sem]
  have c11 : w1.cell? ⟨w.heap.size, 1, none⟩ = some (.int .i64 b.o) := by rw [hb1.cell (p := ⟨w.heap.size, 1, none⟩) (by show w.heap.size < _; simp; try omega)]; simp [go_sem]
  have c21 : w1.cell? ⟨w.heap.size, 2, none⟩ = some (.int .i64 b.t) := by rw [hb1.cell (p := ⟨w.heap.size, 2, none⟩) (by show w.heap.size < _; simp; try omega)]; simp [go_sem]
  go_wp2_with fail
  refine (sMirrorBoard_ b _).mono ?_
  rintro e w2 ⟨rfl, hb2⟩
  have y2 : w1.heap.size + 0 ≤ w2.heap.size := by have := hb2.size; (try simp at this); omega
  have hw2 : Below w.heap.size w w2 := below_next hw1 hb2
  have z0_2 : w.heap.size < w2.heap.size := by omega
  have c02 := (hb2.cell (p := ⟨w.heap.size, 0, none⟩) (by show w.heap.size < _; omega)).trans c01
  have c12 := (hb2.cell (p := ⟨w.heap.size, 1, none⟩) (by show w.heap.size < _; omega)).trans c11
  have c22 := (hb2.cell (p := ⟨w.heap.size, 2, none⟩) (by show w.heap.size < _; omega)).trans c21
  clear c01 c11 c21
  go_wp2_with fail
  refine (toBoard_ b _).mono ?_
  rintro e w3 ⟨rfl, hb3⟩
  have y3 : w2.heap.size + 1 ≤ w3.heap.size := by have := hb3.size; (try simp at this); omega
  have hw3 : Below w.heap.size w w3 := below_step (by repeat (first | exact hw2 | (refine Below.alloc ?_ (by have := hw2.size; simp; try omega) _))) hb3 (by have := hw2.size; simp; try omega)
  have z0_3 : w.heap.size < w3.heap.size := by omega
  have z1_3 : w2.heap.size < w3.heap.size := by omega
  have c03 : w3.cell? ⟨w.heap.size, 0, none⟩ = some (.int .i64 b.f) := by rw [hb3.cell (p := ⟨w.heap.size, 0, none⟩) (by show w.heap.size < _; simp; omega)]; rw [World.cell?_alloc_lt _ _ _ (by show w.heap.size < _; omega)]; exact c02
  have c13 : w3.cell? ⟨w.heap.size, 1, none⟩ = some (.int .i64 b.o) := by rw [hb3.cell (p := ⟨w.heap.size, 1, none⟩) (by show w.heap.size < _; simp; omega)]; rw [World.cell?_alloc_lt _ _ _ (by show w.heap.size < _; omega)]; exact c12
  have c23 : w3.cell? ⟨w.heap.size, 2, none⟩ = some (.int .i64 b.t) := by rw [hb3.cell (p := ⟨w.heap.size, 2, none⟩) (by show w.heap.size < _; simp; omega)]; rw [World.cell?_alloc_lt _ _ _ (by show w.heap.size < _; omega)]; exact c22
  have d03 : w3.cell? ⟨w2.heap.size, 0, none⟩ = some (.int .i64 (mirBoard b).f) := by rw [hb3.cell (p := ⟨w2.heap.size, 0, none⟩) (by show w2.heap.size < _; simp; try omega)]; simp [go_sem]
  have d13 : w3.cell? ⟨w2.heap.size, 1, none⟩ = some (.int .i64 (mirBoard b).o) := by rw [hb3.cell (p := ⟨w2.heap.size, 1, none⟩) (by show w2.heap.size < _; simp; try omega)]; simp [go_sem]
  have d23 : w3.cell? ⟨w2.heap.size, 2, none⟩ = some (.int .i64 (mirBoard b).t) := by rw [hb3.cell (p := ⟨w2.heap.size, 2, none⟩) (by show w2.heap.size < _; simp; try omega)]; simp [go_sem]
  clear c02 c12 c22
  go_wp2_with fail
  refine (iMirrorBoard_ b _).mono ?_
  rintro e w4 ⟨rfl, hb4⟩
  have y4 : w3.heap.size + 0 ≤ w4.heap.size := by have := hb4.size; (try simp at this); omega
  have hw4 : Below w.heap.size w w4 := below_next hw3 hb4
  have z0_4 : w.heap.size < w4.heap.size := by omega
  have z1_4 : w2.heap.size < w4.heap.size := by omega
  have c04 := (hb4.cell (p := ⟨w.heap.size, 0, none⟩) (by show w.heap.size < _; omega)).trans c03
  have c14 := (hb4.cell (p := ⟨w.heap.size, 1, none⟩) (by show w.heap.size < _; omega)).trans c13
  have c24 := (hb4.cell (p := ⟨w.heap.size, 2, none⟩) (by show w.heap.size < _; omega)).trans c23
  have d04 := (hb4.cell (p := ⟨w2.heap.size, 0, none⟩) (by show w2.heap.size < _; omega)).trans d03
  have d14 := (hb4.cell (p := ⟨w2.heap.size, 1, none⟩) (by show w2.heap.size < _; omega)).trans d13
  have d24 := (hb4.cell (p := ⟨w2.heap.size, 2, none⟩) (by show w2.heap.size < _; omega)).trans d23
  clear c03 c13 c23 d03 d13 d23
  go_wp2_with fail
  refine (is_ (eqBoard_ (mirBoard b) (mirBoard b) _) he).mono ?_
  rintro e w5 ⟨rfl, hb5⟩
  have y5 : w4.heap.size + 1 ≤ w5.heap.size := by have := hb5.size; (try simp at this); omega
  have hw5 : Below w.heap.size w w5 := below_step (by repeat (first | exact hw4 | (refine Below.alloc ?_ (by have := hw4.size; simp; try omega) _))) hb5 (by have := hw4.size; simp; try omega)
  have z0_5 : w.heap.size < w5.heap.size := by omega
  have z1_5 : w2.heap.size < w5.heap.size := by omega
  have z2_5 : w4.heap.size < w5.heap.size := by omega
  have c05 : w5.cell? ⟨w.heap.size, 0, none⟩ = some (.int .i64 b.f) := by rw [hb5.cell (p := ⟨w.heap.size, 0, none⟩) (by show w.heap.size < _; simp; omega)]; rw [World.cell?_alloc_lt _ _ _ (by show w.heap.size < _; omega)]; exact c04
  have c15 : w5.cell? ⟨w.heap.size, 1, none⟩ = some (.int .i64 b.o) := by rw [hb5.cell (p := ⟨w.heap.size, 1, none⟩) (by show w.heap.size < _; simp; omega)]; rw [World.cell?_alloc_lt _ _ _ (by show w.heap.size < _; omega)]; exact c14
  have c25 : w5.cell? ⟨w.heap.size, 2, none⟩ = some (.int .i64 b.t) := by rw [hb5.cell (p := ⟨w.heap.size, 2, none⟩) (by show w.heap.size < _; simp; omega)]; rw [World.cell?_alloc_lt _ _ _ (by show w.heap.size < _; omega)]; exact c24
  have d05 : w5.cell? ⟨w2.heap.size, 0, none⟩ = some (.int .i64 (mirBoard b).f) := by rw [hb5.cell (p := ⟨w2.heap.size, 0, none⟩) (by show w2.heap.size < _; simp; omega)]; rw [World.cell?_alloc_lt _ _ _ (by show w2.heap.size < _; omega)]; exact d04
  have d15 : w5.cell? ⟨w2.heap.size, 1, none⟩ = some (.int .i64 (mirBoard b).o) := by rw [hb5.cell (p := ⟨w2.heap.size, 1, none⟩) (by show w2.heap.size < _; simp; omega)]; rw [World.cell?_alloc_lt _ _ _ (by show w2.heap.size < _; omega)]; exact d14
  have d25 : w5.cell? ⟨w2.heap.size, 2, none⟩ = some (.int .i64 (mirBoard b).t) := by rw [hb5.cell (p := ⟨w2.heap.size, 2, none⟩) (by show w2.heap.size < _; simp; omega)]; rw [World.cell?_alloc_lt _ _ _ (by show w2.heap.size < _; omega)]; exact d24
  clear c04 c14 c24 d04 d14 d24
  go_wp2
  go_ret
  exact ⟨rfl, hw5⟩
theorem fnExactTurnBoard_walk (b : Ln) (w : World) (_ : I64 b.f ∧ I64 b.o ∧ I64 b.t) :
    Calls Try.prog 13 #[.agg #[.int .i64 b.f, .int .i64 b.o, .int .i64 b.t]] w fun e w' => e = .returned (.bool true) ∧ Below w.heap.size w w' := by
  have he : eqL (turnBoard b) (turnBoard b) = true := by simp [eqL]
  go_enter Try.func13, Try.ntmps13
  go_wp2_with fail
  refine (toBoard_ b _).mono ?_
  rintro e w1 ⟨rfl, hb1⟩
  have z0_1 : w.heap.size < w1.heap.size := by have := hb1.size; simp at this; omega
  have hw1 : Below w.heap.size w w1 := below_step (by repeat (first | exact Below.refl _ _ | (refine Below.alloc ?_ (by simp; try omega) _))) hb1 (by simp; try omega)
  have c01 : w1.cell? ⟨w.heap.size, 0, none⟩ = some (.int .i64 b.f) := by rw [hb1.cell (p := ⟨w.heap.size, 0, none⟩) (by show w.heap.size < _; simp; try omega)]; simp [go_sem]
  have c11 : w1.cell? ⟨w.heap.size, 1, none⟩ = some (.int .i64 b.o) := by rw [hb1.cell (p := ⟨w.heap.size, 1, none⟩) (by show w.heap.size < _; simp; try omega)]; simp [go_sem]
  have c21 : w1.cell? ⟨w.heap.size, 2, none⟩ = some (.int .i64 b.t) := by rw [hb1.cell (p := ⟨w.heap.size, 2, none⟩) (by show w.heap.size < _; simp; try omega)]; simp [go_sem]
  go_wp2_with fail
  refine (sTurnBoard_ b _).mono ?_
  rintro e w2 ⟨rfl, hb2⟩
  have y2 : w1.heap.size + 0 ≤ w2.heap.size := by have := hb2.size; (try simp at this); omega
  have hw2 : Below w.heap.size w w2 := below_next hw1 hb2
  have z0_2 : w.heap.size < w2.heap.size := by omega
  have c02 := (hb2.cell (p := ⟨w.heap.size, 0, none⟩) (by show w.heap.size < _; omega)).trans c01
  have c12 := (hb2.cell (p := ⟨w.heap.size, 1, none⟩) (by show w.heap.size < _; omega)).trans c11
  have c22 := (hb2.cell (p := ⟨w.heap.size, 2, none⟩) (by show w.heap.size < _; omega)).trans c21
  clear c01 c11 c21
  go_wp2_with fail
  refine (toBoard_ b _).mono ?_
  rintro e w3 ⟨rfl, hb3⟩
  have y3 : w2.heap.size + 1 ≤ w3.heap.size := by have := hb3.size; (try simp at this); omega
  have hw3 : Below w.heap.size w w3 := below_step (by repeat (first | exact hw2 | (refine Below.alloc ?_ (by have := hw2.size; simp; try omega) _))) hb3 (by have := hw2.size; simp; try omega)
  have z0_3 : w.heap.size < w3.heap.size := by omega
  have z1_3 : w2.heap.size < w3.heap.size := by omega
  have c03 : w3.cell? ⟨w.heap.size, 0, none⟩ = some (.int .i64 b.f) := by rw [hb3.cell (p := ⟨w.heap.size, 0, none⟩) (by show w.heap.size < _; simp; omega)]; rw [World.cell?_alloc_lt _ _ _ (by show w.heap.size < _; omega)]; exact c02
  have c13 : w3.cell? ⟨w.heap.size, 1, none⟩ = some (.int .i64 b.o) := by rw [hb3.cell (p := ⟨w.heap.size, 1, none⟩) (by show w.heap.size < _; simp; omega)]; rw [World.cell?_alloc_lt _ _ _ (by show w.heap.size < _; omega)]; exact c12
  have c23 : w3.cell? ⟨w.heap.size, 2, none⟩ = some (.int .i64 b.t) := by rw [hb3.cell (p := ⟨w.heap.size, 2, none⟩) (by show w.heap.size < _; simp; omega)]; rw [World.cell?_alloc_lt _ _ _ (by show w.heap.size < _; omega)]; exact c22
  have d03 : w3.cell? ⟨w2.heap.size, 0, none⟩ = some (.int .i64 (turnBoard b).f) := by rw [hb3.cell (p := ⟨w2.heap.size, 0, none⟩) (by show w2.heap.size < _; simp; try omega)]; simp [go_sem]
  have d13 : w3.cell? ⟨w2.heap.size, 1, none⟩ = some (.int .i64 (turnBoard b).o) := by rw [hb3.cell (p := ⟨w2.heap.size, 1, none⟩) (by show w2.heap.size < _; simp; try omega)]; simp [go_sem]
  have d23 : w3.cell? ⟨w2.heap.size, 2, none⟩ = some (.int .i64 (turnBoard b).t) := by rw [hb3.cell (p := ⟨w2.heap.size, 2, none⟩) (by show w2.heap.size < _; simp; try omega)]; simp [go_sem]
  clear c02 c12 c22
  go_wp2_with fail
  refine (iTurnBoard_ b _).mono ?_
  rintro e w4 ⟨rfl, hb4⟩
  have y4 : w3.heap.size + 0 ≤ w4.heap.size := by have := hb4.size; (try simp at this); omega
  have hw4 : Below w.heap.size w w4 := below_next hw3 hb4
  have z0_4 : w.heap.size < w4.heap.size := by omega
  have z1_4 : w2.heap.size < w4.heap.size := by omega
  have c04 := (hb4.cell (p := ⟨w.heap.size, 0, none⟩) (by show w.heap.size < _; omega)).trans c03
  have c14 := (hb4.cell (p := ⟨w.heap.size, 1, none⟩) (by show w.heap.size < _; omega)).trans c13
  have c24 := (hb4.cell (p := ⟨w.heap.size, 2, none⟩) (by show w.heap.size < _; omega)).trans c23
  have d04 := (hb4.cell (p := ⟨w2.heap.size, 0, none⟩) (by show w2.heap.size < _; omega)).trans d03
  have d14 := (hb4.cell (p := ⟨w2.heap.size, 1, none⟩) (by show w2.heap.size < _; omega)).trans d13
  have d24 := (hb4.cell (p := ⟨w2.heap.size, 2, none⟩) (by show w2.heap.size < _; omega)).trans d23
  clear c03 c13 c23 d03 d13 d23
  go_wp2_with fail
  refine (is_ (eqBoard_ (turnBoard b) (turnBoard b) _) he).mono ?_
  rintro e w5 ⟨rfl, hb5⟩
  have y5 : w4.heap.size + 1 ≤ w5.heap.size := by have := hb5.size; (try simp at this); omega
  have hw5 : Below w.heap.size w w5 := below_step (by repeat (first | exact hw4 | (refine Below.alloc ?_ (by have := hw4.size; simp; try omega) _))) hb5 (by have := hw4.size; simp; try omega)
  have z0_5 : w.heap.size < w5.heap.size := by omega
  have z1_5 : w2.heap.size < w5.heap.size := by omega
  have z2_5 : w4.heap.size < w5.heap.size := by omega
  have c05 : w5.cell? ⟨w.heap.size, 0, none⟩ = some (.int .i64 b.f) := by rw [hb5.cell (p := ⟨w.heap.size, 0, none⟩) (by show w.heap.size < _; simp; omega)]; rw [World.cell?_alloc_lt _ _ _ (by show w.heap.size < _; omega)]; exact c04
  have c15 : w5.cell? ⟨w.heap.size, 1, none⟩ = some (.int .i64 b.o) := by rw [hb5.cell (p := ⟨w.heap.size, 1, none⟩) (by show w.heap.size < _; simp; omega)]; rw [World.cell?_alloc_lt _ _ _ (by show w.heap.size < _; omega)]; exact c14
  have c25 : w5.cell? ⟨w.heap.size, 2, none⟩ = some (.int .i64 b.t) := by rw [hb5.cell (p := ⟨w.heap.size, 2, none⟩) (by show w.heap.size < _; simp; omega)]; rw [World.cell?_alloc_lt _ _ _ (by show w.heap.size < _; omega)]; exact c24
  have d05 : w5.cell? ⟨w2.heap.size, 0, none⟩ = some (.int .i64 (turnBoard b).f) := by rw [hb5.cell (p := ⟨w2.heap.size, 0, none⟩) (by show w2.heap.size < _; simp; omega)]; rw [World.cell?_alloc_lt _ _ _ (by show w2.heap.size < _; omega)]; exact d04
  have d15 : w5.cell? ⟨w2.heap.size, 1, none⟩ = some (.int .i64 (turnBoard b).o) := by rw [hb5.cell (p := ⟨w2.heap.size, 1, none⟩) (by show w2.heap.size < _; simp; omega)]; rw [World.cell?_alloc_lt _ _ _ (by show w2.heap.size < _; omega)]; exact d14
  have d25 : w5.cell? ⟨w2.heap.size, 2, none⟩ = some (.int .i64 (turnBoard b).t) := by rw [hb5.cell (p := ⟨w2.heap.size, 2, none⟩) (by show w2.heap.size < _; simp; omega)]; rw [World.cell?_alloc_lt _ _ _ (by show w2.heap.size < _; omega)]; exact d24
  clear c04 c14 c24 d04 d14 d24
  go_wp2
  go_ret
  exact ⟨rfl, hw5⟩
end Go.Proofs.Yteboegckjijhjaa

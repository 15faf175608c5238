/- The contract of the reference's l15Ok: a small board and two positions on it. -/
import Derived.Test.YtliljgmpdfdakaaChecked
import Derived.Test.YtliljgmpdfdakaaMem
import Derived.Tactics
import Derived.Tactics2
import Derived.WalkKit
import Derived.WalkSpells
import Derived.WalkLawsBesides
import Derived.Deep.QuietTactic
import Derived.BigQuiet
import Derived.BigGuardPart
import Derived.Lib.QuietBelow
import Derived.OwnWalk
import Derived.KernelRfl
import Derived.Test.YtliljgmpdfdakaaSmall
set_option linter.unusedVariables false
set_option maxRecDepth 20000
namespace Go.Proofs.Ytliljgmpdfdakaa
open Go.RowKit Go.Sort

/-- Two positions of a small board. -/
def pairB (b : Ln) (p g : Int) : Bool := smallB b && posB b p && posB b g
theorem l15Ok_ (b : Ln) (p g : Int) (hp : I64 p) (hg : I64 g) (W : World) :
    Calls Try.prog 48 #[.agg #[.int .i64 b.f, .int .i64 b.o, .int .i64 b.t], .int .i64 p, .int .i64 g] W fun e w' => e = .returned (.bool (pairB b p g)) ∧ Below W.heap.size W w' := by
  rcases Bool.eq_false_or_eq_true (smallB b) with hS | hS
  · rcases Bool.eq_false_or_eq_true (posB b p) with hP | hP
    · rcases Bool.eq_false_or_eq_true (posB b g) with hG | hG
      · have HR := Lib.hid (show pairB b p g = true by simp [pairB, hS, hP, hG])
        go_enter Try.func48, Try.ntmps48
        go_wp2_with fail
        refine (is_ (sIsSmall_ b _) hS).mono ?_
        rintro e w1 ⟨rfl, hb1⟩
        obtain ⟨hc, hf⟩ := bcell hb1
        have z0 : W.heap.size < w1.heap.size := by have := hb1.size; (try simp at this); omega
        have hw1 : Below W.heap.size W w1 := below_step ((Below.refl _ _).alloc (Nat.le_refl _) _) hb1 (by (try simp))
        have c0 : w1.cell? ⟨W.heap.size, 0, none⟩ = some (.int .i64 b.f) := by rw [hc _ _ (by simp)]; simp [go_sem]
        have c1 : w1.cell? ⟨W.heap.size, 1, none⟩ = some (.int .i64 b.o) := by rw [hc _ _ (by simp)]; simp [go_sem]
        have c2 : w1.cell? ⟨W.heap.size, 2, none⟩ = some (.int .i64 b.t) := by rw [hc _ _ (by simp)]; simp [go_sem]
        clear hc hf hb1
        go_wp2_with fail
        refine (is_ (sPositionOk_ b p hp _) hP).mono ?_
        rintro e w2 ⟨rfl, hb2⟩
        replace c0 := (hb2.cell (p := ⟨W.heap.size, 0, none⟩) z0).trans c0
        replace c1 := (hb2.cell (p := ⟨W.heap.size, 1, none⟩) z0).trans c1
        replace c2 := (hb2.cell (p := ⟨W.heap.size, 2, none⟩) z0).trans c2
        have hw2 := below_next hw1 hb2
        have zw2 : W.heap.size < (w2).heap.size := by have := hb2.size; omega
        clear hb2
        go_wp2_with fail
        refine (is_ (sPositionOk_ b g hg _) hG).mono ?_
        rintro e w3 ⟨rfl, hb2⟩
        replace c0 := (hb2.cell (p := ⟨W.heap.size, 0, none⟩) zw2).trans c0
        replace c1 := (hb2.cell (p := ⟨W.heap.size, 1, none⟩) zw2).trans c1
        replace c2 := (hb2.cell (p := ⟨W.heap.size, 2, none⟩) zw2).trans c2
        have hw3 := below_next hw2 hb2
        have zw3 : W.heap.size < (w3).heap.size := by have := hb2.size; omega
        clear hb2
        go_wp2
        go_ret
        exact ⟨ret_bool HR.out.symm, hw3⟩
      · have HR := Lib.hid (show pairB b p g = false by simp [pairB, hG])
        go_enter Try.func48, Try.ntmps48
        go_wp2_with fail
        refine (is_ (sIsSmall_ b _) hS).mono ?_
        rintro e w1 ⟨rfl, hb1⟩
        obtain ⟨hc, hf⟩ := bcell hb1
        have z0 : W.heap.size < w1.heap.size := by have := hb1.size; (try simp at this); omega
        have hw1 : Below W.heap.size W w1 := below_step ((Below.refl _ _).alloc (Nat.le_refl _) _) hb1 (by (try simp))
        have c0 : w1.cell? ⟨W.heap.size, 0, none⟩ = some (.int .i64 b.f) := by rw [hc _ _ (by simp)]; simp [go_sem]
        have c1 : w1.cell? ⟨W.heap.size, 1, none⟩ = some (.int .i64 b.o) := by rw [hc _ _ (by simp)]; simp [go_sem]
        have c2 : w1.cell? ⟨W.heap.size, 2, none⟩ = some (.int .i64 b.t) := by rw [hc _ _ (by simp)]; simp [go_sem]
        clear hc hf hb1
        go_wp2_with fail
        refine (is_ (sPositionOk_ b p hp _) hP).mono ?_
        rintro e w2 ⟨rfl, hb2⟩
        replace c0 := (hb2.cell (p := ⟨W.heap.size, 0, none⟩) z0).trans c0
        replace c1 := (hb2.cell (p := ⟨W.heap.size, 1, none⟩) z0).trans c1
        replace c2 := (hb2.cell (p := ⟨W.heap.size, 2, none⟩) z0).trans c2
        have hw2 := below_next hw1 hb2
        have zw2 : W.heap.size < (w2).heap.size := by have := hb2.size; omega
        clear hb2
        go_wp2_with fail
        refine (is_ (sPositionOk_ b g hg _) hG).mono ?_
        rintro e w3 ⟨rfl, hb2⟩
        replace c0 := (hb2.cell (p := ⟨W.heap.size, 0, none⟩) zw2).trans c0
        replace c1 := (hb2.cell (p := ⟨W.heap.size, 1, none⟩) zw2).trans c1
        replace c2 := (hb2.cell (p := ⟨W.heap.size, 2, none⟩) zw2).trans c2
        have hw3 := below_next hw2 hb2
        have zw3 : W.heap.size < (w3).heap.size := by have := hb2.size; omega
        clear hb2
        go_wp2
        go_ret
        exact ⟨ret_bool HR.out.symm, hw3⟩
    · have HR := Lib.hid (show pairB b p g = false by simp [pairB, hP])
      go_enter Try.func48, Try.ntmps48
      go_wp2_with fail
      refine (is_ (sIsSmall_ b _) hS).mono ?_
      rintro e w1 ⟨rfl, hb1⟩
      obtain ⟨hc, hf⟩ := bcell hb1
      have z0 : W.heap.size < w1.heap.size := by have := hb1.size; (try simp at this); omega
      have hw1 : Below W.heap.size W w1 := below_step ((Below.refl _ _).alloc (Nat.le_refl _) _) hb1 (by (try simp))
      have c0 : w1.cell? ⟨W.heap.size, 0, none⟩ = some (.int .i64 b.f) := by rw [hc _ _ (by simp)]; simp [go_sem]
      have c1 : w1.cell? ⟨W.heap.size, 1, none⟩ = some (.int .i64 b.o) := by rw [hc _ _ (by simp)]; simp [go_sem]
      have c2 : w1.cell? ⟨W.heap.size, 2, none⟩ = some (.int .i64 b.t) := by rw [hc _ _ (by simp)]; simp [go_sem]
      clear hc hf hb1
      go_wp2_with fail
      refine (is_ (sPositionOk_ b p hp _) hP).mono ?_
      rintro e w2 ⟨rfl, hb2⟩
      replace c0 := (hb2.cell (p := ⟨W.heap.size, 0, none⟩) z0).trans c0
      replace c1 := (hb2.cell (p := ⟨W.heap.size, 1, none⟩) z0).trans c1
      replace c2 := (hb2.cell (p := ⟨W.heap.size, 2, none⟩) z0).trans c2
      have hw2 := below_next hw1 hb2
      have zw2 : W.heap.size < (w2).heap.size := by have := hb2.size; omega
      clear hb2
      go_wp2
      go_ret
      exact ⟨ret_bool HR.out.symm, hw2⟩
  · have HR := Lib.hid (show pairB b p g = false by simp [pairB, hS])
    go_enter Try.func48, Try.ntmps48
    go_wp2_with fail
    refine (is_ (sIsSmall_ b _) hS).mono ?_
    rintro e w1 ⟨rfl, hb1⟩
    obtain ⟨hc, hf⟩ := bcell hb1
    have z0 : W.heap.size < w1.heap.size := by have := hb1.size; (try simp at this); omega
    have hw1 : Below W.heap.size W w1 := below_step ((Below.refl _ _).alloc (Nat.le_refl _) _) hb1 (by (try simp))
    have c0 : w1.cell? ⟨W.heap.size, 0, none⟩ = some (.int .i64 b.f) := by rw [hc _ _ (by simp)]; simp [go_sem]
    have c1 : w1.cell? ⟨W.heap.size, 1, none⟩ = some (.int .i64 b.o) := by rw [hc _ _ (by simp)]; simp [go_sem]
    have c2 : w1.cell? ⟨W.heap.size, 2, none⟩ = some (.int .i64 b.t) := by rw [hc _ _ (by simp)]; simp [go_sem]
    clear hc hf hb1
    go_wp2
    go_ret
    exact ⟨ret_bool HR.out.symm, hw1⟩
end Go.Proofs.Ytliljgmpdfdakaa

/- The contracts of ShortestGame. -/
import Derived.Test.YtbcgokpamhgabaaChecked
import Derived.Test.YtbcgokpamhgabaaMem
import Derived.Tactics
import Derived.Tactics2
import Derived.WalkKit
import Derived.WalkSpells
import Derived.WalkLawsBesides
import Derived.Deep.QuietTactic
import Derived.BigQuiet
import Derived.BigGuardPart
import Derived.Lib.QuietBelow
import Derived.OwnWalk
import Derived.KernelRfl
import Derived.Test.YtbcgokpamhgabaaMostG
set_option linter.unusedVariables false
set_option maxRecDepth 20000
namespace Go.Proofs.Ytbcgokpamhgabaa
open Go.RowKit Go.Sort

theorem most_yes {b : Ln} {p : Int} (h : decide (mostR b p < 0) = false) : smallB b = true ∧ posB b p = true := by
  rcases Bool.eq_false_or_eq_true (smallB b && posB b p) with hh | hh
  · rwa [Bool.and_eq_true] at hh
  · have e : mostR b p = -1 := by rw [mostR, stuckR, reachL_no hh]; rfl
    rw [e] at h; simp at h
def shortR (b : Ln) (p : Int) : Int := if mostR b p < 0 then -1 else ((popc p.toNat : Nat) : Int) - mostR b p
theorem most_bd (b : Ln) (p : Int) : -1 ≤ mostR b p ∧ mostR b p ≤ 49 := most_bound _ _
theorem iShortestGame_ (b : Ln) (p : Int) (hp : I64 p) (W : World) :
    Calls Try.prog 60 #[.agg #[.int .i64 b.f, .int .i64 b.o, .int .i64 b.t], .int .i64 p] W fun e w' => e = .returned (.int .i64 (shortR b p)) ∧ Below W.heap.size W w' := by
  have hmb := most_bd b p
  obtain ⟨M, hM⟩ : ∃ M, mostR b p = M := ⟨_, rfl⟩
  rcases Bool.eq_false_or_eq_true (decide (M < 0)) with hd | hd
  · have HS : Hid (shortR b p = -1) := Lib.hid (by rw [shortR, hM, if_pos (by simpa using hd)])
    rw [hM] at hmb
    have HM := Lib.hid hM
    clear hM
    go_enter Try.func60, Try.ntmps60
    go_wp2_with fail
    refine (isI_ (iMostLeft_ b p hp _) HM.out).mono ?_
    rintro e w1 ⟨rfl, hb1⟩
    have hw1 : Below W.heap.size W w1 := below_step ((Below.refl _ _).alloc (Nat.le_refl _) _) hb1 (by (try simp))
    go_wp2
    go_ret
    exact ⟨by rw [HS.out]; rfl, hw1⟩
  · obtain ⟨hS, hP⟩ := most_yes (b := b) (p := p) (by rw [hM]; exact hd)
    have HS : Hid (shortR b p = ((popc p.toNat : Nat) : Int) - M) := Lib.hid (by rw [shortR, hM, if_neg (by simpa using hd)])
    obtain ⟨w, h, s, rfl, hb, h16, s16⟩ := smallB_nat hS
    obtain ⟨q, rfl, hq⟩ := posB_nat hP
    have hq6 : q < 65536 := Nat.lt_of_lt_of_le (posB_lt hb hq) (Nat.pow_le_pow_right (n := 2) (j := 16) (by omega) h16)
    rw [hM] at hmb
    rw [Int.toNat_natCast] at HS
    have hpc := popc_le49 q
    have HM := Lib.hid hM
    have HPC : Hid (pegsB ⟨w, h, s⟩ q = ((popc q : Nat) : Int)) := Lib.hid (by rw [pegsB, if_pos hP, Int.toNat_natCast])
    clear hM hS hq h16 s16
    go_enter Try.func60, Try.ntmps60
    go_wp2_with fail
    refine (isI_ (iMostLeft_ ⟨w, h, s⟩ q hp _) HM.out).mono ?_
    rintro e w1 ⟨rfl, hb1⟩
    obtain ⟨hc, hf⟩ := bcell hb1
    have z0 : W.heap.size < w1.heap.size := by have := hb1.size; (try simp at this); omega
    have hw1 : Below W.heap.size W w1 := below_step ((Below.refl _ _).alloc (Nat.le_refl _) _) hb1 (by (try simp))
    have c0 : w1.cell? ⟨W.heap.size, 0, none⟩ = some (.int .i64 w) := by rw [hc _ _ (by simp)]; simp [go_sem]
    have c1 : w1.cell? ⟨W.heap.size, 1, none⟩ = some (.int .i64 h) := by rw [hc _ _ (by simp)]; simp [go_sem]
    have c2 : w1.cell? ⟨W.heap.size, 2, none⟩ = some (.int .i64 s) := by rw [hc _ _ (by simp)]; simp [go_sem]
    clear hc hf hb1
    go_wp2_with fail
    (refine (pegsIn_ q hq6 _).mono ?_; rintro e w2 ⟨rfl, rfl⟩; have hw2 := hw1)
    go_wp2
    go_ret
    exact ⟨by rw [HS.out]; rfl, hw2⟩
end Go.Proofs.Ytbcgokpamhgabaa

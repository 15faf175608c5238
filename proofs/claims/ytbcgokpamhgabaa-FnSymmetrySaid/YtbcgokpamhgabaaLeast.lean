/- The contracts of LeastForm. -/
import Derived.Test.YtbcgokpamhgabaaChecked
import Derived.Test.YtbcgokpamhgabaaMem
import Derived.Tactics
import Derived.Tactics2
import Derived.WalkKit
import Derived.WalkSpells
import Derived.WalkLawsBesides
import Derived.Deep.QuietTactic
import Derived.BigQuiet
import Derived.BigGuardPart
import Derived.Lib.QuietBelow
import Derived.OwnWalk
import Derived.KernelRfl
import Derived.Test.YtbcgokpamhgabaaLines
import Derived.Test.YtbcgokpamhgabaaSymB
import Derived.Test.YtbcgokpamhgabaaLeastP
set_option linter.unusedVariables false
set_option maxRecDepth 20000
namespace Go.Proofs.Ytbcgokpamhgabaa
open Go.RowKit Go.Sort

theorem b63_area' {w h s q : Nat} (hb : BdOk w h s) (hq : q < 2 ^ (w * h)) : B63 q := by
  have := Nat.lt_of_lt_of_le hq (Nat.pow_le_pow_right (n := 2) (by omega) hb.area.2)
  unfold B63; omega
theorem int_eq {a b : Nat} (h : a = b) : Value.int .i64 (a : Int) = .int .i64 (b : Int) := by rw [h]
set_option maxHeartbeats 1000000 in
theorem iLeastForm_ (b : Ln) (p : Int) (hp : I64 p) (W : World) :
    Calls Try.prog 37 #[.agg #[.int .i64 b.f, .int .i64 b.o, .int .i64 b.t], .int .i64 p] W fun e w' => e = .returned (.int .i64 (leastF b p)) ∧ Below W.heap.size W w' := by
  rcases Bool.eq_false_or_eq_true (posB b p) with hP | hP
  · obtain ⟨f, o, t, q, rfl, rfl, hb, hq⟩ := posB_open hP
    have hql := Nat.lt_of_le_of_lt (sub_le hq) hb.s2
    rcases Bool.eq_false_or_eq_true (isTurnB ⟨f, o, t⟩) with hA | hA
    · rcases Bool.eq_false_or_eq_true (isMirB ⟨f, o, t⟩) with hB | hB
      · have HR := Lib.hid (show leastF ⟨f, o, t⟩ q = (lfI (turnS ⟨f, o, t⟩) (mirS ⟨f, o, t⟩) q 4 : Nat) by simp [leastF, hP, hA, hB])
        have HLT : Hid (∀ i, itT (turnS ⟨f, o, t⟩) q i < 2 ^ (f * o)) := Lib.hid (itT_lt hb hql)
        have HQL := Lib.hid hql
        clear hql hq
        go_enter Try.func37, Try.ntmps37
        go_wp2_with (first | (go_at_call 106; refine (is_ (iPositionOk_ _ _ hp _) hP).mono ?_; rintro e w1 ⟨rfl, hb1⟩; obtain ⟨hc, hf⟩ := bcell hb1; have hz0 : W.heap.size < w1.heap.size := (by have := hb1.size; (try simp at this); omega); have hw1 : Below W.heap.size W w1 := below_step ((Below.refl _ _).alloc (Nat.le_refl _) _) hb1 (by (try simp))))
        have b0 : w1.cell? ⟨W.heap.size, 0, none⟩ = some (.int .i64 f) := by rw [hc _ _ (by simp)]; simp [go_sem]
        have b1 : w1.cell? ⟨W.heap.size, 1, none⟩ = some (.int .i64 o) := by rw [hc _ _ (by simp)]; simp [go_sem]
        have b2 : w1.cell? ⟨W.heap.size, 2, none⟩ = some (.int .i64 t) := by rw [hc _ _ (by simp)]; simp [go_sem]
        clear hc hf hb1
        refine (is_ (iIsTurned_ ⟨f, o, t⟩ _) hA).mono ?_
        rintro e w2 ⟨rfl, hb2⟩
        have d0 := (hb2.cell (p := ⟨W.heap.size, 0, none⟩) hz0).trans b0
        have d1 := (hb2.cell (p := ⟨W.heap.size, 1, none⟩) hz0).trans b1
        have d2 := (hb2.cell (p := ⟨W.heap.size, 2, none⟩) hz0).trans b2
        have hw2 := below_next hw1 hb2
        have hz2 : W.heap.size < w2.heap.size := by have := hb2.size; omega
        clear b0 b1 b2
        go_wp2_with fail
        refine (is_ (iIsMirrored_ ⟨f, o, t⟩ _) hB).mono ?_
        rintro e w3 ⟨rfl, hb3⟩
        have e0 := (hb3.cell (p := ⟨W.heap.size, 0, none⟩) hz2).trans d0
        have e1 := (hb3.cell (p := ⟨W.heap.size, 1, none⟩) hz2).trans d1
        have e2 := (hb3.cell (p := ⟨W.heap.size, 2, none⟩) hz2).trans d2
        have hw3 := below_next hw2 hb3
        have hz3 : W.heap.size < w3.heap.size := by have := hb3.size; omega
        clear d0 d1 d2
        go_wp2_with fail
        go_loopw [5, 6, 7] (fun lv nv iv wr => ∃ i : Nat, i ≤ 4 ∧ iv = .int .i64 i ∧ nv = .int .i64 (itT (turnS ⟨f, o, t⟩) q i : Nat) ∧ lv = .int .i64 (lfI (turnS ⟨f, o, t⟩) (mirS ⟨f, o, t⟩) q i : Nat) ∧ Below w3.heap.size w3 wr) (fun _ _ iv _ => 4 - (intOf iv).toNat)
        case atStart => exact ⟨0, by omega, rfl, rfl, rfl, Below.refl _ _⟩
        case round =>
          obtain ⟨i, hi, rfl, rfl, rfl, hw⟩ := hrel
          have hsz := hw.size
          have g0 := (hw.cell (p := ⟨W.heap.size, 0, none⟩) hz3).trans e0
          have g1 := (hw.cell (p := ⟨W.heap.size, 1, none⟩) hz3).trans e1
          have g2 := (hw.cell (p := ⟨W.heap.size, 2, none⟩) hz3).trans e2
          have hzr : W.heap.size < wr.heap.size := by omega
          have HX : Hid (itT (turnS ⟨f, o, t⟩) q (i + 1) = turnS ⟨f, o, t⟩ (itT (turnS ⟨f, o, t⟩) q i)) := Lib.hid rfl
          have HY : Hid (lfI (turnS ⟨f, o, t⟩) (mirS ⟨f, o, t⟩) q (i + 1) = min (min (lfI (turnS ⟨f, o, t⟩) (mirS ⟨f, o, t⟩) q i) (itT (turnS ⟨f, o, t⟩) q i)) (mirS ⟨f, o, t⟩ (itT (turnS ⟨f, o, t⟩) q i))) := Lib.hid rfl
          have hl := HLT.out i
          by_cases hi4 : i < 4
          · generalize itT (turnS ⟨f, o, t⟩) q i = n at HX HY hl ⊢
            generalize lfI (turnS ⟨f, o, t⟩) (mirS ⟨f, o, t⟩) q i = l at HY ⊢
            have n63 := b63_area' hb hl
            go_wp2_with fail
            refine (mirrorSet_ f o t n hb n63 _).mono ?_
            rintro e w4 ⟨rfl, hb4⟩
            have k0 := (hb4.cell (p := ⟨W.heap.size, 0, none⟩) hzr).trans g0
            have k1 := (hb4.cell (p := ⟨W.heap.size, 1, none⟩) hzr).trans g1
            have k2 := (hb4.cell (p := ⟨W.heap.size, 2, none⟩) hzr).trans g2
            have hw4 := hw.trans (hb4.mono hsz)
            have hzr4 : W.heap.size < w4.heap.size := by have := hb4.size; omega
            generalize mirS ⟨f, o, t⟩ n = m at HY ⊢
            clear g0 g1 g2
            have hcase : (n < l ∧ m < n) ∨ (n < l ∧ ¬ m < n) ∨ (¬ n < l ∧ m < l) ∨ (¬ n < l ∧ ¬ m < l) := by omega
            rcases hcase with ⟨h1, h2⟩ | ⟨h1, h2⟩ | ⟨h1, h2⟩ | ⟨h1, h2⟩
            all_goals
              go_wp2_with fail
              refine (turnSet_ f o t n hb n63 _).mono ?_
              rintro e w5 ⟨rfl, hb5⟩
              have hw5 := hw4.trans (hb5.mono (by have := hb4.size; omega))
              generalize turnS ⟨f, o, t⟩ n = n' at HX ⊢
              clear k0 k1 k2
              go_wp2
              go_roundw
              case rel => exact ⟨i + 1, by omega, by go_num, by rw [HX.out], by rw [HY.out]; exact int_eq (by omega), hw5⟩
              case measure => simp [intOf]; omega
          · have e : i = 4 := by omega
            subst e
            go_wp2
            go_ret
            exact ⟨ret_int HR.out.symm, below_next hw3 hw⟩
      · have HR := Lib.hid (show leastF ⟨f, o, t⟩ q = q by simp [leastF, hP, hA, hB])
        clear hql hq
        go_enter Try.func37, Try.ntmps37
        go_wp2_with (first | (go_at_call 106; refine (is_ (iPositionOk_ _ _ hp _) hP).mono ?_; rintro e w1 ⟨rfl, hb1⟩; obtain ⟨hc, hf⟩ := bcell hb1; have hz0 : W.heap.size < w1.heap.size := (by have := hb1.size; (try simp at this); omega); have hw1 : Below W.heap.size W w1 := below_step ((Below.refl _ _).alloc (Nat.le_refl _) _) hb1 (by (try simp))))
        have b0 : w1.cell? ⟨W.heap.size, 0, none⟩ = some (.int .i64 f) := by rw [hc _ _ (by simp)]; simp [go_sem]
        have b1 : w1.cell? ⟨W.heap.size, 1, none⟩ = some (.int .i64 o) := by rw [hc _ _ (by simp)]; simp [go_sem]
        have b2 : w1.cell? ⟨W.heap.size, 2, none⟩ = some (.int .i64 t) := by rw [hc _ _ (by simp)]; simp [go_sem]
        clear hc hf hb1
        refine (is_ (iIsTurned_ ⟨f, o, t⟩ _) hA).mono ?_
        rintro e w2 ⟨rfl, hb2⟩
        have d0 := (hb2.cell (p := ⟨W.heap.size, 0, none⟩) hz0).trans b0
        have d1 := (hb2.cell (p := ⟨W.heap.size, 1, none⟩) hz0).trans b1
        have d2 := (hb2.cell (p := ⟨W.heap.size, 2, none⟩) hz0).trans b2
        have hw2 := below_next hw1 hb2
        have hz2 : W.heap.size < w2.heap.size := by have := hb2.size; omega
        clear b0 b1 b2
        go_wp2_with fail
        refine (is_ (iIsMirrored_ ⟨f, o, t⟩ _) hB).mono ?_
        rintro e w3 ⟨rfl, hb3⟩
        have e0 := (hb3.cell (p := ⟨W.heap.size, 0, none⟩) hz2).trans d0
        have e1 := (hb3.cell (p := ⟨W.heap.size, 1, none⟩) hz2).trans d1
        have e2 := (hb3.cell (p := ⟨W.heap.size, 2, none⟩) hz2).trans d2
        have hw3 := below_next hw2 hb3
        have hz3 : W.heap.size < w3.heap.size := by have := hb3.size; omega
        clear d0 d1 d2
        go_wp2
        go_ret
        exact ⟨ret_int HR.out.symm, hw3⟩
    · have HR := Lib.hid (show leastF ⟨f, o, t⟩ q = q by simp [leastF, hP, hA])
      clear hql hq
      go_enter Try.func37, Try.ntmps37
      go_wp2_with (first | (go_at_call 106; refine (is_ (iPositionOk_ _ _ hp _) hP).mono ?_; rintro e w1 ⟨rfl, hb1⟩; obtain ⟨hc, hf⟩ := bcell hb1; have hz0 : W.heap.size < w1.heap.size := (by have := hb1.size; (try simp at this); omega); have hw1 : Below W.heap.size W w1 := below_step ((Below.refl _ _).alloc (Nat.le_refl _) _) hb1 (by (try simp))))
      have b0 : w1.cell? ⟨W.heap.size, 0, none⟩ = some (.int .i64 f) := by rw [hc _ _ (by simp)]; simp [go_sem]
      have b1 : w1.cell? ⟨W.heap.size, 1, none⟩ = some (.int .i64 o) := by rw [hc _ _ (by simp)]; simp [go_sem]
      have b2 : w1.cell? ⟨W.heap.size, 2, none⟩ = some (.int .i64 t) := by rw [hc _ _ (by simp)]; simp [go_sem]
      clear hc hf hb1
      refine (is_ (iIsTurned_ ⟨f, o, t⟩ _) hA).mono ?_
      rintro e w2 ⟨rfl, hb2⟩
      have d0 := (hb2.cell (p := ⟨W.heap.size, 0, none⟩) hz0).trans b0
      have d1 := (hb2.cell (p := ⟨W.heap.size, 1, none⟩) hz0).trans b1
      have d2 := (hb2.cell (p := ⟨W.heap.size, 2, none⟩) hz0).trans b2
      have hw2 := below_next hw1 hb2
      have hz2 : W.heap.size < w2.heap.size := by have := hb2.size; omega
      clear b0 b1 b2
      go_wp2
      go_ret
      exact ⟨ret_int HR.out.symm, hw2⟩
  · have HR := Lib.hid (show leastF b p = -1 by simp [leastF, hP])
    go_enter Try.func37, Try.ntmps37
    go_wp2_with (first | (go_at_call 106; refine (is_ (iPositionOk_ _ _ hp _) hP).mono ?_; rintro e w1 ⟨rfl, hb1⟩; obtain ⟨hc, hf⟩ := bcell hb1; have hz0 : W.heap.size < w1.heap.size := (by have := hb1.size; (try simp at this); omega); have hw1 : Below W.heap.size W w1 := below_step ((Below.refl _ _).alloc (Nat.le_refl _) _) hb1 (by (try simp))))
    go_ret
    exact ⟨ret_int HR.out.symm, hw1⟩
end Go.Proofs.Ytbcgokpamhgabaa

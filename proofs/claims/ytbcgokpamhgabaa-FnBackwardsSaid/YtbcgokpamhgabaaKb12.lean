/- The contracts of the functions on holes and lines. -/
import Derived.Test.YtbcgokpamhgabaaChecked
import Derived.Test.YtbcgokpamhgabaaKb01
import Derived.Tactics
import Derived.Tactics2
import Derived.WalkKit
import Derived.WalkSpells
import Derived.WalkLawsBesides
import Derived.Deep.QuietTactic
import Derived.BigQuiet
import Derived.BigGuardPart
import Derived.Lib.QuietBelow
import Derived.OwnWalk
import Derived.KernelRfl
import Derived.Deep.RegionHeld3
import Derived.BigRegion
import Derived.Test.YtbcgokpamhgabaaKb07
import Derived.Test.YtbcgokpamhgabaaKb09
import Derived.Test.YtbcgokpamhgabaaKb10
import Derived.Test.YtbcgokpamhgabaaKb11
namespace Go.Proofs.Ytbcgokpamhgabaa
set_option linter.unusedVariables false
set_option maxRecDepth 20000
open Go.RowKit Go.Sort

theorem atB_x {w h s : Nat} {x y : Int} (h1 : inB x 0 ((w : Int) - 1) = false) : atB w h s x y = false := by
  have : decide (0 ≤ x ∧ x ≤ (w : Int) - 1) = false := by rw [inB] at h1; rw [← h1]; simp
  simp [atB, this]
theorem atB_y {w h s : Nat} {x y : Int} (h1 : inB y 0 ((h : Int) - 1) = false) : atB w h s x y = false := by
  have : decide (0 ≤ y ∧ y ≤ (h : Int) - 1) = false := by rw [inB] at h1; rw [← h1]; simp
  simp [atB, this]
theorem atB_in {w h s : Nat} {x y : Nat} (h1 : inB (x : Int) 0 ((w : Int) - 1) = true) (h2 : inB (y : Int) 0 ((h : Int) - 1) = true) : atB w h s x y = s.testBit (y * w + x) := by
  rw [inB_iff] at h1 h2
  rw [atB, decide_eq_true h1, decide_eq_true h2, show ((y : Int) * w + x) = ((y * w + x : Nat) : Int) by simp, Int.toNat_natCast]
  rfl
theorem way_cases {way : Nat} (h : way < 4) : way = 0 ∨ way = 1 ∨ way = 2 ∨ way = 3 := by omega

theorem bit_of0 (s k : Nat) (hs : B63 s) : (bits .and .i64 ((s : Int) / 2 ^ k) 1 == 0) = !s.testBit k := by
  have e : ((s : Int) / 2 ^ k) = ((s / 2 ^ k : Nat) : Int) := by simp
  have hb : B63 (s / 2 ^ k) := b63_le (Nat.div_le_self _ _) hs
  rw [e, show (1 : Int) = ((1 : Nat) : Int) from rfl, i64_and _ _ hb (by unfold B63; omega)]
  rw [Nat.and_one_is_mod, Nat.testBit_eq_decide_div_mod_eq, Bool.eq_iff_iff]
  simp only [beq_iff_eq, Bool.not_eq_true', decide_eq_false_iff_not]
  omega
theorem atB_j {w h s : Nat} {X Y : Int} (hb : BdOk w h s) (h1 : inB X 0 ((w : Int) - 1) = true) (h2 : inB Y 0 ((h : Int) - 1) = true) :
    ∃ j : Nat, Y * w + X = j ∧ j < w * h ∧ 0 ≤ Y * w ∧ Y * w ≤ 48 ∧ atB w h s X Y = s.testBit j := by
  obtain ⟨x0, x1⟩ := inB_iff.1 h1
  obtain ⟨y0, y1⟩ := inB_iff.1 h2
  obtain ⟨x, rfl⟩ := Int.eq_ofNat_of_zero_le x0
  obtain ⟨y, rfl⟩ := Int.eq_ofNat_of_zero_le y0
  have hA := hb.area
  have w1 := hb.w1
  have hm : y * w + w ≤ w * h := by
    have : (y + 1) * w ≤ h * w := Nat.mul_le_mul_right w (by omega)
    rw [Nat.mul_comm w h]
    rwa [Nat.add_mul, Nat.one_mul] at this
  refine ⟨y * w + x, by simp, by omega, by rw [← Int.natCast_mul]; omega, by rw [← Int.natCast_mul]; omega, atB_in h1 h2⟩

theorem bes_at (w h s k way : Nat) {X Y : Int} (hX : ((k % w : Nat) : Int) + dx way = X) (hY : ((k / w : Nat) : Int) + dy way = Y) : bes w h s k way = if atB w h s X Y then Y * w + X else -1 := by
  rw [bes, hX, hY]

set_option maxHeartbeats 1000000 in
theorem l03Step_ (w h s k way : Nat) (hb : BdOk w h s) (hk : k < 49) (hw : way < 4) (W : World) :
    Calls Try.prog 152 #[.agg #[.int .i64 w, .int .i64 h, .int .i64 s], .int .i64 k, .int .i64 way] W fun e w' => e = .returned (.int .i64 (bes w h s k way)) ∧ Below W.heap.size W w' := by
  have w1 := hb.w1
  have w7 := hb.w7
  have h1 := hb.h1
  have h7 := hb.h7
  have s63 := hb.b63
  have f1 : (0 : Int) ≤ (k : Int) % w := Int.emod_nonneg _ (by omega)
  have f2 : (k : Int) % w < w := Int.emod_lt_of_pos _ (by omega)
  have f3 : (0 : Int) ≤ (k : Int) / w := Int.ediv_nonneg (by omega) (by omega)
  have f4 : (k : Int) / w ≤ 48 := by
    rw [← Int.natCast_ediv]
    have := Nat.div_le_self k w
    omega
  have z1 : ¬ ((w : Int) = 0) := by omega
  have z2 : ((w : Int) == 0) = false := by simp; omega
  have z3 : ¬ (w = 0) := by omega
  rcases way_cases hw with rfl | rfl | rfl | rfl
  · go_enter Try.func152, Try.ntmps152
    go_wp2_with fail
    go_region
    go_wp2_with fail
    go_region
    have HB := Lib.hid (bes_at w h s k 0 (X := ((k : Int) % w + 1)) (Y := ((k : Int) / w)) (by simp [dx]) (by simp [dy]))
    have x0 : -1 ≤ ((k : Int) % w + 1) := by omega
    have x1 : ((k : Int) % w + 1) ≤ 7 := by omega
    have y0 : -1 ≤ ((k : Int) / w) := by omega
    have y1 : ((k : Int) / w) ≤ 49 := by omega
    generalize ((k : Int) % w + 1) = X at HB x0 x1 ⊢
    generalize ((k : Int) / w) = Y at HB y0 y1 ⊢
    clear f1 f2 f3 f4
    rcases Bool.eq_false_or_eq_true (inB X 0 ((w : Int) - 1)) with i1 | i1
    · rcases Bool.eq_false_or_eq_true (inB Y 0 ((h : Int) - 1)) with i2 | i2
      · obtain ⟨j, hj, jl, p0, p1, ha⟩ := atB_j hb i1 i2
        have j49 : j < 49 := by have := hb.area; omega
        have HA := Lib.hid ha
        clear ha
        rcases Bool.eq_false_or_eq_true (s.testBit j) with ht | ht
        · have HR : Hid (bes w h s k 0 = j) := Lib.hid (by rw [HB.out, HA.out, ht, hj]; rfl)
          clear HB HA
          have hbit := (bit_of0 s j s63).trans (congrArg not ht)
          go_wp2_with (go_at_call 111; refine (l01In_ _ _ _ _).mono ?_; rintro e w' ⟨rfl, rfl⟩)
          go_ret
          exact ⟨ret_int HR.out.symm, (by repeat (first | exact Below.refl _ _ | refine Below.drew ?_ | refine Below.alloc ?_ (by simp; try omega) _))⟩
        · have HR : Hid (bes w h s k 0 = -1) := Lib.hid (by rw [HB.out, HA.out, ht]; rfl)
          clear HB HA
          have hbit := (bit_of0 s j s63).trans (congrArg not ht)
          go_wp2_with (go_at_call 111; refine (l01In_ _ _ _ _).mono ?_; rintro e w' ⟨rfl, rfl⟩)
          go_ret
          exact ⟨ret_int HR.out.symm, (by repeat (first | exact Below.refl _ _ | refine Below.drew ?_ | refine Below.alloc ?_ (by simp; try omega) _))⟩
      · have HR : Hid (bes w h s k 0 = -1) := Lib.hid (by rw [HB.out, atB_y i2]; rfl)
        clear HB
        go_wp2_with (go_at_call 111; refine (l01In_ _ _ _ _).mono ?_; rintro e w' ⟨rfl, rfl⟩)
        go_ret
        exact ⟨ret_int HR.out.symm, (by repeat (first | exact Below.refl _ _ | refine Below.drew ?_ | refine Below.alloc ?_ (by simp; try omega) _))⟩
    · have HR : Hid (bes w h s k 0 = -1) := Lib.hid (by rw [HB.out, atB_x i1]; rfl)
      clear HB
      go_wp2_with (go_at_call 111; refine (l01In_ _ _ _ _).mono ?_; rintro e w' ⟨rfl, rfl⟩)
      go_ret
      exact ⟨ret_int HR.out.symm, (by repeat (first | exact Below.refl _ _ | refine Below.drew ?_ | refine Below.alloc ?_ (by simp; try omega) _))⟩
  · go_enter Try.func152, Try.ntmps152
    go_wp2_with fail
    go_region
    go_wp2_with fail
    go_region
    have HB := Lib.hid (bes_at w h s k 1 (X := ((k : Int) % w)) (Y := ((k : Int) / w + 1)) (by simp [dx]) (by simp [dy]))
    have x0 : -1 ≤ ((k : Int) % w) := by omega
    have x1 : ((k : Int) % w) ≤ 7 := by omega
    have y0 : -1 ≤ ((k : Int) / w + 1) := by omega
    have y1 : ((k : Int) / w + 1) ≤ 49 := by omega
    generalize ((k : Int) % w) = X at HB x0 x1 ⊢
    generalize ((k : Int) / w + 1) = Y at HB y0 y1 ⊢
    clear f1 f2 f3 f4
    rcases Bool.eq_false_or_eq_true (inB X 0 ((w : Int) - 1)) with i1 | i1
    · rcases Bool.eq_false_or_eq_true (inB Y 0 ((h : Int) - 1)) with i2 | i2
      · obtain ⟨j, hj, jl, p0, p1, ha⟩ := atB_j hb i1 i2
        have j49 : j < 49 := by have := hb.area; omega
        have HA := Lib.hid ha
        clear ha
        rcases Bool.eq_false_or_eq_true (s.testBit j) with ht | ht
        · have HR : Hid (bes w h s k 1 = j) := Lib.hid (by rw [HB.out, HA.out, ht, hj]; rfl)
          clear HB HA
          have hbit := (bit_of0 s j s63).trans (congrArg not ht)
          go_wp2_with (go_at_call 111; refine (l01In_ _ _ _ _).mono ?_; rintro e w' ⟨rfl, rfl⟩)
          go_ret
          exact ⟨ret_int HR.out.symm, (by repeat (first | exact Below.refl _ _ | refine Below.drew ?_ | refine Below.alloc ?_ (by simp; try omega) _))⟩
        · have HR : Hid (bes w h s k 1 = -1) := Lib.hid (by rw [HB.out, HA.out, ht]; rfl)
          clear HB HA
          have hbit := (bit_of0 s j s63).trans (congrArg not ht)
          go_wp2_with (go_at_call 111; refine (l01In_ _ _ _ _).mono ?_; rintro e w' ⟨rfl, rfl⟩)
          go_ret
          exact ⟨ret_int HR.out.symm, (by repeat (first | exact Below.refl _ _ | refine Below.drew ?_ | refine Below.alloc ?_ (by simp; try omega) _))⟩
      · have HR : Hid (bes w h s k 1 = -1) := Lib.hid (by rw [HB.out, atB_y i2]; rfl)
        clear HB
        go_wp2_with (go_at_call 111; refine (l01In_ _ _ _ _).mono ?_; rintro e w' ⟨rfl, rfl⟩)
        go_ret
        exact ⟨ret_int HR.out.symm, (by repeat (first | exact Below.refl _ _ | refine Below.drew ?_ | refine Below.alloc ?_ (by simp; try omega) _))⟩
    · have HR : Hid (bes w h s k 1 = -1) := Lib.hid (by rw [HB.out, atB_x i1]; rfl)
      clear HB
      go_wp2_with (go_at_call 111; refine (l01In_ _ _ _ _).mono ?_; rintro e w' ⟨rfl, rfl⟩)
      go_ret
      exact ⟨ret_int HR.out.symm, (by repeat (first | exact Below.refl _ _ | refine Below.drew ?_ | refine Below.alloc ?_ (by simp; try omega) _))⟩
  · go_enter Try.func152, Try.ntmps152
    go_wp2_with fail
    go_region
    go_wp2_with fail
    go_region
    have HB := Lib.hid (bes_at w h s k 2 (X := ((k : Int) % w + -1)) (Y := ((k : Int) / w)) (by simp [dx]) (by simp [dy]))
    have x0 : -1 ≤ ((k : Int) % w + -1) := by omega
    have x1 : ((k : Int) % w + -1) ≤ 7 := by omega
    have y0 : -1 ≤ ((k : Int) / w) := by omega
    have y1 : ((k : Int) / w) ≤ 49 := by omega
    generalize ((k : Int) % w + -1) = X at HB x0 x1 ⊢
    generalize ((k : Int) / w) = Y at HB y0 y1 ⊢
    clear f1 f2 f3 f4
    rcases Bool.eq_false_or_eq_true (inB X 0 ((w : Int) - 1)) with i1 | i1
    · rcases Bool.eq_false_or_eq_true (inB Y 0 ((h : Int) - 1)) with i2 | i2
      · obtain ⟨j, hj, jl, p0, p1, ha⟩ := atB_j hb i1 i2
        have j49 : j < 49 := by have := hb.area; omega
        have HA := Lib.hid ha
        clear ha
        rcases Bool.eq_false_or_eq_true (s.testBit j) with ht | ht
        · have HR : Hid (bes w h s k 2 = j) := Lib.hid (by rw [HB.out, HA.out, ht, hj]; rfl)
          clear HB HA
          have hbit := (bit_of0 s j s63).trans (congrArg not ht)
          go_wp2_with (go_at_call 111; refine (l01In_ _ _ _ _).mono ?_; rintro e w' ⟨rfl, rfl⟩)
          go_ret
          exact ⟨ret_int HR.out.symm, (by repeat (first | exact Below.refl _ _ | refine Below.drew ?_ | refine Below.alloc ?_ (by simp; try omega) _))⟩
        · have HR : Hid (bes w h s k 2 = -1) := Lib.hid (by rw [HB.out, HA.out, ht]; rfl)
          clear HB HA
          have hbit := (bit_of0 s j s63).trans (congrArg not ht)
          go_wp2_with (go_at_call 111; refine (l01In_ _ _ _ _).mono ?_; rintro e w' ⟨rfl, rfl⟩)
          go_ret
          exact ⟨ret_int HR.out.symm, (by repeat (first | exact Below.refl _ _ | refine Below.drew ?_ | refine Below.alloc ?_ (by simp; try omega) _))⟩
      · have HR : Hid (bes w h s k 2 = -1) := Lib.hid (by rw [HB.out, atB_y i2]; rfl)
        clear HB
        go_wp2_with (go_at_call 111; refine (l01In_ _ _ _ _).mono ?_; rintro e w' ⟨rfl, rfl⟩)
        go_ret
        exact ⟨ret_int HR.out.symm, (by repeat (first | exact Below.refl _ _ | refine Below.drew ?_ | refine Below.alloc ?_ (by simp; try omega) _))⟩
    · have HR : Hid (bes w h s k 2 = -1) := Lib.hid (by rw [HB.out, atB_x i1]; rfl)
      clear HB
      go_wp2_with (go_at_call 111; refine (l01In_ _ _ _ _).mono ?_; rintro e w' ⟨rfl, rfl⟩)
      go_ret
      exact ⟨ret_int HR.out.symm, (by repeat (first | exact Below.refl _ _ | refine Below.drew ?_ | refine Below.alloc ?_ (by simp; try omega) _))⟩
  · go_enter Try.func152, Try.ntmps152
    go_wp2_with fail
    go_region
    go_wp2_with fail
    go_region
    have HB := Lib.hid (bes_at w h s k 3 (X := ((k : Int) % w)) (Y := ((k : Int) / w + -1)) (by simp [dx]) (by simp [dy]))
    have x0 : -1 ≤ ((k : Int) % w) := by omega
    have x1 : ((k : Int) % w) ≤ 7 := by omega
    have y0 : -1 ≤ ((k : Int) / w + -1) := by omega
    have y1 : ((k : Int) / w + -1) ≤ 49 := by omega
    generalize ((k : Int) % w) = X at HB x0 x1 ⊢
    generalize ((k : Int) / w + -1) = Y at HB y0 y1 ⊢
    clear f1 f2 f3 f4
    rcases Bool.eq_false_or_eq_true (inB X 0 ((w : Int) - 1)) with i1 | i1
    · rcases Bool.eq_false_or_eq_true (inB Y 0 ((h : Int) - 1)) with i2 | i2
      · obtain ⟨j, hj, jl, p0, p1, ha⟩ := atB_j hb i1 i2
        have j49 : j < 49 := by have := hb.area; omega
        have HA := Lib.hid ha
        clear ha
        rcases Bool.eq_false_or_eq_true (s.testBit j) with ht | ht
        · have HR : Hid (bes w h s k 3 = j) := Lib.hid (by rw [HB.out, HA.out, ht, hj]; rfl)
          clear HB HA
          have hbit := (bit_of0 s j s63).trans (congrArg not ht)
          go_wp2_with (go_at_call 111; refine (l01In_ _ _ _ _).mono ?_; rintro e w' ⟨rfl, rfl⟩)
          go_ret
          exact ⟨ret_int HR.out.symm, (by repeat (first | exact Below.refl _ _ | refine Below.drew ?_ | refine Below.alloc ?_ (by simp; try omega) _))⟩
        · have HR : Hid (bes w h s k 3 = -1) := Lib.hid (by rw [HB.out, HA.out, ht]; rfl)
          clear HB HA
          have hbit := (bit_of0 s j s63).trans (congrArg not ht)
          go_wp2_with (go_at_call 111; refine (l01In_ _ _ _ _).mono ?_; rintro e w' ⟨rfl, rfl⟩)
          go_ret
          exact ⟨ret_int HR.out.symm, (by repeat (first | exact Below.refl _ _ | refine Below.drew ?_ | refine Below.alloc ?_ (by simp; try omega) _))⟩
      · have HR : Hid (bes w h s k 3 = -1) := Lib.hid (by rw [HB.out, atB_y i2]; rfl)
        clear HB
        go_wp2_with (go_at_call 111; refine (l01In_ _ _ _ _).mono ?_; rintro e w' ⟨rfl, rfl⟩)
        go_ret
        exact ⟨ret_int HR.out.symm, (by repeat (first | exact Below.refl _ _ | refine Below.drew ?_ | refine Below.alloc ?_ (by simp; try omega) _))⟩
    · have HR : Hid (bes w h s k 3 = -1) := Lib.hid (by rw [HB.out, atB_x i1]; rfl)
      clear HB
      go_wp2_with (go_at_call 111; refine (l01In_ _ _ _ _).mono ?_; rintro e w' ⟨rfl, rfl⟩)
      go_ret
      exact ⟨ret_int HR.out.symm, (by repeat (first | exact Below.refl _ _ | refine Below.drew ?_ | refine Below.alloc ?_ (by simp; try omega) _))⟩
set_option maxHeartbeats 1000000 in
theorem iHasHole_ (b : Ln) (k : Int) (hk : I64 k) (W : World) :
    Calls Try.prog 150 #[.agg #[.int .i64 b.f, .int .i64 b.o, .int .i64 b.t], .int .i64 k] W fun e w' => e = .returned (.bool (holeB b k)) ∧ Below W.heap.size W w' := by
  rcases Bool.eq_false_or_eq_true (boardB b) with hB | hB
  · obtain ⟨w, h, s, rfl, hb⟩ := boardB_nat hB
    have s63 := hb.b63
    have hA := hb.area
    obtain ⟨m1, m2, m3⟩ := area_bounds hb.w1 hb.w7 hb.h1 hb.h7
    rcases Bool.eq_false_or_eq_true (inB k 0 ((w : Int) * h - 1)) with i1 | i1
    · obtain ⟨j, rfl⟩ := Int.eq_ofNat_of_zero_le (inB_iff.1 i1).1
      have jl : j < w * h := by have := (inB_iff.1 i1).2; rw [← Int.natCast_mul] at this; omega
      have H := Lib.hid (show s.testBit j = holeB ⟨w, h, s⟩ j by rw [holeB_nat hb, decide_eq_true jl, Bool.true_and])
      go_enter Try.func150, Try.ntmps150
      go_wp2_with (first | (go_at_call 103; refine (is_ (iBoardOk_ _ _) hB).mono ?_; rintro e w1 ⟨rfl, hb1⟩; obtain ⟨hc, hf⟩ := bcell hb1; have hz0 : W.heap.size < w1.heap.size := (by have := hb1.size; (try simp at this); omega); have hw1 : Below W.heap.size W w1 := below_step ((Below.refl _ _).alloc (Nat.le_refl _) _) hb1 (by (try simp))) | (go_at_call 120; refine (within_ _ _ _ _).mono ?_; rintro e w' ⟨rfl, rfl⟩) | (go_at_call 98; refine (hasBit_ s j s63 (by omega) _).mono ?_; rintro e w' ⟨rfl, rfl⟩))
      go_ret
      exact ⟨ret_bool H.out, hw1⟩
    · have H := Lib.hid (show holeB ⟨w, h, s⟩ k = false by
        rw [holeB, decide_eq_false (fun hh : 0 ≤ k ∧ k < (w : Int) * h => by rw [inB_iff.2 ⟨hh.1, by omega⟩] at i1; cases i1)]; simp)
      go_enter Try.func150, Try.ntmps150
      go_wp2_with (first | (go_at_call 103; refine (is_ (iBoardOk_ _ _) hB).mono ?_; rintro e w1 ⟨rfl, hb1⟩; obtain ⟨hc, hf⟩ := bcell hb1; have hz0 : W.heap.size < w1.heap.size := (by have := hb1.size; (try simp at this); omega); have hw1 : Below W.heap.size W w1 := below_step ((Below.refl _ _).alloc (Nat.le_refl _) _) hb1 (by (try simp))) | (go_at_call 120; refine (within_ _ _ _ _).mono ?_; rintro e w' ⟨rfl, rfl⟩))
      go_ret
      exact ⟨ret_bool H.out.symm, hw1⟩
  · have H := Lib.hid (holeB_no (k := k) hB)
    go_enter Try.func150, Try.ntmps150
    go_wp2_with ((go_at_call 103; refine (is_ (iBoardOk_ _ _) hB).mono ?_; rintro e w1 ⟨rfl, hb1⟩; obtain ⟨hc, hf⟩ := bcell hb1; have hz0 : W.heap.size < w1.heap.size := (by have := hb1.size; (try simp at this); omega); have hw1 : Below W.heap.size W w1 := below_step ((Below.refl _ _).alloc (Nat.le_refl _) _) hb1 (by (try simp))))
    go_ret
    exact ⟨ret_bool H.out.symm, hw1⟩
theorem besI_yes {w h s k way : Nat} (hB : holeB ⟨w, h, s⟩ (k : Int) = true) : besI ⟨w, h, s⟩ (k : Int) way = bes w h s k way := by
  rw [besI, if_pos hB]; simp
theorem besI_no {b : Ln} {k : Int} {way : Nat} (hB : holeB b k = false) : besI b k way = -1 := by rw [besI, hB]; rfl
set_option maxHeartbeats 1000000 in
theorem beside_ (b : Ln) (K : Int) (way : Nat) (hK : I64 K) (hw : way < 4) (W : World) :
    Calls Try.prog 121 #[.agg #[.int .i64 b.f, .int .i64 b.o, .int .i64 b.t], .int .i64 K, .int .i64 way] W fun e w' => e = .returned (.int .i64 (besI b K way)) ∧ Below W.heap.size W w' := by
  rcases Bool.eq_false_or_eq_true (holeB b K) with hB | hB
  · obtain ⟨w, h, s, k, rfl, rfl, hb, hq, hs⟩ := holeB_open hB
    rw [besI_yes hB]
    have hA := hb.area
    have w1 := hb.w1
    have w7 := hb.w7
    have h1 := hb.h1
    have h7 := hb.h7
    have s63 := hb.b63
    have f1 : (0 : Int) ≤ (k : Int) % w := Int.emod_nonneg _ (by omega)
    have f2 : (k : Int) % w < w := Int.emod_lt_of_pos _ (by omega)
    have f3 : (0 : Int) ≤ (k : Int) / w := Int.ediv_nonneg (by omega) (by omega)
    have f4 : (k : Int) / w ≤ 48 := by
      rw [← Int.natCast_ediv]
      have := Nat.div_le_self k w
      omega
    have z1 : ¬ ((w : Int) = 0) := by omega
    have z2 : ((w : Int) == 0) = false := by simp; omega
    have z3 : ¬ (w = 0) := by omega
    rcases way_cases hw with rfl | rfl | rfl | rfl
    · go_enter Try.func121, Try.ntmps121
      go_wp2_with ((go_at_call 150; refine (is_ (iHasHole_ _ _ hK _) hB).mono ?_; rintro e w1 ⟨rfl, hb1⟩; obtain ⟨hc, hf⟩ := bcell hb1; have hz0 : W.heap.size < w1.heap.size := (by have := hb1.size; (try simp at this); omega); have hw1 : Below W.heap.size W w1 := below_step ((Below.refl _ _).alloc (Nat.le_refl _) _) hb1 (by (try simp))))
      go_region
      go_wp2_with fail
      go_region
      have HB := Lib.hid (bes_at w h s k 0 (X := ((k : Int) % w + 1)) (Y := ((k : Int) / w)) (by simp [dx]) (by simp [dy]))
      have x0 : -1 ≤ ((k : Int) % w + 1) := by omega
      have x1 : ((k : Int) % w + 1) ≤ 7 := by omega
      have y0 : -1 ≤ ((k : Int) / w) := by omega
      have y1 : ((k : Int) / w) ≤ 49 := by omega
      generalize ((k : Int) % w + 1) = X at HB x0 x1 ⊢
      generalize ((k : Int) / w) = Y at HB y0 y1 ⊢
      clear f1 f2 f3 f4
      rcases Bool.eq_false_or_eq_true (inB X 0 ((w : Int) - 1)) with i1 | i1
      · rcases Bool.eq_false_or_eq_true (inB Y 0 ((h : Int) - 1)) with i2 | i2
        · obtain ⟨j, hj, jl, p0, p1, ha⟩ := atB_j hb i1 i2
          have j49 : j < 49 := by have := hb.area; omega
          have HA := Lib.hid ha
          clear ha
          rcases Bool.eq_false_or_eq_true (s.testBit j) with ht | ht
          · have HR : Hid (bes w h s k 0 = j) := Lib.hid (by rw [HB.out, HA.out, ht, hj]; rfl)
            clear HB HA
            have hj49 := j49
            go_wp2_with (first | (go_at_call 120; refine (within_ _ _ _ _).mono ?_; rintro e w' ⟨rfl, rfl⟩) | (go_at_call 98; refine (hasBit_ s j s63 (by omega) _).mono ?_; rintro e w' ⟨rfl, rfl⟩))
            go_ret
            exact ⟨ret_int HR.out.symm, (by repeat (first | exact hw1 | refine Below.drew ?_ | refine Below.alloc ?_ (by have := hw1.size; simp; try omega) _))⟩
          · have HR : Hid (bes w h s k 0 = -1) := Lib.hid (by rw [HB.out, HA.out, ht]; rfl)
            clear HB HA
            have hj49 := j49
            go_wp2_with (first | (go_at_call 120; refine (within_ _ _ _ _).mono ?_; rintro e w' ⟨rfl, rfl⟩) | (go_at_call 98; refine (hasBit_ s j s63 (by omega) _).mono ?_; rintro e w' ⟨rfl, rfl⟩))
            go_ret
            exact ⟨ret_int HR.out.symm, (by repeat (first | exact hw1 | refine Below.drew ?_ | refine Below.alloc ?_ (by have := hw1.size; simp; try omega) _))⟩
        · have HR : Hid (bes w h s k 0 = -1) := Lib.hid (by rw [HB.out, atB_y i2]; rfl)
          clear HB
          go_wp2_with (first | (go_at_call 120; refine (within_ _ _ _ _).mono ?_; rintro e w' ⟨rfl, rfl⟩) | (go_at_call 98; refine (hasBit_ s j s63 (by omega) _).mono ?_; rintro e w' ⟨rfl, rfl⟩))
          go_ret
          exact ⟨ret_int HR.out.symm, (by repeat (first | exact hw1 | refine Below.drew ?_ | refine Below.alloc ?_ (by have := hw1.size; simp; try omega) _))⟩
      · have HR : Hid (bes w h s k 0 = -1) := Lib.hid (by rw [HB.out, atB_x i1]; rfl)
        clear HB
        go_wp2_with (first | (go_at_call 120; refine (within_ _ _ _ _).mono ?_; rintro e w' ⟨rfl, rfl⟩) | (go_at_call 98; refine (hasBit_ s j s63 (by omega) _).mono ?_; rintro e w' ⟨rfl, rfl⟩))
        go_ret
        exact ⟨ret_int HR.out.symm, (by repeat (first | exact hw1 | refine Below.drew ?_ | refine Below.alloc ?_ (by have := hw1.size; simp; try omega) _))⟩
    · go_enter Try.func121, Try.ntmps121
      go_wp2_with ((go_at_call 150; refine (is_ (iHasHole_ _ _ hK _) hB).mono ?_; rintro e w1 ⟨rfl, hb1⟩; obtain ⟨hc, hf⟩ := bcell hb1; have hz0 : W.heap.size < w1.heap.size := (by have := hb1.size; (try simp at this); omega); have hw1 : Below W.heap.size W w1 := below_step ((Below.refl _ _).alloc (Nat.le_refl _) _) hb1 (by (try simp))))
      go_region
      go_wp2_with fail
      go_region
      have HB := Lib.hid (bes_at w h s k 1 (X := ((k : Int) % w)) (Y := ((k : Int) / w + 1)) (by simp [dx]) (by simp [dy]))
      have x0 : -1 ≤ ((k : Int) % w) := by omega
      have x1 : ((k : Int) % w) ≤ 7 := by omega
      have y0 : -1 ≤ ((k : Int) / w + 1) := by omega
      have y1 : ((k : Int) / w + 1) ≤ 49 := by omega
      generalize ((k : Int) % w) = X at HB x0 x1 ⊢
      generalize ((k : Int) / w + 1) = Y at HB y0 y1 ⊢
      clear f1 f2 f3 f4
      rcases Bool.eq_false_or_eq_true (inB X 0 ((w : Int) - 1)) with i1 | i1
      · rcases Bool.eq_false_or_eq_true (inB Y 0 ((h : Int) - 1)) with i2 | i2
        · obtain ⟨j, hj, jl, p0, p1, ha⟩ := atB_j hb i1 i2
          have j49 : j < 49 := by have := hb.area; omega
          have HA := Lib.hid ha
          clear ha
          rcases Bool.eq_false_or_eq_true (s.testBit j) with ht | ht
          · have HR : Hid (bes w h s k 1 = j) := Lib.hid (by rw [HB.out, HA.out, ht, hj]; rfl)
            clear HB HA
            have hj49 := j49
            go_wp2_with (first | (go_at_call 120; refine (within_ _ _ _ _).mono ?_; rintro e w' ⟨rfl, rfl⟩) | (go_at_call 98; refine (hasBit_ s j s63 (by omega) _).mono ?_; rintro e w' ⟨rfl, rfl⟩))
            go_ret
            exact ⟨ret_int HR.out.symm, (by repeat (first | exact hw1 | refine Below.drew ?_ | refine Below.alloc ?_ (by have := hw1.size; simp; try omega) _))⟩
          · have HR : Hid (bes w h s k 1 = -1) := Lib.hid (by rw [HB.out, HA.out, ht]; rfl)
            clear HB HA
            have hj49 := j49
            go_wp2_with (first | (go_at_call 120; refine (within_ _ _ _ _).mono ?_; rintro e w' ⟨rfl, rfl⟩) | (go_at_call 98; refine (hasBit_ s j s63 (by omega) _).mono ?_; rintro e w' ⟨rfl, rfl⟩))
            go_ret
            exact ⟨ret_int HR.out.symm, (by repeat (first | exact hw1 | refine Below.drew ?_ | refine Below.alloc ?_ (by have := hw1.size; simp; try omega) _))⟩
        · have HR : Hid (bes w h s k 1 = -1) := Lib.hid (by rw [HB.out, atB_y i2]; rfl)
          clear HB
          go_wp2_with (first | (go_at_call 120; refine (within_ _ _ _ _).mono ?_; rintro e w' ⟨rfl, rfl⟩) | (go_at_call 98; refine (hasBit_ s j s63 (by omega) _).mono ?_; rintro e w' ⟨rfl, rfl⟩))
          go_ret
          exact ⟨ret_int HR.out.symm, (by repeat (first | exact hw1 | refine Below.drew ?_ | refine Below.alloc ?_ (by have := hw1.size; simp; try omega) _))⟩
      · have HR : Hid (bes w h s k 1 = -1) := Lib.hid (by rw [HB.out, atB_x i1]; rfl)
        clear HB
        go_wp2_with (first | (go_at_call 120; refine (within_ _ _ _ _).mono ?_; rintro e w' ⟨rfl, rfl⟩) | (go_at_call 98; refine (hasBit_ s j s63 (by omega) _).mono ?_; rintro e w' ⟨rfl, rfl⟩))
        go_ret
        exact ⟨ret_int HR.out.symm, (by repeat (first | exact hw1 | refine Below.drew ?_ | refine Below.alloc ?_ (by have := hw1.size; simp; try omega) _))⟩
    · go_enter Try.func121, Try.ntmps121
      go_wp2_with ((go_at_call 150; refine (is_ (iHasHole_ _ _ hK _) hB).mono ?_; rintro e w1 ⟨rfl, hb1⟩; obtain ⟨hc, hf⟩ := bcell hb1; have hz0 : W.heap.size < w1.heap.size := (by have := hb1.size; (try simp at this); omega); have hw1 : Below W.heap.size W w1 := below_step ((Below.refl _ _).alloc (Nat.le_refl _) _) hb1 (by (try simp))))
      go_region
      go_wp2_with fail
      go_region
      have HB := Lib.hid (bes_at w h s k 2 (X := ((k : Int) % w + -1)) (Y := ((k : Int) / w)) (by simp [dx]) (by simp [dy]))
      have x0 : -1 ≤ ((k : Int) % w + -1) := by omega
      have x1 : ((k : Int) % w + -1) ≤ 7 := by omega
      have y0 : -1 ≤ ((k : Int) / w) := by omega
      have y1 : ((k : Int) / w) ≤ 49 := by omega
      generalize ((k : Int) % w + -1) = X at HB x0 x1 ⊢
      generalize ((k : Int) / w) = Y at HB y0 y1 ⊢
      clear f1 f2 f3 f4
      rcases Bool.eq_false_or_eq_true (inB X 0 ((w : Int) - 1)) with i1 | i1
      · rcases Bool.eq_false_or_eq_true (inB Y 0 ((h : Int) - 1)) with i2 | i2
        · obtain ⟨j, hj, jl, p0, p1, ha⟩ := atB_j hb i1 i2
          have j49 : j < 49 := by have := hb.area; omega
          have HA := Lib.hid ha
          clear ha
          rcases Bool.eq_false_or_eq_true (s.testBit j) with ht | ht
          · have HR : Hid (bes w h s k 2 = j) := Lib.hid (by rw [HB.out, HA.out, ht, hj]; rfl)
            clear HB HA
            have hj49 := j49
            go_wp2_with (first | (go_at_call 120; refine (within_ _ _ _ _).mono ?_; rintro e w' ⟨rfl, rfl⟩) | (go_at_call 98; refine (hasBit_ s j s63 (by omega) _).mono ?_; rintro e w' ⟨rfl, rfl⟩))
            go_ret
            exact ⟨ret_int HR.out.symm, (by repeat (first | exact hw1 | refine Below.drew ?_ | refine Below.alloc ?_ (by have := hw1.size; simp; try omega) _))⟩
          · have HR : Hid (bes w h s k 2 = -1) := Lib.hid (by rw [HB.out, HA.out, ht]; rfl)
            clear HB HA
            have hj49 := j49
            go_wp2_with (first | (go_at_call 120; refine (within_ _ _ _ _).mono ?_; rintro e w' ⟨rfl, rfl⟩) | (go_at_call 98; refine (hasBit_ s j s63 (by omega) _).mono ?_; rintro e w' ⟨rfl, rfl⟩))
            go_ret
            exact ⟨ret_int HR.out.symm, (by repeat (first | exact hw1 | refine Below.drew ?_ | refine Below.alloc ?_ (by have := hw1.size; simp; try omega) _))⟩
        · have HR : Hid (bes w h s k 2 = -1) := Lib.hid (by rw [HB.out, atB_y i2]; rfl)
          clear HB
          go_wp2_with (first | (go_at_call 120; refine (within_ _ _ _ _).mono ?_; rintro e w' ⟨rfl, rfl⟩) | (go_at_call 98; refine (hasBit_ s j s63 (by omega) _).mono ?_; rintro e w' ⟨rfl, rfl⟩))
          go_ret
          exact ⟨ret_int HR.out.symm, (by repeat (first | exact hw1 | refine Below.drew ?_ | refine Below.alloc ?_ (by have := hw1.size; simp; try omega) _))⟩
      · have HR : Hid (bes w h s k 2 = -1) := Lib.hid (by rw [HB.out, atB_x i1]; rfl)
        clear HB
        go_wp2_with (first | (go_at_call 120; refine (within_ _ _ _ _).mono ?_; rintro e w' ⟨rfl, rfl⟩) | (go_at_call 98; refine (hasBit_ s j s63 (by omega) _).mono ?_; rintro e w' ⟨rfl, rfl⟩))
        go_ret
        exact ⟨ret_int HR.out.symm, (by repeat (first | exact hw1 | refine Below.drew ?_ | refine Below.alloc ?_ (by have := hw1.size; simp; try omega) _))⟩
    · go_enter Try.func121, Try.ntmps121
      go_wp2_with ((go_at_call 150; refine (is_ (iHasHole_ _ _ hK _) hB).mono ?_; rintro e w1 ⟨rfl, hb1⟩; obtain ⟨hc, hf⟩ := bcell hb1; have hz0 : W.heap.size < w1.heap.size := (by have := hb1.size; (try simp at this); omega); have hw1 : Below W.heap.size W w1 := below_step ((Below.refl _ _).alloc (Nat.le_refl _) _) hb1 (by (try simp))))
      go_region
      go_wp2_with fail
      go_region
      have HB := Lib.hid (bes_at w h s k 3 (X := ((k : Int) % w)) (Y := ((k : Int) / w + -1)) (by simp [dx]) (by simp [dy]))
      have x0 : -1 ≤ ((k : Int) % w) := by omega
      have x1 : ((k : Int) % w) ≤ 7 := by omega
      have y0 : -1 ≤ ((k : Int) / w + -1) := by omega
      have y1 : ((k : Int) / w + -1) ≤ 49 := by omega
      generalize ((k : Int) % w) = X at HB x0 x1 ⊢
      generalize ((k : Int) / w + -1) = Y at HB y0 y1 ⊢
      clear f1 f2 f3 f4
      rcases Bool.eq_false_or_eq_true (inB X 0 ((w : Int) - 1)) with i1 | i1
      · rcases Bool.eq_false_or_eq_true (inB Y 0 ((h : Int) - 1)) with i2 | i2
        · obtain ⟨j, hj, jl, p0, p1, ha⟩ := atB_j hb i1 i2
          have j49 : j < 49 := by have := hb.area; omega
          have HA := Lib.hid ha
          clear ha
          rcases Bool.eq_false_or_eq_true (s.testBit j) with ht | ht
          · have HR : Hid (bes w h s k 3 = j) := Lib.hid (by rw [HB.out, HA.out, ht, hj]; rfl)
            clear HB HA
            have hj49 := j49
            go_wp2_with (first | (go_at_call 120; refine (within_ _ _ _ _).mono ?_; rintro e w' ⟨rfl, rfl⟩) | (go_at_call 98; refine (hasBit_ s j s63 (by omega) _).mono ?_; rintro e w' ⟨rfl, rfl⟩))
            go_ret
            exact ⟨ret_int HR.out.symm, (by repeat (first | exact hw1 | refine Below.drew ?_ | refine Below.alloc ?_ (by have := hw1.size; simp; try omega) _))⟩
          · have HR : Hid (bes w h s k 3 = -1) := Lib.hid (by rw [HB.out, HA.out, ht]; rfl)
            clear HB HA
            have hj49 := j49
            go_wp2_with (first | (go_at_call 120; refine (within_ _ _ _ _).mono ?_; rintro e w' ⟨rfl, rfl⟩) | (go_at_call 98; refine (hasBit_ s j s63 (by omega) _).mono ?_; rintro e w' ⟨rfl, rfl⟩))
            go_ret
            exact ⟨ret_int HR.out.symm, (by repeat (first | exact hw1 | refine Below.drew ?_ | refine Below.alloc ?_ (by have := hw1.size; simp; try omega) _))⟩
        · have HR : Hid (bes w h s k 3 = -1) := Lib.hid (by rw [HB.out, atB_y i2]; rfl)
          clear HB
          go_wp2_with (first | (go_at_call 120; refine (within_ _ _ _ _).mono ?_; rintro e w' ⟨rfl, rfl⟩) | (go_at_call 98; refine (hasBit_ s j s63 (by omega) _).mono ?_; rintro e w' ⟨rfl, rfl⟩))
          go_ret
          exact ⟨ret_int HR.out.symm, (by repeat (first | exact hw1 | refine Below.drew ?_ | refine Below.alloc ?_ (by have := hw1.size; simp; try omega) _))⟩
      · have HR : Hid (bes w h s k 3 = -1) := Lib.hid (by rw [HB.out, atB_x i1]; rfl)
        clear HB
        go_wp2_with (first | (go_at_call 120; refine (within_ _ _ _ _).mono ?_; rintro e w' ⟨rfl, rfl⟩) | (go_at_call 98; refine (hasBit_ s j s63 (by omega) _).mono ?_; rintro e w' ⟨rfl, rfl⟩))
        go_ret
        exact ⟨ret_int HR.out.symm, (by repeat (first | exact hw1 | refine Below.drew ?_ | refine Below.alloc ?_ (by have := hw1.size; simp; try omega) _))⟩
  · have H := Lib.hid (besI_no (way := way) hB)
    go_enter Try.func121, Try.ntmps121
    go_wp2_with ((go_at_call 150; refine (is_ (iHasHole_ _ _ hK _) hB).mono ?_; rintro e w1 ⟨rfl, hb1⟩; obtain ⟨hc, hf⟩ := bcell hb1; have hz0 : W.heap.size < w1.heap.size := (by have := hb1.size; (try simp at this); omega); have hw1 : Below W.heap.size W w1 := below_step ((Below.refl _ _).alloc (Nat.le_refl _) _) hb1 (by (try simp))))
    go_ret
    exact ⟨ret_int H.out.symm, hw1⟩
end Go.Proofs.Ytbcgokpamhgabaa

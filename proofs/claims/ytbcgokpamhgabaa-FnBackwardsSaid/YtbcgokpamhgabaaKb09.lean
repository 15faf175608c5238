/- The contracts of the functions on quarter turns and mirrors. -/
import Derived.Test.YtbcgokpamhgabaaChecked
import Derived.Test.YtbcgokpamhgabaaKb01
import Derived.Tactics
import Derived.Tactics2
import Derived.WalkKit
import Derived.WalkSpells
import Derived.WalkLawsBesides
import Derived.Deep.QuietTactic
import Derived.BigQuiet
import Derived.BigGuardPart
import Derived.Lib.QuietBelow
import Derived.OwnWalk
import Derived.KernelRfl
import Derived.Test.YtbcgokpamhgabaaKb07
import Derived.Test.YtbcgokpamhgabaaKb08
import Derived.Deep.RegionHeld3
import Derived.Deep.DrawnRows
namespace Go.Proofs.Ytbcgokpamhgabaa
set_option linter.unusedVariables false
set_option maxRecDepth 20000
open Go.RowKit Go.Sort

theorem sPositionOk_ (b : Ln) (p : Int) (hp : I64 p) (w : World) :
    Calls Try.prog 107 #[.agg #[.int .i64 b.f, .int .i64 b.o, .int .i64 b.t], .int .i64 p] w fun e w' => e = .returned (.bool (posB b p)) ∧ Below w.heap.size w w' := by
  rcases Bool.eq_false_or_eq_true (boardB b) with hB | hB
  · obtain ⟨f, o, t, rfl, hb⟩ := boardB_nat hB
    have h63 := hb.b63
    rcases Bool.eq_false_or_eq_true (decide (0 ≤ p)) with h0 | h0
    · obtain ⟨q, rfl⟩ := Int.eq_ofNat_of_zero_le (show 0 ≤ p by simpa using h0)
      have hq : B63 q := by have := hp.2; unfold B63; omega
      have H := Lib.hid (show (((q &&& t : Nat) : Int) == (q : Int)) = posB ⟨f, o, t⟩ q by simp only [posB, hB]; rw [Bool.eq_iff_iff]; simp; omega)
      have hand := i64_and q t hq h63
      go_enter Try.func107, Try.ntmps107
      go_wp2_with (go_at_call 139; refine (is_ (sBoardOk_ _ _) hB).mono ?_; rintro e w' ⟨rfl, hb⟩; obtain ⟨hc, hf⟩ := bcell hb; have hz0 : w.heap.size < w'.heap.size := (by have := hb.size; (try simp at this); omega); have hw : Below w.heap.size w w' := below_step ((Below.refl _ _).alloc (Nat.le_refl _) _) hb (by (try simp)))
      go_ret
      exact ⟨ret_bool H.out, by assumption⟩
    · have H := Lib.hid (show posB ⟨f, o, t⟩ p = false by simp only [posB, h0]; simp)
      go_enter Try.func107, Try.ntmps107
      go_wp2_with (go_at_call 139; refine (is_ (sBoardOk_ _ _) hB).mono ?_; rintro e w' ⟨rfl, hb⟩; obtain ⟨hc, hf⟩ := bcell hb; have hz0 : w.heap.size < w'.heap.size := (by have := hb.size; (try simp at this); omega); have hw : Below w.heap.size w w' := below_step ((Below.refl _ _).alloc (Nat.le_refl _) _) hb (by (try simp)))
      go_ret
      exact ⟨ret_bool H.out.symm, by assumption⟩
  · have H := Lib.hid (posB_no (p := p) hB)
    go_enter Try.func107, Try.ntmps107
    go_wp2_with (go_at_call 139; refine (is_ (sBoardOk_ _ _) hB).mono ?_; rintro e w' ⟨rfl, hb⟩; obtain ⟨hc, hf⟩ := bcell hb; have hz0 : w.heap.size < w'.heap.size := (by have := hb.size; (try simp at this); omega); have hw : Below w.heap.size w w' := below_step ((Below.refl _ _).alloc (Nat.le_refl _) _) hb (by (try simp)))
    go_ret
    exact ⟨ret_bool H.out.symm, by assumption⟩
theorem iPositionOk_ (b : Ln) (p : Int) (hp : I64 p) (w : World) :
    Calls Try.prog 106 #[.agg #[.int .i64 b.f, .int .i64 b.o, .int .i64 b.t], .int .i64 p] w fun e w' => e = .returned (.bool (posB b p)) ∧ Below w.heap.size w w' := by
  rcases Bool.eq_false_or_eq_true (boardB b) with hB | hB
  · obtain ⟨f, o, t, rfl, hb⟩ := boardB_nat hB
    have h63 := hb.b63
    rcases Bool.eq_false_or_eq_true (decide (0 ≤ p)) with h0 | h0
    · obtain ⟨q, rfl⟩ := Int.eq_ofNat_of_zero_le (show 0 ≤ p by simpa using h0)
      have hq : B63 q := by have := hp.2; unfold B63; omega
      have H := Lib.hid (show (((adiff q t : Nat) : Int) == 0) = posB ⟨f, o, t⟩ q by simp only [posB, hB]; rw [Bool.eq_iff_iff]; simp [and_eq_iff])
      have hand := i64_andNot q t hq h63
      go_enter Try.func106, Try.ntmps106
      go_wp2_with (go_at_call 103; refine (is_ (iBoardOk_ _ _) hB).mono ?_; rintro e w' ⟨rfl, hb⟩; obtain ⟨hc, hf⟩ := bcell hb; have hz0 : w.heap.size < w'.heap.size := (by have := hb.size; (try simp at this); omega); have hw : Below w.heap.size w w' := below_step ((Below.refl _ _).alloc (Nat.le_refl _) _) hb (by (try simp)))
      go_ret
      exact ⟨ret_bool H.out, by assumption⟩
    · have H := Lib.hid (show posB ⟨f, o, t⟩ p = false by simp only [posB, h0]; simp)
      go_enter Try.func106, Try.ntmps106
      go_wp2_with (go_at_call 103; refine (is_ (iBoardOk_ _ _) hB).mono ?_; rintro e w' ⟨rfl, hb⟩; obtain ⟨hc, hf⟩ := bcell hb; have hz0 : w.heap.size < w'.heap.size := (by have := hb.size; (try simp at this); omega); have hw : Below w.heap.size w w' := below_step ((Below.refl _ _).alloc (Nat.le_refl _) _) hb (by (try simp)))
      go_ret
      exact ⟨ret_bool H.out.symm, by assumption⟩
  · have H := Lib.hid (posB_no (p := p) hB)
    go_enter Try.func106, Try.ntmps106
    go_wp2_with (go_at_call 103; refine (is_ (iBoardOk_ _ _) hB).mono ?_; rintro e w' ⟨rfl, hb⟩; obtain ⟨hc, hf⟩ := bcell hb; have hz0 : w.heap.size < w'.heap.size := (by have := hb.size; (try simp at this); omega); have hw : Below w.heap.size w w' := below_step ((Below.refl _ _).alloc (Nat.le_refl _) _) hb (by (try simp)))
    go_ret
    exact ⟨ret_bool H.out.symm, by assumption⟩
theorem mirrorSet_ (f o t s : Nat) (hb : BdOk f o t) (hs : B63 s) (w : World) :
    Calls Try.prog 105 #[.agg #[.int .i64 f, .int .i64 o, .int .i64 t], .int .i64 s] w fun e w' => e = .returned (.int .i64 (mirS ⟨f, o, t⟩ s)) ∧ Below w.heap.size w w' := by
  obtain ⟨hm1, hm2, hm3⟩ := area_bounds hb.w1 hb.w7 hb.h1 hb.h7
  have f1 := hb.w1
  have f7 := hb.w7
  have o1 := hb.h1
  have o7 := hb.h7
  have HS := Lib.hid (mirS_nat f o t s)
  go_enter Try.func105, Try.ntmps105
  go_wp2
  go_loopw [5, 6, 7, 8] (fun r i x y wr => ∃ k : Nat, k ≤ f * o ∧ i = .int .i64 k ∧ r = .int .i64 (moved (mirAt f) s k : Nat) ∧
      wr.cell? ⟨w.heap.size, 0, none⟩ = some (.int .i64 f) ∧ wr.cell? ⟨w.heap.size, 1, none⟩ = some (.int .i64 o) ∧ Below w.heap.size w wr) (fun _ i _ _ _ => f * o - (intOf i).toNat)
  case atStart => exact ⟨0, by omega, rfl, rfl, by simp [go_sem], by simp [go_sem], (Below.refl _ _).alloc (Nat.le_refl _) _⟩
  case round =>
    obtain ⟨k, hk, rfl, rfl, c0, c1, hw⟩ := hrel
    by_cases hlt : k < f * o
    · have hlt' : (k : Int) < (f : Int) * o := by rw [← Int.natCast_mul]; omega
      rcases Bool.eq_false_or_eq_true (s.testBit k) with ht | ht
      · have mv := moves f1 o1 hm3 hlt
        obtain ⟨d0, d1, r0, r1, m0, m1, t0, t1, t2, hmir, hturn, hmlt, htlt⟩ := mv
        have hR : B63 (moved (mirAt f) s k) := b63_moved fun j hj _ => by have := (moves f1 o1 hm3 (show j < f * o by omega)).mirlt; omega
        have hpow := i64_pow (mirAt f k) (by omega)
        have hor := i64_or (moved (mirAt f) s k) (pow2 (mirAt f k)) hR (b63_pow2 (by omega))
        clear hR hmlt htlt
        go_wp2_with (go_at_call 98; refine (is_ (hasBit_ s k hs (by omega) _) ht).mono ?_; rintro e w' ⟨rfl, rfl⟩)
        go_quiet (fail)
        go_wp2
        go_roundw
        case rel => exact ⟨k + 1, by omega, by go_num, by rw [moved_yes ht], by simpa using c0, by simpa using c1, below_drewN hw _⟩
        case measure => simp [intOf]; omega
      · go_wp2_with (go_at_call 98; refine (is_ (hasBit_ s k hs (by omega) _) ht).mono ?_; rintro e w' ⟨rfl, rfl⟩)
        go_roundw
        case rel => exact ⟨k + 1, by omega, by go_num, by rw [moved_no ht], c0, c1, hw⟩
        case measure => simp [intOf]; omega
    · have hge : (f : Int) * o ≤ (k : Int) := by rw [← Int.natCast_mul]; omega
      go_wp2
      go_ret
      have e : k = f * o := by omega
      subst e
      exact ⟨ret_int (by rw [HS.out]), hw⟩
theorem turnSet_ (f o t s : Nat) (hb : BdOk f o t) (hs : B63 s) (w : World) :
    Calls Try.prog 104 #[.agg #[.int .i64 f, .int .i64 o, .int .i64 t], .int .i64 s] w fun e w' => e = .returned (.int .i64 (turnS ⟨f, o, t⟩ s)) ∧ Below w.heap.size w w' := by
  obtain ⟨hm1, hm2, hm3⟩ := area_bounds hb.w1 hb.w7 hb.h1 hb.h7
  have f1 := hb.w1
  have f7 := hb.w7
  have o1 := hb.h1
  have o7 := hb.h7
  have HS := Lib.hid (turnS_nat f o t s)
  go_enter Try.func104, Try.ntmps104
  go_wp2
  go_loopw [5, 6, 7, 8] (fun r i x y wr => ∃ k : Nat, k ≤ f * o ∧ i = .int .i64 k ∧ r = .int .i64 (moved (turnAt f o) s k : Nat) ∧
      wr.cell? ⟨w.heap.size, 0, none⟩ = some (.int .i64 f) ∧ wr.cell? ⟨w.heap.size, 1, none⟩ = some (.int .i64 o) ∧ Below w.heap.size w wr) (fun _ i _ _ _ => f * o - (intOf i).toNat)
  case atStart => exact ⟨0, by omega, rfl, rfl, by simp [go_sem], by simp [go_sem], (Below.refl _ _).alloc (Nat.le_refl _) _⟩
  case round =>
    obtain ⟨k, hk, rfl, rfl, c0, c1, hw⟩ := hrel
    by_cases hlt : k < f * o
    · have hlt' : (k : Int) < (f : Int) * o := by rw [← Int.natCast_mul]; omega
      rcases Bool.eq_false_or_eq_true (s.testBit k) with ht | ht
      · have mv := moves f1 o1 hm3 hlt
        obtain ⟨d0, d1, r0, r1, m0, m1, t0, t1, t2, hmir, hturn, hmlt, htlt⟩ := mv
        have hR : B63 (moved (turnAt f o) s k) := b63_moved fun j hj _ => by have := (moves f1 o1 hm3 (show j < f * o by omega)).turnlt; omega
        have hpow := i64_pow (turnAt f o k) (by omega)
        have hor := i64_or (moved (turnAt f o) s k) (pow2 (turnAt f o k)) hR (b63_pow2 (by omega))
        clear hR hmlt htlt
        go_wp2_with (go_at_call 98; refine (is_ (hasBit_ s k hs (by omega) _) ht).mono ?_; rintro e w' ⟨rfl, rfl⟩)
        go_quiet (fail)
        go_wp2
        go_roundw
        case rel => exact ⟨k + 1, by omega, by go_num, by rw [moved_yes ht], by simpa using c0, by simpa using c1, below_drewN hw _⟩
        case measure => simp [intOf]; omega
      · go_wp2_with (go_at_call 98; refine (is_ (hasBit_ s k hs (by omega) _) ht).mono ?_; rintro e w' ⟨rfl, rfl⟩)
        go_roundw
        case rel => exact ⟨k + 1, by omega, by go_num, by rw [moved_no ht], c0, c1, hw⟩
        case measure => simp [intOf]; omega
    · have hge : (f : Int) * o ≤ (k : Int) := by rw [← Int.natCast_mul]; omega
      go_wp2
      go_ret
      have e : k = f * o := by omega
      subst e
      exact ⟨ret_int (by rw [HS.out]), hw⟩
theorem l02List_ (s : Nat) (hs : B63 s) (w : World) :
    Calls Try.prog 108 #[.int .i64 s] w (GivesSlice w 3 1 (bitsOf s 49).length (ints (natL (bitsOf s 49)))) := by
  obtain ⟨i0, hi, hz0, hz1, hz2⟩ := info_parts infoInt
  go_enter Try.func108, Try.ntmps108
  go_wp2
  go_loopw [3, 4] (fun v i wr => ∃ (k : Nat) (A : Option Addr) (c : Nat), k ≤ 49 ∧ i = .int .i64 k ∧ v = .slice A (bitsOf s k).length c ∧ wr.ownsRow w.heap.size 3 1 (.slice A (bitsOf s k).length c) (bitsOf s k).length (ints (natL (bitsOf s k))) ∧ Below w.heap.size w wr) (fun _ i _ => 49 - (intOf i).toNat)
  case atStart => exact ⟨0, _, _, by omega, rfl, rfl, World.ownsRow_lit w #[] 0 (Nat.le_refl _) (by simp [maxLen]) rfl, (Below.refl _ _).alloc (Nat.le_refl _) _⟩
  case round =>
    obtain ⟨k, A, c, hk, rfl, rfl, hown, hb⟩ := hrel
    have hle := bits_le s k
    by_cases hlt : k < 49
    · rcases Bool.eq_false_or_eq_true (s.testBit k) with ht | ht
      · have hbit := (bit_of s k hs).trans ht
        have HY := Lib.hid (bits_yes ht)
        clear ht
        go_wp2_with (first
          | (at_builtin; refine wpList_append_own _ rfl (.tmp 15) (.tmp 17) 69 rfl w.heap.size 3 i0 (.int .i64 0) 1 8 Try.underlying69 hi hz0 hz1 hz2 rfl (by decide) _ _ _ rfl (hown.alloc _) ⟨wr.heap.size, 0, none⟩ 1 1 [.int .i64 k] rfl rfl (cell_one_new _ _ _) (by intro u hu; simp at hu; subst hu; rfl) (by unfold maxLen; omega) (by omega) (by have := hb.size; simp; omega) ?_; intro v' w1 hown' hgrow hnil))
        have hw1 : Below w.heap.size w w1 := ((hb.alloc hb.size _).grown hgrow (by have := hb.size; simp; omega) (fun g hg => (hown.lt g hg).1))
        have hv : ∃ A' c', v' = .slice A' ((bitsOf s k).length + 1) c' := by
          obtain ⟨g, cap, hv, _⟩ := hown'.form (by omega)
          exact ⟨_, _, hv⟩
        clear hown hgrow hnil
        obtain ⟨A', c', rfl⟩ := hv
        go_roundw
        case rel => exact ⟨k + 1, A', c', by omega, by go_num, by rw [HY.out]; simp, by rw [HY.out]; simpa [ints, natL] using hown', hw1⟩
        case measure => simp [intOf]; omega
      · have hbit := (bit_of s k hs).trans ht
        have HY := Lib.hid (bits_no ht)
        clear ht
        go_wp2
        go_roundw
        case rel => exact ⟨k + 1, A, c, by omega, by go_num, by rw [HY.out], by rw [HY.out]; exact hown, hb⟩
        case measure => simp [intOf]; omega
    · go_wp2
      go_ret
      have e : k = 49 := by omega
      subst e
      exact ⟨_, _, rfl, hown, hb⟩
theorem iMirrorPosition_ (b : Ln) (p : Int) (hp : I64 p) (w : World) :
    Calls Try.prog 33 #[.agg #[.int .i64 b.f, .int .i64 b.o, .int .i64 b.t], .int .i64 p] w fun e w' => e = .returned (.int .i64 (mirPos b p)) ∧ Below w.heap.size w w' := by
  rcases Bool.eq_false_or_eq_true (posB b p) with hB | hB
  · have H := Lib.hid (show mirPos b p = mirS b p.toNat by simp [mirPos, hB])
    obtain ⟨f, o, t, q, rfl, rfl, hb, hq⟩ := posB_open hB
    have hlt : q < 2 ^ (f * o) := Nat.lt_of_le_of_lt (sub_le hq) hb.s2
    have h63 : B63 q := b63_le (sub_le hq) hb.b63
    have HQ := Lib.hid hq
    clear hq
    go_enter Try.func33, Try.ntmps33
    go_wp2_with (first
      | (go_at_call 106; refine (is_ (iPositionOk_ _ _ hp _) hB).mono ?_; rintro e w' ⟨rfl, hb1⟩; obtain ⟨hc, hf⟩ := bcell hb1; have hz0 : w.heap.size < w'.heap.size := (by have := hb1.size; (try simp at this); omega); have hw : Below w.heap.size w w' := below_step ((Below.refl _ _).alloc (Nat.le_refl _) _) hb1 (by (try simp)))
      | (go_at_call 105; refine (mirrorSet_ f o t q hb h63 _).mono ?_; rintro e w2 ⟨rfl, hb2⟩))
    go_ret
    exact ⟨ret_int (by rw [H.out]; simp), below_next hw hb2⟩
  · have H := Lib.hid (show mirPos b p = -1 by simp [mirPos, hB])
    go_enter Try.func33, Try.ntmps33
    go_wp2_with (first
      | (go_at_call 106; refine (is_ (iPositionOk_ _ _ hp _) hB).mono ?_; rintro e w' ⟨rfl, hb1⟩; obtain ⟨hc, hf⟩ := bcell hb1; have hz0 : w.heap.size < w'.heap.size := (by have := hb1.size; (try simp at this); omega); have hw : Below w.heap.size w w' := below_step ((Below.refl _ _).alloc (Nat.le_refl _) _) hb1 (by (try simp))))
    go_ret
    exact ⟨ret_int H.out.symm, hw⟩
theorem iTurnPosition_ (b : Ln) (p : Int) (hp : I64 p) (w : World) :
    Calls Try.prog 32 #[.agg #[.int .i64 b.f, .int .i64 b.o, .int .i64 b.t], .int .i64 p] w fun e w' => e = .returned (.int .i64 (turnPos b p)) ∧ Below w.heap.size w w' := by
  rcases Bool.eq_false_or_eq_true (posB b p) with hB | hB
  · have H := Lib.hid (show turnPos b p = turnS b p.toNat by simp [turnPos, hB])
    obtain ⟨f, o, t, q, rfl, rfl, hb, hq⟩ := posB_open hB
    have hlt : q < 2 ^ (f * o) := Nat.lt_of_le_of_lt (sub_le hq) hb.s2
    have h63 : B63 q := b63_le (sub_le hq) hb.b63
    have HQ := Lib.hid hq
    clear hq
    go_enter Try.func32, Try.ntmps32
    go_wp2_with (first
      | (go_at_call 106; refine (is_ (iPositionOk_ _ _ hp _) hB).mono ?_; rintro e w' ⟨rfl, hb1⟩; obtain ⟨hc, hf⟩ := bcell hb1; have hz0 : w.heap.size < w'.heap.size := (by have := hb1.size; (try simp at this); omega); have hw : Below w.heap.size w w' := below_step ((Below.refl _ _).alloc (Nat.le_refl _) _) hb1 (by (try simp)))
      | (go_at_call 104; refine (turnSet_ f o t q hb h63 _).mono ?_; rintro e w2 ⟨rfl, hb2⟩))
    go_ret
    exact ⟨ret_int (by rw [H.out]; simp), below_next hw hb2⟩
  · have H := Lib.hid (show turnPos b p = -1 by simp [turnPos, hB])
    go_enter Try.func32, Try.ntmps32
    go_wp2_with (first
      | (go_at_call 106; refine (is_ (iPositionOk_ _ _ hp _) hB).mono ?_; rintro e w' ⟨rfl, hb1⟩; obtain ⟨hc, hf⟩ := bcell hb1; have hz0 : w.heap.size < w'.heap.size := (by have := hb1.size; (try simp at this); omega); have hw : Below w.heap.size w w' := below_step ((Below.refl _ _).alloc (Nat.le_refl _) _) hb1 (by (try simp))))
    go_ret
    exact ⟨ret_int H.out.symm, hw⟩
end Go.Proofs.Ytbcgokpamhgabaa

/- The contracts of the functions on quarter turns and mirrors. -/
import Derived.Test.YtliljgmpdfdakaaChecked
import Derived.Test.YtliljgmpdfdakaaMem
import Derived.Tactics
import Derived.Tactics2
import Derived.WalkKit
import Derived.WalkSpells
import Derived.WalkLawsBesides
import Derived.Deep.QuietTactic
import Derived.BigQuiet
import Derived.BigGuardPart
import Derived.Lib.QuietBelow
import Derived.OwnWalk
import Derived.KernelRfl
import Derived.Test.YtliljgmpdfdakaaBoard
import Derived.Test.YtliljgmpdfdakaaSymP
import Derived.Deep.RegionHeld3
import Derived.Deep.DrawnRows
set_option linter.unusedVariables false
set_option maxRecDepth 20000
namespace Go.Proofs.Ytliljgmpdfdakaa
open Go.RowKit Go.Sort

theorem sPositionOk_ (b : Ln) (p : Int) (hp : I64 p) (w : World) :
    Calls Try.prog 42 #[.agg #[.int .i64 b.f, .int .i64 b.o, .int .i64 b.t], .int .i64 p] w fun e w' => e = .returned (.bool (posB b p)) ∧ Below w.heap.size w w' := by
  rcases Bool.eq_false_or_eq_true (boardB b) with hB | hB
  · obtain ⟨f, o, t, rfl, hb⟩ := boardB_nat hB
    have h63 := hb.b63
    rcases Bool.eq_false_or_eq_true (decide (0 ≤ p)) with h0 | h0
    · obtain ⟨q, rfl⟩ := Int.eq_ofNat_of_zero_le (show 0 ≤ p by simpa using h0)
      have hq : B63 q := by have := hp.2; unfold B63; omega
      have H := Lib.hid (show (((q &&& t : Nat) : Int) == (q : Int)) = posB ⟨f, o, t⟩ q by simp only [posB, hB]; rw [Bool.eq_iff_iff]; simp; omega)
      have hand := i64_and q t hq h63
      go_enter Try.func42, Try.ntmps42
      go_wp2_with (go_at_call 71; refine (is_ (sBoardOk_ _ _) hB).mono ?_; rintro e w' ⟨rfl, hb⟩; obtain ⟨hc, hf⟩ := bcell hb; have hz0 : w.heap.size < w'.heap.size := (by have := hb.size; (try simp at this); omega); have hw : Below w.heap.size w w' := below_step ((Below.refl _ _).alloc (Nat.le_refl _) _) hb (by (try simp)))
      go_ret
      exact ⟨ret_bool H.out, by assumption⟩
    · have H := Lib.hid (show posB ⟨f, o, t⟩ p = false by simp only [posB, h0]; simp)
      go_enter Try.func42, Try.ntmps42
      go_wp2_with (go_at_call 71; refine (is_ (sBoardOk_ _ _) hB).mono ?_; rintro e w' ⟨rfl, hb⟩; obtain ⟨hc, hf⟩ := bcell hb; have hz0 : w.heap.size < w'.heap.size := (by have := hb.size; (try simp at this); omega); have hw : Below w.heap.size w w' := below_step ((Below.refl _ _).alloc (Nat.le_refl _) _) hb (by (try simp)))
      go_ret
      exact ⟨ret_bool H.out.symm, by assumption⟩
  · have H := Lib.hid (posB_no (p := p) hB)
    go_enter Try.func42, Try.ntmps42
    go_wp2_with (go_at_call 71; refine (is_ (sBoardOk_ _ _) hB).mono ?_; rintro e w' ⟨rfl, hb⟩; obtain ⟨hc, hf⟩ := bcell hb; have hz0 : w.heap.size < w'.heap.size := (by have := hb.size; (try simp at this); omega); have hw : Below w.heap.size w w' := below_step ((Below.refl _ _).alloc (Nat.le_refl _) _) hb (by (try simp)))
    go_ret
    exact ⟨ret_bool H.out.symm, by assumption⟩
theorem iPositionOk_ (b : Ln) (p : Int) (hp : I64 p) (w : World) :
    Calls Try.prog 45 #[.agg #[.int .i64 b.f, .int .i64 b.o, .int .i64 b.t], .int .i64 p] w fun e w' => e = .returned (.bool (posB b p)) ∧ Below w.heap.size w w' := by
  rcases Bool.eq_false_or_eq_true (boardB b) with hB | hB
  · obtain ⟨f, o, t, rfl, hb⟩ := boardB_nat hB
    have h63 := hb.b63
    rcases Bool.eq_false_or_eq_true (decide (0 ≤ p)) with h0 | h0
    · obtain ⟨q, rfl⟩ := Int.eq_ofNat_of_zero_le (show 0 ≤ p by simpa using h0)
      have hq : B63 q := by have := hp.2; unfold B63; omega
      have H := Lib.hid (show (((adiff q t : Nat) : Int) == 0) = posB ⟨f, o, t⟩ q by simp only [posB, hB]; rw [Bool.eq_iff_iff]; simp [and_eq_iff])
      have hand := i64_andNot q t hq h63
      go_enter Try.func45, Try.ntmps45
      go_wp2_with (go_at_call 75; refine (is_ (iBoardOk_ _ _) hB).mono ?_; rintro e w' ⟨rfl, hb⟩; obtain ⟨hc, hf⟩ := bcell hb; have hz0 : w.heap.size < w'.heap.size := (by have := hb.size; (try simp at this); omega); have hw : Below w.heap.size w w' := below_step ((Below.refl _ _).alloc (Nat.le_refl _) _) hb (by (try simp)))
      go_ret
      exact ⟨ret_bool H.out, by assumption⟩
    · have H := Lib.hid (show posB ⟨f, o, t⟩ p = false by simp only [posB, h0]; simp)
      go_enter Try.func45, Try.ntmps45
      go_wp2_with (go_at_call 75; refine (is_ (iBoardOk_ _ _) hB).mono ?_; rintro e w' ⟨rfl, hb⟩; obtain ⟨hc, hf⟩ := bcell hb; have hz0 : w.heap.size < w'.heap.size := (by have := hb.size; (try simp at this); omega); have hw : Below w.heap.size w w' := below_step ((Below.refl _ _).alloc (Nat.le_refl _) _) hb (by (try simp)))
      go_ret
      exact ⟨ret_bool H.out.symm, by assumption⟩
  · have H := Lib.hid (posB_no (p := p) hB)
    go_enter Try.func45, Try.ntmps45
    go_wp2_with (go_at_call 75; refine (is_ (iBoardOk_ _ _) hB).mono ?_; rintro e w' ⟨rfl, hb⟩; obtain ⟨hc, hf⟩ := bcell hb; have hz0 : w.heap.size < w'.heap.size := (by have := hb.size; (try simp at this); omega); have hw : Below w.heap.size w w' := below_step ((Below.refl _ _).alloc (Nat.le_refl _) _) hb (by (try simp)))
    go_ret
    exact ⟨ret_bool H.out.symm, by assumption⟩
theorem l02List_ (s : Nat) (hs : B63 s) (w : World) :
    Calls Try.prog 86 #[.int .i64 s] w (GivesSlice w 3 1 (bitsOf s 49).length (ints (natL (bitsOf s 49)))) := by
  obtain ⟨i0, hi, hz0, hz1, hz2⟩ := info_parts infoInt
  go_enter Try.func86, Try.ntmps86
  go_wp2
  go_loopw [3, 4] (fun v i wr => ∃ (k : Nat) (A : Option Addr) (c : Nat), k ≤ 49 ∧ i = .int .i64 k ∧ v = .slice A (bitsOf s k).length c ∧ wr.ownsRow w.heap.size 3 1 (.slice A (bitsOf s k).length c) (bitsOf s k).length (ints (natL (bitsOf s k))) ∧ Below w.heap.size w wr) (fun _ i _ => 49 - (intOf i).toNat)
  case atStart => exact ⟨0, _, _, by omega, rfl, rfl, World.ownsRow_lit w #[] 0 (Nat.le_refl _) (by simp [maxLen]) rfl, (Below.refl _ _).alloc (Nat.le_refl _) _⟩
  case round =>
    obtain ⟨k, A, c, hk, rfl, rfl, hown, hb⟩ := hrel
    have hle := bits_le s k
    by_cases hlt : k < 49
    · rcases Bool.eq_false_or_eq_true (s.testBit k) with ht | ht
      · have hbit := (bit_of s k hs).trans ht
        have HY := Lib.hid (bits_yes ht)
        clear ht
        go_wp2_with (first
          | (at_builtin; refine wpList_append_own _ rfl (.tmp 15) (.tmp 17) 59 rfl w.heap.size 3 i0 (.int .i64 0) 1 8 Try.underlying59 hi hz0 hz1 hz2 rfl (by decide) _ _ _ rfl (hown.alloc _) ⟨wr.heap.size, 0, none⟩ 1 1 [.int .i64 k] rfl rfl (cell_one_new _ _ _) (by intro u hu; simp at hu; subst hu; rfl) (by unfold maxLen; omega) (by omega) (by have := hb.size; simp; omega) ?_; intro v' w1 hown' hgrow hnil))
        have hw1 : Below w.heap.size w w1 := ((hb.alloc hb.size _).grown hgrow (by have := hb.size; simp; omega) (fun g hg => (hown.lt g hg).1))
        have hv : ∃ A' c', v' = .slice A' ((bitsOf s k).length + 1) c' := by
          obtain ⟨g, cap, hv, _⟩ := hown'.form (by omega)
          exact ⟨_, _, hv⟩
        clear hown hgrow hnil
        obtain ⟨A', c', rfl⟩ := hv
        go_roundw
        case rel => exact ⟨k + 1, A', c', by omega, by go_num, by rw [HY.out]; simp, by rw [HY.out]; simpa [ints, natL] using hown', hw1⟩
        case measure => simp [intOf]; omega
      · have hbit := (bit_of s k hs).trans ht
        have HY := Lib.hid (bits_no ht)
        clear ht
        go_wp2
        go_roundw
        case rel => exact ⟨k + 1, A, c, by omega, by go_num, by rw [HY.out], by rw [HY.out]; exact hown, hb⟩
        case measure => simp [intOf]; omega
    · go_wp2
      go_ret
      have e : k = 49 := by omega
      subst e
      exact ⟨_, _, rfl, hown, hb⟩
end Go.Proofs.Ytliljgmpdfdakaa

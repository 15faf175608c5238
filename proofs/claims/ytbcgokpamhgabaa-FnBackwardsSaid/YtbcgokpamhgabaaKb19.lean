/- The contracts of IsSmall, CountHoles, CountStuck. -/
import Derived.Test.YtbcgokpamhgabaaChecked
import Derived.Test.YtbcgokpamhgabaaKb01
import Derived.Tactics
import Derived.Tactics2
import Derived.WalkKit
import Derived.WalkSpells
import Derived.WalkLawsBesides
import Derived.Deep.QuietTactic
import Derived.BigQuiet
import Derived.BigGuardPart
import Derived.Lib.QuietBelow
import Derived.OwnWalk
import Derived.KernelRfl
import Derived.Test.YtbcgokpamhgabaaKb17
import Derived.Test.YtbcgokpamhgabaaKb18
namespace Go.Proofs.Ytbcgokpamhgabaa
set_option linter.unusedVariables false
set_option maxRecDepth 20000
open Go.RowKit Go.Sort

theorem smallB_nat {b : Ln} (h : smallB b = true) : ∃ w h s : Nat, b = ⟨w, h, s⟩ ∧ BdOk w h s ∧ w * h ≤ 16 ∧ s < 65536 := by
  simp only [smallB, Bool.and_eq_true, decide_eq_true_eq] at h
  obtain ⟨h1, h2⟩ := h
  obtain ⟨w, h, s, rfl, hb⟩ := boardB_nat h1
  have h3 : w * h ≤ 16 := by
    have : (w : Int) * h ≤ 16 := h2
    rw [← Int.natCast_mul] at this
    omega
  exact ⟨w, h, s, rfl, hb, h3, Nat.lt_of_lt_of_le hb.s2 (show 2 ^ (w * h) ≤ 2 ^ 16 from Nat.pow_le_pow_right (by omega) h3)⟩
theorem smallB_no {b : Ln} (h : boardB b = false) : smallB b = false := by simp [smallB, h]
theorem iIsSmall_ (b : Ln) (W : World) :
    Calls Try.prog 130 #[.agg #[.int .i64 b.f, .int .i64 b.o, .int .i64 b.t]] W fun e w' => e = .returned (.bool (smallB b)) ∧ Below W.heap.size W w' := by
  rcases Bool.eq_false_or_eq_true (boardB b) with hB | hB
  · obtain ⟨w, h, s, rfl, hb⟩ := boardB_nat hB
    obtain ⟨m1, m2, m3⟩ := area_bounds hb.w1 hb.w7 hb.h1 hb.h7
    have H := Lib.hid (show decide ((w : Int) * h ≤ 16) = smallB ⟨w, h, s⟩ by simp only [smallB, hB, Bool.true_and])
    go_enter Try.func130, Try.ntmps130
    go_wp2_with (first | (go_at_call 103; refine (is_ (iBoardOk_ _ _) hB).mono ?_; rintro e w1 ⟨rfl, hb1⟩; obtain ⟨hc, hf⟩ := bcell hb1; have hz0 : W.heap.size < w1.heap.size := (by have := hb1.size; (try simp at this); omega); have hw1 : Below W.heap.size W w1 := below_step ((Below.refl _ _).alloc (Nat.le_refl _) _) hb1 (by (try simp))))
    go_ret
    exact ⟨ret_bool H.out, hw1⟩
  · have H := Lib.hid (smallB_no hB)
    go_enter Try.func130, Try.ntmps130
    go_wp2_with (first | (go_at_call 103; refine (is_ (iBoardOk_ _ _) hB).mono ?_; rintro e w1 ⟨rfl, hb1⟩; obtain ⟨hc, hf⟩ := bcell hb1; have hz0 : W.heap.size < w1.heap.size := (by have := hb1.size; (try simp at this); omega); have hw1 : Below W.heap.size W w1 := below_step ((Below.refl _ _).alloc (Nat.le_refl _) _) hb1 (by (try simp))))
    go_ret
    exact ⟨ret_bool H.out.symm, hw1⟩
theorem sIsSmall_ (b : Ln) (W : World) :
    Calls Try.prog 75 #[.agg #[.int .i64 b.f, .int .i64 b.o, .int .i64 b.t]] W fun e w' => e = .returned (.bool (smallB b)) ∧ Below W.heap.size W w' := by
  rcases Bool.eq_false_or_eq_true (boardB b) with hB | hB
  · obtain ⟨w, h, s, rfl, hb⟩ := boardB_nat hB
    obtain ⟨m1, m2, m3⟩ := area_bounds hb.w1 hb.w7 hb.h1 hb.h7
    have H := Lib.hid (show decide ((w : Int) * h ≤ 16) = smallB ⟨w, h, s⟩ by simp only [smallB, hB, Bool.true_and])
    go_enter Try.func75, Try.ntmps75
    go_wp2_with (first | (go_at_call 139; refine (is_ (sBoardOk_ _ _) hB).mono ?_; rintro e w1 ⟨rfl, hb1⟩; obtain ⟨hc, hf⟩ := bcell hb1; have hz0 : W.heap.size < w1.heap.size := (by have := hb1.size; (try simp at this); omega); have hw1 : Below W.heap.size W w1 := below_step ((Below.refl _ _).alloc (Nat.le_refl _) _) hb1 (by (try simp))))
    go_ret
    exact ⟨ret_bool H.out, hw1⟩
  · have H := Lib.hid (smallB_no hB)
    go_enter Try.func75, Try.ntmps75
    go_wp2_with (first | (go_at_call 139; refine (is_ (sBoardOk_ _ _) hB).mono ?_; rintro e w1 ⟨rfl, hb1⟩; obtain ⟨hc, hf⟩ := bcell hb1; have hz0 : W.heap.size < w1.heap.size := (by have := hb1.size; (try simp at this); omega); have hw1 : Below W.heap.size W w1 := below_step ((Below.refl _ _).alloc (Nat.le_refl _) _) hb1 (by (try simp))))
    go_ret
    exact ⟨ret_bool H.out.symm, hw1⟩
theorem iCountHoles_ (w h s : Nat) (hb : BdOk w h s) (hs : s < 65536) (W : World) :
    Calls Try.prog 131 #[.agg #[.int .i64 w, .int .i64 h, .int .i64 s]] W fun e w' => e = .returned (.int .i64 (popc s : Nat)) ∧ Below W.heap.size W w' := by
  have hB := boardB_of hb
  have hcv := u64_in s (by omega)
  go_enter Try.func131, Try.ntmps131
  go_wp2_with (first | (go_at_call 103; refine (is_ (iBoardOk_ _ _) hB).mono ?_; rintro e w1 ⟨rfl, hb1⟩; obtain ⟨hc, hf⟩ := bcell hb1; have hz0 : W.heap.size < w1.heap.size := (by have := hb1.size; (try simp at this); omega); have hw1 : Below W.heap.size W w1 := below_step ((Below.refl _ _).alloc (Nat.le_refl _) _) hb1 (by (try simp))) | (go_at_call 157; refine (onesCount_ s hs _).mono ?_; rintro e w' ⟨rfl, rfl⟩))
  go_ret
  exact ⟨rfl, hw1⟩
theorem sCountHoles_ (w h s : Nat) (hb : BdOk w h s) (W : World) :
    Calls Try.prog 46 #[.agg #[.int .i64 w, .int .i64 h, .int .i64 s]] W fun e w' => e = .returned (.int .i64 (popc s : Nat)) ∧ Below W.heap.size W w' := by
  have H := Lib.hid (show (holesL ⟨w, h, s⟩).length = popc s by rw [holesL_yes hb, popc, bits_49 hb])
  go_enter Try.func46, Try.ntmps46
  go_wp2_with fail
  refine (sHolesOf_ ⟨w, h, s⟩ _).mono ?_
  rintro e w1 ⟨A, c, rfl, rd, hb1⟩
  rw [H.out]
  have hw1 : Below W.heap.size W w1 := below_step ((Below.refl _ _).alloc (Nat.le_refl _) _) hb1 (by (try simp))
  go_wp2
  go_ret
  exact ⟨rfl, hw1⟩
def okS (ls : List Ln) (s p : Nat) : Bool := decide (p &&& s = p) && stuckL ls p
def cntS (ls : List Ln) (s n : Nat) : Nat := ((List.range n).filter (okS ls s)).length
theorem cnt_yes {ls : List Ln} {s n : Nat} (h : okS ls s n = true) : cntS ls s (n + 1) = cntS ls s n + 1 := by simp [cntS, List.range_succ, h]
theorem cnt_no {ls : List Ln} {s n : Nat} (h : okS ls s n = false) : cntS ls s (n + 1) = cntS ls s n := by simp [cntS, List.range_succ, h]
theorem cnt_le (ls : List Ln) (s n : Nat) : cntS ls s n ≤ n := by
  have := List.length_filter_le (okS ls s) (List.range n)
  simpa [cntS] using this
def countStuckF (b : Ln) : Int := if smallB b && decide (popc b.t.toNat ≤ 12) then (cntS (linesL b) b.t.toNat (b.t.toNat + 1) : Nat) else -1
theorem ad_zero (p s : Nat) : (((adiff p s : Nat) : Int) == 0) = decide (p &&& s = p) := by
  rw [Bool.eq_iff_iff]; simp [and_eq_iff]
theorem and_self' (p s : Nat) : (((p &&& s : Nat) : Int) == (p : Int)) = decide (p &&& s = p) := by
  rw [Bool.eq_iff_iff]; simp; omega
set_option maxHeartbeats 1000000 in
theorem iCountStuck_ (b : Ln) (W : World) :
    Calls Try.prog 66 #[.agg #[.int .i64 b.f, .int .i64 b.o, .int .i64 b.t]] W fun e w' => e = .returned (.int .i64 (countStuckF b)) ∧ Below W.heap.size W w' := by
  rcases Bool.eq_false_or_eq_true (smallB b) with hS | hS
  · obtain ⟨w, h, s, rfl, hb, h16, s16⟩ := smallB_nat hS
    go_enter Try.func66, Try.ntmps66
    go_wp2_with fail
    refine (is_ (iIsSmall_ ⟨w, h, s⟩ _) hS).mono ?_
    rintro e w1 ⟨rfl, hb1⟩
    obtain ⟨hc, hf⟩ := bcell hb1
    have hz0 : W.heap.size < w1.heap.size := by have := hb1.size; (try simp at this); omega
    have hw1 : Below W.heap.size W w1 := below_step ((Below.refl _ _).alloc (Nat.le_refl _) _) hb1 (by (try simp))
    have b0 : w1.cell? ⟨W.heap.size, 0, none⟩ = some (.int .i64 w) := by rw [hc _ _ (by simp)]; simp [go_sem]
    have b1 : w1.cell? ⟨W.heap.size, 1, none⟩ = some (.int .i64 h) := by rw [hc _ _ (by simp)]; simp [go_sem]
    have b2 : w1.cell? ⟨W.heap.size, 2, none⟩ = some (.int .i64 s) := by rw [hc _ _ (by simp)]; simp [go_sem]
    clear hc hf hb1
    go_wp2_with fail
    refine (iCountHoles_ w h s hb s16 _).mono ?_
    rintro e w2 ⟨rfl, hb2⟩
    have d0 := (hb2.cell (p := ⟨W.heap.size, 0, none⟩) hz0).trans b0
    have d1 := (hb2.cell (p := ⟨W.heap.size, 1, none⟩) hz0).trans b1
    have d2 := (hb2.cell (p := ⟨W.heap.size, 2, none⟩) hz0).trans b2
    have hw2 := below_next hw1 hb2
    have hz2 : W.heap.size < w2.heap.size := by have := hb2.size; omega
    clear b0 b1 b2
    by_cases h12 : popc s ≤ 12
    · have HR : Hid (countStuckF ⟨w, h, s⟩ = (cntS (linesL ⟨w, h, s⟩) s (s + 1) : Nat)) := Lib.hid (by simp [countStuckF, hS, h12])
      have HLS := lsOk_of hb
      have hle := linesL_le ⟨w, h, s⟩
      obtain ⟨ls, hls⟩ : ∃ ls, linesL ⟨w, h, s⟩ = ls := ⟨_, rfl⟩
      rw [hls] at HLS hle HR
      have HL := Lib.hid hls
      have HLO := Lib.hid HLS
      clear hls HLS
      generalize popc s = k at h12 ⊢
      go_wp2_with fail
      refine (iLinesOf_ ⟨w, h, s⟩ _).mono ?_
      rintro e w3 ⟨A, c, rfl, rd, hb3⟩
      rw [HL.out] at rd ⊢
      have e0 := (hb3.cell (p := ⟨W.heap.size, 0, none⟩) hz2).trans d0
      have e1 := (hb3.cell (p := ⟨W.heap.size, 1, none⟩) hz2).trans d1
      have e2 := (hb3.cell (p := ⟨W.heap.size, 2, none⟩) hz2).trans d2
      have hw3 := below_next hw2 hb3
      have hz3 : W.heap.size < w3.heap.size := by have := hb3.size; omega
      clear d0 d1 d2
      go_wp2_with fail
      go_loopw [4, 5] (fun cv pv wr => ∃ p : Nat, p ≤ s + 1 ∧ pv = .int .i64 p ∧ cv = .int .i64 (cntS ls s p : Nat) ∧ Below w3.heap.size w3 wr) (fun _ pv _ => s + 1 - (intOf pv).toNat)
      case atStart => exact ⟨0, by omega, rfl, rfl, Below.refl _ _⟩
      case round =>
        obtain ⟨p, hp, rfl, rfl, hw⟩ := hrel
        have hsz := hw.size
        have g0 := (hw.cell (p := ⟨W.heap.size, 0, none⟩) hz3).trans e0
        have g1 := (hw.cell (p := ⟨W.heap.size, 1, none⟩) hz3).trans e1
        have g2 := (hw.cell (p := ⟨W.heap.size, 2, none⟩) hz3).trans e2
        have hzr : W.heap.size < wr.heap.size := by omega
        have hcl := cnt_le ls s p
        have rdr := (rd.below hw).more hsz
        by_cases hps : p ≤ s
        · have p63 : B63 p := by unfold B63; omega
          have s63 : B63 s := by unfold B63; omega
          (have ha := i64_andNot p s p63 s63; have hq := ad_zero p s)
          rcases Bool.eq_false_or_eq_true (decide (p &&& s = p)) with h1 | h1
          · rw [h1] at hq
            rcases Bool.eq_false_or_eq_true (stuckL ls p) with h2 | h2
            · have HX := Lib.hid (cnt_yes (show okS ls s p = true by rw [okS, h1, h2]; rfl))
              generalize cntS ls s p = n at HX hcl ⊢
              clear h1
              go_wp2_with fail
              refine (is_ (stuckIn_ ls A c p p63 HLO.out (by omega) _ rdr) h2).mono ?_
              rintro e w4 ⟨rfl, hb4⟩
              have hw4 := hw.trans (hb4.mono hsz)
              go_wp2
              go_roundw
              case rel => exact ⟨p + 1, by omega, by go_num, by rw [HX.out]; go_num, hw4⟩
              case measure => simp [intOf]; omega
            · have HX := Lib.hid (cnt_no (show okS ls s p = false by rw [okS, h2, Bool.and_false]))
              generalize cntS ls s p = n at HX hcl ⊢
              clear h1
              go_wp2_with fail
              refine (is_ (stuckIn_ ls A c p p63 HLO.out (by omega) _ rdr) h2).mono ?_
              rintro e w4 ⟨rfl, hb4⟩
              have hw4 := hw.trans (hb4.mono hsz)
              go_wp2
              go_roundw
              case rel => exact ⟨p + 1, by omega, by go_num, by rw [HX.out], hw4⟩
              case measure => simp [intOf]; omega
          · have HX := Lib.hid (cnt_no (show okS ls s p = false by rw [okS, h1, Bool.false_and]))
            rw [h1] at hq
            generalize cntS ls s p = n at HX hcl ⊢
            clear h1
            go_wp2
            go_roundw
            case rel => exact ⟨p + 1, by omega, by go_num, by rw [HX.out], hw⟩
            case measure => simp [intOf]; omega
        · have e : p = s + 1 := by omega
          subst e
          go_wp2
          go_ret
          exact ⟨ret_int HR.out.symm, below_next hw3 hw⟩
    · have HR : Hid (countStuckF ⟨w, h, s⟩ = -1) := Lib.hid (by simp [countStuckF, h12])
      generalize popc s = k at h12 ⊢
      go_wp2
      go_ret
      exact ⟨ret_int HR.out.symm, hw2⟩
  · have HR : Hid (countStuckF b = -1) := Lib.hid (by simp [countStuckF, hS])
    go_enter Try.func66, Try.ntmps66
    go_wp2_with fail
    refine (is_ (iIsSmall_ b _) hS).mono ?_
    rintro e w1 ⟨rfl, hb1⟩
    have hw1 : Below W.heap.size W w1 := below_step ((Below.refl _ _).alloc (Nat.le_refl _) _) hb1 (by (try simp))
    go_wp2
    go_ret
    exact ⟨ret_int HR.out.symm, hw1⟩
end Go.Proofs.Ytbcgokpamhgabaa

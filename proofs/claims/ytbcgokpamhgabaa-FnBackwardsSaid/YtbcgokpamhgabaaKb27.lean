/- The contracts of IsStuck, PlayAll, IsPackage. -/
import Derived.Test.YtbcgokpamhgabaaChecked
import Derived.Test.YtbcgokpamhgabaaKb01
import Derived.Tactics
import Derived.Tactics2
import Derived.WalkKit
import Derived.WalkSpells
import Derived.WalkLawsBesides
import Derived.Deep.QuietTactic
import Derived.BigQuiet
import Derived.BigGuardPart
import Derived.Lib.QuietBelow
import Derived.OwnWalk
import Derived.KernelRfl
import Derived.Test.YtbcgokpamhgabaaKb24
namespace Go.Proofs.Ytbcgokpamhgabaa
set_option linter.unusedVariables false
set_option maxRecDepth 20000
open Go.RowKit Go.Sort

theorem iIsStuck_ (b : Ln) (p : Int) (hp : I64 p) (W : World) :
    Calls Try.prog 63 #[.agg #[.int .i64 b.f, .int .i64 b.o, .int .i64 b.t], .int .i64 p] W fun e w' => e = .returned (.bool (stuckB b p)) ∧ Below W.heap.size W w' := by
  rcases Bool.eq_false_or_eq_true (posB b p) with hP | hP
  · have hl0 : (jumpsL b p).length ≤ 196 := by
      have := linesL_le b
      have h2 := List.length_filter_le (canJ p.toNat) (linesL b)
      simp only [jumpsL, hP, if_true]; omega
    have H := Lib.hid (show decide ((jumpsL b p).length = 0) = stuckB b p by simp [stuckB, hP])
    generalize hn : (jumpsL b p).length = n at H hl0
    have HN := Lib.hid hn
    clear hn
    go_enter Try.func63, Try.ntmps63
    go_wp2_with (first | (go_at_call 106; refine (is_ (iPositionOk_ _ _ hp _) hP).mono ?_; rintro e w1 ⟨rfl, hb1⟩; obtain ⟨hc, hf⟩ := bcell hb1; have hz0 : W.heap.size < w1.heap.size := (by have := hb1.size; (try simp at this); omega); have hw1 : Below W.heap.size W w1 := below_step ((Below.refl _ _).alloc (Nat.le_refl _) _) hb1 (by (try simp))))
    refine (iJumpsOf_ b p hp _).mono ?_
    rintro e w2 ⟨A, c, rfl, rd, hb2⟩
    rw [HN.out]
    have hw2 := below_next hw1 hb2
    go_wp2
    go_ret
    exact ⟨ret_bool (by rw [← H.out, Bool.eq_iff_iff]; simp <;> omega), hw2⟩
  · have H := Lib.hid (show stuckB b p = false by simp [stuckB, hP])
    go_enter Try.func63, Try.ntmps63
    go_wp2_with (first | (go_at_call 106; refine (is_ (iPositionOk_ _ _ hp _) hP).mono ?_; rintro e w1 ⟨rfl, hb1⟩; obtain ⟨hc, hf⟩ := bcell hb1; have hz0 : W.heap.size < w1.heap.size := (by have := hb1.size; (try simp at this); omega); have hw1 : Below W.heap.size W w1 := below_step ((Below.refl _ _).alloc (Nat.le_refl _) _) hb1 (by (try simp))))
    go_ret
    exact ⟨ret_bool H.out.symm, hw1⟩
theorem playR_no {b : Ln} {p : Int} {ls : List Ln} (h : playB b p ls = false) : playR b p ls = p := by simp [playR, h]
theorem playR_yes {b : Ln} {p : Int} {ls : List Ln} (h : playB b p ls = true) : playR b p ls = playP b p ls := by simp [playR, h]
set_option maxHeartbeats 1000000 in
theorem iPlayAll_ (b : Ln) (p : Int) (hp : I64 p) (ls : List Ln) (A : Option Addr) (c : Nat) (hm : ls.length ≤ 9223372036854775807) (W : World) (rd : Rd W W.heap.size A (flat ls)) :
    Calls Try.prog 115 #[.agg #[.int .i64 b.f, .int .i64 b.o, .int .i64 b.t], .int .i64 p, .slice A ls.length c] W fun e w' => e = .returned (.tuple #[.int .i64 (playR b p ls), .bool (playB b p ls)]) ∧ Below W.heap.size W w' := by
  rcases Bool.eq_false_or_eq_true (posB b p) with hP | hP
  · by_cases h60 : ls.length ≤ 60
    · have HB : Hid (playB b p ls = playsB b p ls) := Lib.hid (by simp [playB, hP, h60])
      go_enter Try.func115, Try.ntmps115
      go_wp2_with (first | (go_at_call 106; refine (is_ (iPositionOk_ _ _ hp _) hP).mono ?_; rintro e w1 ⟨rfl, hb1⟩; obtain ⟨hc, hf⟩ := bcell hb1; have hz0 : W.heap.size < w1.heap.size := (by have := hb1.size; (try simp at this); omega); have hw1 : Below W.heap.size W w1 := below_step ((Below.refl _ _).alloc (Nat.le_refl _) _) hb1 (by (try simp))))
      have b0 : w1.cell? ⟨W.heap.size, 0, none⟩ = some (.int .i64 b.f) := by rw [hc _ _ (by simp)]; simp [go_sem]
      have b1 : w1.cell? ⟨W.heap.size, 1, none⟩ = some (.int .i64 b.o) := by rw [hc _ _ (by simp)]; simp [go_sem]
      have b2 : w1.cell? ⟨W.heap.size, 2, none⟩ = some (.int .i64 b.t) := by rw [hc _ _ (by simp)]; simp [go_sem]
      have rd1 : Rd w1 w1.heap.size A (flat ls) := (rd.below hw1).more hw1.size
      clear hc hf hb1 rd
      go_loopw [8, 26] (fun qv iv wr => ∃ i : Nat, i ≤ ls.length ∧ iv = .int .i64 i ∧ qv = .int .i64 (playP b p (ls.take i)) ∧ playsB b p (ls.take i) = true ∧ Below w1.heap.size w1 wr) (fun _ iv _ => ls.length - (intOf iv).toNat)
      case atStart => exact ⟨0, Nat.zero_le _, rfl, rfl, rfl, Below.refl _ _⟩
      case round =>
        obtain ⟨i, hi, rfl, rfl, hpl, hw⟩ := hrel
        have HPL := Lib.hid hpl
        have hsz := hw.size
        have hPQ := playP_pos hP (ls.take i)
        have hq64 : I64 (playP b p (ls.take i)) := posB_i64 hPQ
        have c0 := (hw.cell (p := ⟨W.heap.size, 0, none⟩) hz0).trans b0
        have c1 := (hw.cell (p := ⟨W.heap.size, 1, none⟩) hz0).trans b1
        have c2 := (hw.cell (p := ⟨W.heap.size, 2, none⟩) hz0).trans b2
        clear hpl
        by_cases hlt : i < ls.length
        · obtain ⟨bb, off, l, rfl, hbl, hx, x0, x1, x2⟩ := (rd1.below hw).line hlt
          have HP1 := Lib.hid (playP_take (b := b) (p := p) hx)
          have HP2 := Lib.hid (playsB_take (b := b) (p := p) hx)
          have hbz : bb < wr.heap.size := by omega
          have hzr : W.heap.size < wr.heap.size := by omega
          have i0 : (0 : Int) ≤ (i : Int) := by omega
          have i1 : (i : Int) < (ls.length : Int) := by omega
          generalize hq : playP b p (ls.take i) = q at HP1 HP2 hq64 hPQ ⊢
          have HQ := Lib.hid hq
          clear hx hq
          go_wp2_with fail
          refine (iDoJump_ b l q hq64 _).mono ?_
          rintro e w3 ⟨rfl, hb3⟩
          have hw3 := below_step (hw.alloc hsz _) hb3 (by simp; omega)
          rcases Bool.eq_false_or_eq_true (doB b q l) with hd | hd
          · have HD : Hid (playsB b p (ls.take (i + 1)) = true) := Lib.hid (by rw [HP2.out, HPL.out, hd]; rfl)
            generalize hdp : doP b q l = q' at HP1 ⊢
            clear hdp
            go_wp2
            go_roundw
            case rel => exact ⟨i + 1, by omega, by go_num, by rw [HP1.out], HD.out, hw3⟩
            case measure => simp [intOf]; omega
          · have HD : Hid (playB b p ls = false) := Lib.hid (by rw [HB.out]; exact playsB_cut (i := i + 1) (by rw [HP2.out, HPL.out, hd]; rfl))
            generalize hdp : doP b q l = q' at HP1 ⊢
            clear hdp
            go_wp2
            go_ret2
            exact ⟨by rw [playR_no HD.out, HD.out]; rfl, below_next hw1 hw3⟩
        · have e : i = ls.length := by omega
          subst e
          have HD : Hid (playB b p ls = true) := Lib.hid (by have := HPL.out; rw [List.take_length] at this; rw [HB.out, this])
          rw [List.take_length]
          generalize hq : playP b p ls = q
          have HQ : Hid (playR b p ls = q) := Lib.hid (by rw [playR_yes HD.out, hq])
          clear hq
          go_wp2
          go_ret2
          exact ⟨by rw [HQ.out, HD.out]; rfl, below_next hw1 hw⟩
    · have HD : Hid (playB b p ls = false) := Lib.hid (by simp [playB, h60])
      go_enter Try.func115, Try.ntmps115
      go_wp2_with (first | (go_at_call 106; refine (is_ (iPositionOk_ _ _ hp _) hP).mono ?_; rintro e w1 ⟨rfl, hb1⟩; obtain ⟨hc, hf⟩ := bcell hb1; have hz0 : W.heap.size < w1.heap.size := (by have := hb1.size; (try simp at this); omega); have hw1 : Below W.heap.size W w1 := below_step ((Below.refl _ _).alloc (Nat.le_refl _) _) hb1 (by (try simp))))
      go_ret2
      exact ⟨by rw [playR_no HD.out, HD.out]; rfl, hw1⟩
  · have HD : Hid (playB b p ls = false) := Lib.hid (by simp [playB, hP])
    go_enter Try.func115, Try.ntmps115
    go_wp2_with (first | (go_at_call 106; refine (is_ (iPositionOk_ _ _ hp _) hP).mono ?_; rintro e w1 ⟨rfl, hb1⟩; obtain ⟨hc, hf⟩ := bcell hb1; have hz0 : W.heap.size < w1.heap.size := (by have := hb1.size; (try simp at this); omega); have hw1 : Below W.heap.size W w1 := below_step ((Below.refl _ _).alloc (Nat.le_refl _) _) hb1 (by (try simp))))
    go_ret2
    exact ⟨by rw [playR_no HD.out, HD.out]; rfl, hw1⟩
end Go.Proofs.Ytbcgokpamhgabaa

/- The contracts of the functions on jumps. -/
import Derived.Test.YtbcgokpamhgabaaChecked
import Derived.Test.YtbcgokpamhgabaaKb01
import Derived.Tactics
import Derived.Tactics2
import Derived.WalkKit
import Derived.WalkSpells
import Derived.WalkLawsBesides
import Derived.Deep.QuietTactic
import Derived.BigQuiet
import Derived.BigGuardPart
import Derived.Lib.QuietBelow
import Derived.OwnWalk
import Derived.KernelRfl
import Derived.Test.YtbcgokpamhgabaaKb14
import Derived.Test.YtbcgokpamhgabaaKb15
namespace Go.Proofs.Ytbcgokpamhgabaa
set_option linter.unusedVariables false
set_option maxRecDepth 20000
open Go.RowKit Go.Sort

theorem l05Bits_ (f o t : Nat) (hf : f < 63) (ho : o < 63) (ht : t < 63) (W : World) :
    Calls Try.prog 110 #[.agg #[.int .i64 f, .int .i64 o, .int .i64 t]] W fun e w' => e = .returned (.int .i64 (lbits ⟨f, o, t⟩ : Nat)) ∧ Below W.heap.size W w' := by
  have pf := i64_pow f hf
  have po := i64_pow o ho
  have pt := i64_pow t ht
  have o1 := i64_or (pow2 f) (pow2 o) (b63_pow2 hf) (b63_pow2 ho)
  have o2 := i64_or (pow2 f ||| pow2 o) (pow2 t) (b63_or (b63_pow2 hf) (b63_pow2 ho)) (b63_pow2 ht)
  have H := Lib.hid (show (pow2 f ||| pow2 o ||| pow2 t) = lbits ⟨f, o, t⟩ by simp [lbits])
  go_enter Try.func110, Try.ntmps110
  go_wp2_with fail
  go_quiet (fail)
  go_wp2
  go_ret
  exact ⟨ret_int (by rw [H.out]), below_drewN ((Below.refl _ _).alloc (Nat.le_refl _) _) _⟩
set_option maxHeartbeats 1000000 in
theorem jumpFrom_ (p f o t : Nat) (hp : B63 p) (hf : f < 63) (ho : o < 63) (ht : t < 63) (hft : f ≠ t) (hot : o ≠ t) (W : World) :
    Calls Try.prog 148 #[.int .i64 p, .agg #[.int .i64 f, .int .i64 o, .int .i64 t]] W fun e w' =>
      e = .returned (.tuple #[.int .i64 ((if canJ p ⟨f, o, t⟩ then flip p ⟨f, o, t⟩ else p : Nat) : Int), .bool (canJ p ⟨f, o, t⟩)]) ∧ Below W.heap.size W w' := by
  rcases Bool.eq_false_or_eq_true (p.testBit f) with h1 | h1
  · rcases Bool.eq_false_or_eq_true (p.testBit o) with h2 | h2
    · rcases Bool.eq_false_or_eq_true (p.testBit t) with h3 | h3
      · have hc : canJ p ⟨f, o, t⟩ = false := by simp [canJ, h3]
        rw [hc]
        go_enter Try.func148, Try.ntmps148
        go_wp2_with (go_at_call 98; refine (hasBit_ p _ hp (by omega) _).mono ?_; rintro e w' ⟨rfl, rfl⟩)
        go_ret2
        exact ⟨rfl, (Below.refl _ _).alloc (Nat.le_refl _) _⟩
      · have hc : canJ p ⟨f, o, t⟩ = true := by simp [canJ, h1, h2, h3]
        have hfl := flip_jump hc hft hot
        rw [hc, if_pos rfl]
        have HF := Lib.hid hfl
        have pf := i64_pow f hf
        have po := i64_pow o ho
        have pt := i64_pow t ht
        have a1 := i64_andNot p (pow2 f) hp (b63_pow2 hf)
        have a2 := i64_andNot (adiff p (pow2 f)) (pow2 o) (b63_adiff hp) (b63_pow2 ho)
        have a3 := i64_or (adiff (adiff p (pow2 f)) (pow2 o)) (pow2 t) (b63_adiff (b63_adiff hp)) (b63_pow2 ht)
        clear hfl hc
        go_enter Try.func148, Try.ntmps148
        go_wp2_with (go_at_call 98; refine (hasBit_ p _ hp (by omega) _).mono ?_; rintro e w' ⟨rfl, rfl⟩)
        go_quiet (fail)
        go_wp2
        go_ret2
        exact ⟨by rw [← HF.out]; rfl, below_drewN ((Below.refl _ _).alloc (Nat.le_refl _) _) _⟩
    · have hc : canJ p ⟨f, o, t⟩ = false := by simp [canJ, h2]
      rw [hc]
      go_enter Try.func148, Try.ntmps148
      go_wp2_with (go_at_call 98; refine (hasBit_ p _ hp (by omega) _).mono ?_; rintro e w' ⟨rfl, rfl⟩)
      go_ret2
      exact ⟨rfl, (Below.refl _ _).alloc (Nat.le_refl _) _⟩
  · have hc : canJ p ⟨f, o, t⟩ = false := by simp [canJ, h1]
    rw [hc]
    go_enter Try.func148, Try.ntmps148
    go_wp2_with (go_at_call 98; refine (hasBit_ p _ hp (by omega) _).mono ?_; rintro e w' ⟨rfl, rfl⟩)
    go_ret2
    exact ⟨rfl, (Below.refl _ _).alloc (Nat.le_refl _) _⟩
set_option maxHeartbeats 1000000 in
theorem iLineBetween_ (b : Ln) (x y : Int) (W : World) :
    Calls Try.prog 171 #[.agg #[.int .i64 b.f, .int .i64 b.o, .int .i64 b.t], .int .i64 x, .int .i64 y] W fun e w' =>
      e = .returned (.tuple #[.agg #[.int .i64 (btwL (linesL b) x y).f, .int .i64 (btwL (linesL b) x y).o, .int .i64 (btwL (linesL b) x y).t], .bool (btwB (linesL b) x y)]) ∧ Below W.heap.size W w' := by
  have hle := linesL_le b
  obtain ⟨ls, hls⟩ : ∃ ls, linesL b = ls := ⟨_, rfl⟩
  rw [hls] at hle ⊢
  have HLS := Lib.hid hls
  clear hls
  go_enter Try.func171, Try.ntmps171
  go_wp2_with fail
  refine (iLinesOf_ b _).mono ?_
  rintro e W1 ⟨A1, c1, rfl, rd1, hb1⟩
  rw [HLS.out] at rd1 ⊢
  obtain ⟨hc, hf⟩ := bcell hb1
  have hz : W.heap.size + 2 ≤ W1.heap.size := by have := hb1.size; simpa using this
  have r0 : W1.cell? ⟨W.heap.size + 1, 0, none⟩ = some (.int .i64 0) := by rw [hc _ _ (by simp)]; simp [go_sem]
  have r1 : W1.cell? ⟨W.heap.size + 1, 1, none⟩ = some (.int .i64 0) := by rw [hc _ _ (by simp)]; simp [go_sem]
  have r2 : W1.cell? ⟨W.heap.size + 1, 2, none⟩ = some (.int .i64 0) := by rw [hc _ _ (by simp)]; simp [go_sem]
  have z0 : W1.frozen? ⟨W.heap.size + 1, 0, none⟩ = false := by rw [hf _ _ (by simp)]; simp [go_sem]
  have z1 : W1.frozen? ⟨W.heap.size + 1, 1, none⟩ = false := by rw [hf _ _ (by simp)]; simp [go_sem]
  have z2 : W1.frozen? ⟨W.heap.size + 1, 2, none⟩ = false := by rw [hf _ _ (by simp)]; simp [go_sem]
  have hW1 : Below W.heap.size W W1 := below_step (((Below.refl _ _).alloc (Nat.le_refl _) _).alloc (by simp) _) hb1 (by simp; omega)
  clear hc hf hb1
  go_wp2_with fail
  go_loopw [13] (fun iv wr => ∃ (i : Nat), i ≤ ls.length ∧ iv = .int .i64 i ∧ findL (ls.take i) x y = none ∧ Below W1.heap.size W1 wr) (fun iv _ => ls.length - (intOf iv).toNat)
  case atStart => exact ⟨0, Nat.zero_le _, rfl, rfl, Below.refl _ _⟩
  case round =>
    obtain ⟨i, hi, rfl, hfd, hw⟩ := hrel
    have hsz := hw.size
    have hzz : W.heap.size + 1 < wr.heap.size := by omega
    have q0 := (hw.cell (p := ⟨W.heap.size + 1, 0, none⟩) (show W.heap.size + 1 < W1.heap.size by omega)).trans r0
    have q1 := (hw.cell (p := ⟨W.heap.size + 1, 1, none⟩) (show W.heap.size + 1 < W1.heap.size by omega)).trans r1
    have q2 := (hw.cell (p := ⟨W.heap.size + 1, 2, none⟩) (show W.heap.size + 1 < W1.heap.size by omega)).trans r2
    have y0 := (hw.frozen (p := ⟨W.heap.size + 1, 0, none⟩) (show W.heap.size + 1 < W1.heap.size by omega)).trans z0
    have y1 := (hw.frozen (p := ⟨W.heap.size + 1, 1, none⟩) (show W.heap.size + 1 < W1.heap.size by omega)).trans z1
    have y2 := (hw.frozen (p := ⟨W.heap.size + 1, 2, none⟩) (show W.heap.size + 1 < W1.heap.size by omega)).trans z2
    clear r0 r1 r2 z0 z1 z2
    have HFD := Lib.hid hfd
    clear hfd
    have hw' := below_next hW1 hw
    by_cases hlt : i < ls.length
    · obtain ⟨bb, off, l, rfl, hbl, hx, x0, x1, x2⟩ := (rd1.below hw).line hlt
      have HX := Lib.hid hx
      have i0 : (0 : Int) ≤ (i : Int) := by omega
      have i1 : (i : Int) < (ls.length : Int) := by omega
      clear hx
      have hbz : bb < wr.heap.size := by omega
      rcases Bool.eq_false_or_eq_true (l.f == x) with h1 | h1
      · rcases Bool.eq_false_or_eq_true (l.t == y) with h2 | h2
        · have hh := find_hit HFD.out HX.out (by rw [h1, h2]; rfl)
          have HL : Hid (btwL ls x y = l) := Lib.hid (by simp [btwL, hh])
          have HB : Hid (btwB ls x y = true) := Lib.hid (by simp [btwB, hh])
          clear hh
          go_wp2
          refine bodyPost_ret (v := .tuple #[.agg #[.int .i64 l.f, .int .i64 l.o, .int .i64 l.t], .bool true]) (by simp [results, Try.results171, go_sem, *]) rfl ⟨by rw [HL.out, HB.out], ?_⟩
          repeat (first | exact hw' | refine Below.setCell ?_ (by simp) _ | refine Below.alloc ?_ (by have := hw'.size; first | omega | (simp; omega)) _)
        · have HN := Lib.hid (find_take HFD.out HX.out (show (l.f == x && l.t == y) = false by rw [h2, Bool.and_false]))
          go_wp2
          go_roundw
          case rel => exact ⟨i + 1, by omega, by go_num, HN.out, by repeat (first | exact hw | refine Below.alloc ?_ (by first | omega | (simp; omega)) _)⟩
          case measure => simp [intOf]; omega
      · have HN := Lib.hid (find_take HFD.out HX.out (show (l.f == x && l.t == y) = false by rw [h1, Bool.false_and]))
        go_wp2
        go_roundw
        case rel => exact ⟨i + 1, by omega, by go_num, HN.out, by repeat (first | exact hw | refine Below.alloc ?_ (by first | omega | (simp; omega)) _)⟩
        case measure => simp [intOf]; omega
    · have e : i = ls.length := by omega
      subst e
      have hh := find_all HFD.out
      have HL : Hid (btwL ls x y = ⟨0, 0, 0⟩) := Lib.hid (by simp [btwL, hh])
      have HB : Hid (btwB ls x y = false) := Lib.hid (by simp [btwB, hh])
      clear hh
      go_wp2
      refine bodyPost_ret (v := .tuple #[.agg #[.int .i64 0, .int .i64 0, .int .i64 0], .bool false]) (by simp [results, Try.results171, go_sem, *]) rfl ⟨by rw [HL.out, HB.out], ?_⟩
      repeat (first | exact hw' | refine Below.setCell ?_ (by simp) _ | refine Below.alloc ?_ (by have := hw'.size; first | omega | (simp; omega)) _)
set_option maxHeartbeats 1000000 in
theorem sLineBetween_ (b : Ln) (x y : Int) (W : World) :
    Calls Try.prog 168 #[.agg #[.int .i64 b.f, .int .i64 b.o, .int .i64 b.t], .int .i64 x, .int .i64 y] W fun e w' =>
      e = .returned (.tuple #[.agg #[.int .i64 (btwL (linesL b) x y).f, .int .i64 (btwL (linesL b) x y).o, .int .i64 (btwL (linesL b) x y).t], .bool (btwB (linesL b) x y)]) ∧ Below W.heap.size W w' := by
  have hle := linesL_le b
  obtain ⟨ls, hls⟩ : ∃ ls, linesL b = ls := ⟨_, rfl⟩
  rw [hls] at hle ⊢
  have HLS := Lib.hid hls
  clear hls
  go_enter Try.func168, Try.ntmps168
  go_wp2_with fail
  refine (sLinesOf_ b _).mono ?_
  rintro e W1 ⟨A1, c1, rfl, rd1, hb1⟩
  rw [HLS.out] at rd1 ⊢
  obtain ⟨hc, hf⟩ := bcell hb1
  have hz : W.heap.size + 2 ≤ W1.heap.size := by have := hb1.size; simpa using this
  have r0 : W1.cell? ⟨W.heap.size + 1, 0, none⟩ = some (.int .i64 0) := by rw [hc _ _ (by simp)]; simp [go_sem]
  have r1 : W1.cell? ⟨W.heap.size + 1, 1, none⟩ = some (.int .i64 0) := by rw [hc _ _ (by simp)]; simp [go_sem]
  have r2 : W1.cell? ⟨W.heap.size + 1, 2, none⟩ = some (.int .i64 0) := by rw [hc _ _ (by simp)]; simp [go_sem]
  have z0 : W1.frozen? ⟨W.heap.size + 1, 0, none⟩ = false := by rw [hf _ _ (by simp)]; simp [go_sem]
  have z1 : W1.frozen? ⟨W.heap.size + 1, 1, none⟩ = false := by rw [hf _ _ (by simp)]; simp [go_sem]
  have z2 : W1.frozen? ⟨W.heap.size + 1, 2, none⟩ = false := by rw [hf _ _ (by simp)]; simp [go_sem]
  have hW1 : Below W.heap.size W W1 := below_step (((Below.refl _ _).alloc (Nat.le_refl _) _).alloc (by simp) _) hb1 (by simp; omega)
  clear hc hf hb1
  go_wp2_with fail
  go_loopw [9] (fun iv wr => ∃ (i : Nat), i ≤ ls.length ∧ iv = .int .i64 i ∧ findL (ls.take i) x y = none ∧ Below W1.heap.size W1 wr) (fun iv _ => ls.length - (intOf iv).toNat)
  case atStart => exact ⟨0, Nat.zero_le _, rfl, rfl, Below.refl _ _⟩
  case round =>
    obtain ⟨i, hi, rfl, hfd, hw⟩ := hrel
    have hsz := hw.size
    have hzz : W.heap.size + 1 < wr.heap.size := by omega
    have q0 := (hw.cell (p := ⟨W.heap.size + 1, 0, none⟩) (show W.heap.size + 1 < W1.heap.size by omega)).trans r0
    have q1 := (hw.cell (p := ⟨W.heap.size + 1, 1, none⟩) (show W.heap.size + 1 < W1.heap.size by omega)).trans r1
    have q2 := (hw.cell (p := ⟨W.heap.size + 1, 2, none⟩) (show W.heap.size + 1 < W1.heap.size by omega)).trans r2
    have y0 := (hw.frozen (p := ⟨W.heap.size + 1, 0, none⟩) (show W.heap.size + 1 < W1.heap.size by omega)).trans z0
    have y1 := (hw.frozen (p := ⟨W.heap.size + 1, 1, none⟩) (show W.heap.size + 1 < W1.heap.size by omega)).trans z1
    have y2 := (hw.frozen (p := ⟨W.heap.size + 1, 2, none⟩) (show W.heap.size + 1 < W1.heap.size by omega)).trans z2
    clear r0 r1 r2 z0 z1 z2
    have HFD := Lib.hid hfd
    clear hfd
    have hw' := below_next hW1 hw
    by_cases hlt : i < ls.length
    · obtain ⟨bb, off, l, rfl, hbl, hx, x0, x1, x2⟩ := (rd1.below hw).line hlt
      have HX := Lib.hid hx
      have i0 : (0 : Int) ≤ (i : Int) := by omega
      have i1 : (i : Int) < (ls.length : Int) := by omega
      clear hx
      have hbz : bb < wr.heap.size := by omega
      rcases Bool.eq_false_or_eq_true (l.f == x) with h1 | h1
      · rcases Bool.eq_false_or_eq_true (l.t == y) with h2 | h2
        · have hh := find_hit HFD.out HX.out (by rw [h1, h2]; rfl)
          have HL : Hid (btwL ls x y = l) := Lib.hid (by simp [btwL, hh])
          have HB : Hid (btwB ls x y = true) := Lib.hid (by simp [btwB, hh])
          clear hh
          go_wp2
          refine bodyPost_ret (v := .tuple #[.agg #[.int .i64 l.f, .int .i64 l.o, .int .i64 l.t], .bool true]) (by simp [results, Try.results168, go_sem, *]) rfl ⟨by rw [HL.out, HB.out], ?_⟩
          repeat (first | exact hw' | refine Below.setCell ?_ (by simp) _ | refine Below.alloc ?_ (by have := hw'.size; first | omega | (simp; omega)) _)
        · have HN := Lib.hid (find_take HFD.out HX.out (show (l.f == x && l.t == y) = false by rw [h2, Bool.and_false]))
          go_wp2
          go_roundw
          case rel => exact ⟨i + 1, by omega, by go_num, HN.out, by repeat (first | exact hw | refine Below.alloc ?_ (by first | omega | (simp; omega)) _)⟩
          case measure => simp [intOf]; omega
      · have HN := Lib.hid (find_take HFD.out HX.out (show (l.f == x && l.t == y) = false by rw [h1, Bool.false_and]))
        go_wp2
        go_roundw
        case rel => exact ⟨i + 1, by omega, by go_num, HN.out, by repeat (first | exact hw | refine Below.alloc ?_ (by first | omega | (simp; omega)) _)⟩
        case measure => simp [intOf]; omega
    · have e : i = ls.length := by omega
      subst e
      have hh := find_all HFD.out
      have HL : Hid (btwL ls x y = ⟨0, 0, 0⟩) := Lib.hid (by simp [btwL, hh])
      have HB : Hid (btwB ls x y = false) := Lib.hid (by simp [btwB, hh])
      clear hh
      go_wp2
      refine bodyPost_ret (v := .tuple #[.agg #[.int .i64 0, .int .i64 0, .int .i64 0], .bool false]) (by simp [results, Try.results168, go_sem, *]) rfl ⟨by rw [HL.out, HB.out], ?_⟩
      repeat (first | exact hw' | refine Below.setCell ?_ (by simp) _ | refine Below.alloc ?_ (by have := hw'.size; first | omega | (simp; omega)) _)
end Go.Proofs.Ytbcgokpamhgabaa

/- The contracts of the helpers of the laws: copies, tests for equality, marks. -/
import Derived.Test.YtliljgmpdfdakaaChecked
import Derived.Test.YtliljgmpdfdakaaMem
import Derived.Tactics
import Derived.Tactics2
import Derived.WalkKit
import Derived.WalkSpells
import Derived.WalkLawsBesides
import Derived.Deep.QuietTactic
import Derived.BigQuiet
import Derived.BigGuardPart
import Derived.Lib.QuietBelow
import Derived.OwnWalk
import Derived.KernelRfl
set_option linter.unusedVariables false
namespace Go.Proofs.Ytliljgmpdfdakaa
open Go.RowKit Go.Sort

theorem toLine_ (l : Ln) (w : World) :
    Calls Try.prog 63 #[.agg #[.int .i64 l.f, .int .i64 l.o, .int .i64 l.t]] w fun e w' => e = .returned (.agg #[.int .i64 l.f, .int .i64 l.o, .int .i64 l.t]) ∧ Below w.heap.size w w' := by
  go_enter Try.func63, Try.ntmps63
  go_wp2
  refine bodyPost_ret (v := .agg #[.int .i64 l.f, .int .i64 l.o, .int .i64 l.t]) (by simp [results, Try.results63, go_sem]) rfl ⟨rfl, ?_⟩
  exact ((((Below.refl _ _).alloc (Nat.le_refl _) _).alloc (by simp) _).alloc (by simp; omega) _)
theorem infoLine : (Try.prog.info? 51).map (fun i => (i.zero, i.size, i.bytes)) = some (some (.agg #[.int .i64 0, .int .i64 0, .int .i64 0]), 3, 24) := by kernel_rfl
theorem infoInt : (Try.prog.info? 3).map (fun i => (i.zero, i.size, i.bytes)) = some (some (.int .i64 0), 1, 8) := by kernel_rfl
theorem toLineS_ (ls : List Ln) (A : Option Addr) (c : Nat) (w : World) (hr : Rd w w.heap.size A (flat ls)) (hn : ls.length ≤ 1048576) :
    Calls Try.prog 29 #[.slice A ls.length c] w (GivesSlice w 51 3 ls.length (flat ls)) := by
  obtain ⟨i0, hi, hz0, hz1, hz2⟩ := info_parts infoLine
  go_enter Try.func29, Try.ntmps29
  go_wp2_with (first | (at_make; refine wpList_make_full _ rfl (.tmp 6) (.tmp 6) 32 rfl w.heap.size 51 i0 _ 3 Try.underlying32 hi hz0 hz1 .i64 .i64 _ _ ls.length rfl rfl rfl rfl (by rw [hz2]; omega) (by unfold maxLen; omega) (Nat.le_refl _) ?_; intro w1 hown hg; have hb1 : Below w.heap.size w w1 := (Below.refl _ _).grown hg (Nat.le_refl _) (by simp)))
  go_loopw [4] (fun i wr => ∃ k : Nat, k ≤ ls.length ∧ i = .int .i64 k ∧ wr.ownsRow w.heap.size 51 3 (.slice (some ⟨w.heap.size, 0, none⟩) ls.length ls.length) ls.length (flat (ls.take k ++ List.replicate (ls.length - k) zln)) ∧ Below w.heap.size w wr) (fun i _ => ls.length - (intOf i).toNat)
  case atStart => exact ⟨0, Nat.zero_le _, rfl, by rw [made_flat] at hown; simpa using hown, hb1⟩
  case round =>
    obtain ⟨k, hk, rfl, hown1, hb⟩ := hrel
    by_cases hlt : k < ls.length
    · obtain ⟨b, off, l, rfl, hbl, hl, h0, h1, h2⟩ := (hr.below hb).line hlt
      clear hr
      have H := Lib.hid hl
      clear hl
      go_wp2_with (go_at_call 63; refine (toLine_ l _).mono ?_; rintro e w2 ⟨rfl, hb2⟩; have hown2 := own_next hown1 hb2; obtain ⟨l', hl', c0, c1, c2, f0, f1, f2⟩ := own_at3 hown2 hlt)
      go_roundw
      case rel => exact ⟨k + 1, by omega, by go_num, by rw [← set_fill ls zln H.out]; exact own_set3 hown2 k l, (((hb.trans (hb2.mono hb.size)).setCell (by simp) _).setCell (by simp) _).setCell (by simp) _⟩
      case measure => simp [intOf]; omega
    · go_wp2
      go_ret
      have e : k = ls.length := by omega
      subst e
      exact ⟨_, _, rfl, by simpa using hown1, hb⟩
theorem szLineS_ (A : Option Addr) (n c : Nat) (k : Int) (w : World) (hn : n ≤ 9223372036854775807) (h0 : 0 ≤ k) (h1 : k ≤ 1048576) :
    Calls Try.prog 27 #[.slice A n c, .int .i64 k] w fun e w' => e = .returned (.int .i64 (if k < n then -1 else k - n)) ∧ w = w' := by
  by_cases h : k < n
  · go_enter Try.func27, Try.ntmps27
    go_wp2
    go_ret
    exact ⟨ret_int (by first | rfl | (split <;> omega)), rfl⟩
  · go_enter Try.func27, Try.ntmps27
    go_wp2
    go_ret
    exact ⟨ret_int (by first | rfl | (split <;> omega)), rfl⟩
theorem szLineS_ok (A : Option Addr) (n c : Nat) (k : Int) (w : World) (hn : n ≤ 9223372036854775807) (h1 : k ≤ 1048576) (h : (n : Int) ≤ k) :
    Calls Try.prog 27 #[.slice A n c, .int .i64 k] w fun e w' => e = .returned (.int .i64 (k - n)) ∧ w = w' :=
  (szLineS_ A n c k w hn (by omega) h1).mono fun e w' ⟨he, hw⟩ => ⟨by rw [he, if_neg (by omega)], hw⟩
theorem szLineS_no (A : Option Addr) (n c : Nat) (k : Int) (w : World) (hn : n ≤ 9223372036854775807) (h0 : 0 ≤ k) (h1 : k ≤ 1048576) (h : k < (n : Int)) :
    Calls Try.prog 27 #[.slice A n c, .int .i64 k] w fun e w' => e = .returned (.int .i64 (-1)) ∧ w = w' :=
  (szLineS_ A n c k w hn h0 h1).mono fun e w' ⟨he, hw⟩ => ⟨by rw [he, if_pos h], hw⟩
theorem eqLine_ (a b : Ln) (w : World) :
    Calls Try.prog 60 #[.agg #[.int .i64 a.f, .int .i64 a.o, .int .i64 a.t], .agg #[.int .i64 b.f, .int .i64 b.o, .int .i64 b.t]] w fun e w' => e = .returned (.bool (eqL a b)) ∧ Below w.heap.size w w' := by
  go_enter Try.func60, Try.ntmps60
  go_wp2
  all_goals
    go_ret
    refine ⟨?_, ((Below.refl _ _).alloc (Nat.le_refl _) _).alloc (by simp) _⟩
    simp_all [eqL, Ln.ext_iff']
theorem eqLineS_ (xs ys : List Ln) (A A' : Option Addr) (c c' : Nat) (w : World) (hr : Rd w w.heap.size A (flat xs)) (hr' : Rd w w.heap.size A' (flat ys)) (hx : xs.length ≤ 9223372036854775807) (hy : ys.length ≤ 9223372036854775807) :
    Calls Try.prog 22 #[.slice A xs.length c, .slice A' ys.length c'] w fun e w' => e = .returned (.bool (eqB xs ys)) ∧ Below w.heap.size w w' := by
  by_cases hl : xs.length = ys.length
  · have hl' : ((xs.length : Int) != (ys.length : Int)) = false := by simp [hl]
    have HL := Lib.hid hl
    have hge : xs.length ≤ ys.length := by omega
    have hle : ys.length ≤ xs.length := by omega
    clear hl
    go_enter Try.func22, Try.ntmps22
    go_wp2
    go_loopw [5] (fun i wr => ∃ k : Nat, k ≤ xs.length ∧ i = .int .i64 k ∧ xs.take k = ys.take k ∧ Below w.heap.size w wr) (fun i _ => xs.length - (intOf i).toNat)
    case atStart => exact ⟨0, Nat.zero_le _, rfl, rfl, Below.refl _ _⟩
    case round =>
      obtain ⟨k, hk, rfl, ht, hb⟩ := hrel
      have HT := Lib.hid ht
      clear ht hl'
      by_cases hlt : k < xs.length
      · obtain ⟨b, off, l, rfl, hbl, hl, h0, h1, h2⟩ := (hr.below hb).line hlt
        obtain ⟨b', off', l', rfl, hbl', hl', h0', h1', h2'⟩ := (hr'.below hb).line (show k < ys.length by omega)
        clear hr hr'
        have H := Lib.hid hl
        have H' := Lib.hid hl'
        clear hl hl'
        have g0 := fun p : Regrown => cell_regrown h0 p.d p.os
        have g1 := fun p : Regrown => cell_regrown h1 p.d p.os
        have g2 := fun p : Regrown => cell_regrown h2 p.d p.os
        have g0' := fun p : Regrown => cell_regrown h0' p.d p.os
        have g1' := fun p : Regrown => cell_regrown h1' p.d p.os
        have g2' := fun p : Regrown => cell_regrown h2' p.d p.os
        have hky : k < ys.length := by omega
        go_wp2_with fail
        refine wp_region_quiet_below (by kernel_rfl) (by kernel_rfl) ?_
        repeat (go_big_quiet_step ((go_at_call 60; exact Calls.regrown_of (eqLine_ l l' _))))
        refine wpQuiet_nil ?_
        intro w1 hw1
        have hb1 : Below w.heap.size w w1 := by
          obtain ⟨p, rfl⟩ := hw1
          exact below_next hb (below_regrown wr p.d p.os)
        clear hw1 g0 g1 g2 g0' g1' g2'
        go_wp2
        · have he : (!eqL l l') = true := by assumption
          go_ret
          exact ⟨ret_bool (eqB_no (ne_of_get H.out H'.out (eqL_false.1 (by simpa using he)))).symm, hb1⟩
        · have he : (!eqL l l') = false := by assumption
          go_roundw
          case rel =>
            have he' := eqL_iff.1 (by simpa using he)
            subst he'
            exact ⟨k + 1, by omega, by go_num, take_next HT.out H.out H'.out, hb1⟩
          case measure => simp [intOf]; omega
      · go_wp2
        go_ret
        have e : k = xs.length := by omega
        have h := HT.out
        rw [List.take_of_length_le (by omega), List.take_of_length_le (by omega)] at h
        exact ⟨ret_bool (eqB_of h).symm, hb⟩
  · have hne : ((xs.length : Int) != (ys.length : Int)) = true := by simp; omega
    have HL := Lib.hid hl
    clear hl
    go_enter Try.func22, Try.ntmps22
    go_wp2
    go_ret
    exact ⟨ret_bool (eqB_no (fun h => HL.out (by rw [h]))).symm, Below.refl _ _⟩
theorem eqLineS_n (xs ys : List Ln) (A A' : Option Addr) (n m c c' : Nat) (w : World) (hn : xs.length = n) (hm : ys.length = m) (hr : Rd w w.heap.size A (flat xs)) (hr' : Rd w w.heap.size A' (flat ys)) (hx : n ≤ 9223372036854775807) (hy : m ≤ 9223372036854775807) :
    Calls Try.prog 22 #[.slice A n c, .slice A' m c'] w fun e w' => e = .returned (.bool (eqB xs ys)) ∧ Below w.heap.size w w' := by
  subst hn hm
  exact eqLineS_ xs ys A A' c c' w hr hr' hx hy
end Go.Proofs.Ytliljgmpdfdakaa

/- The contracts of CountSweeps, IsOneSweep, SameJumps and CanSwap. -/
import Derived.Test.YtbcgokpamhgabaaChecked
import Derived.Test.YtbcgokpamhgabaaKc01
import Derived.Tactics
import Derived.Tactics2
import Derived.WalkKit
import Derived.WalkSpells
import Derived.WalkLawsBesides
import Derived.Deep.QuietTactic
import Derived.BigQuiet
import Derived.BigGuardPart
import Derived.Lib.QuietBelow
import Derived.OwnWalk
import Derived.KernelRfl
import Derived.Test.YtbcgokpamhgabaaKc05
import Derived.Test.YtbcgokpamhgabaaKc09
import Derived.Test.YtbcgokpamhgabaaKc02
namespace Go.Proofs.Ytbcgokpamhgabaa
set_option linter.unusedVariables false
open Go.RowKit Go.Sort

theorem sSameJumps_ (xs ys : List Ln) (A A' : Option Addr) (c c' : Nat) (w : World) (hr : Rd w w.heap.size A (flat xs)) (hr' : Rd w w.heap.size A' (flat ys)) (hx : xs.length ≤ 9223372036854775807) (hy : ys.length ≤ 9223372036854775807) :
    Calls Try.prog 47 #[.slice A xs.length c, .slice A' ys.length c'] w fun e w' => e = .returned (.bool (eqB xs ys)) ∧ Below w.heap.size w w' := by
  by_cases hl : xs.length = ys.length
  · have hl' : ((xs.length : Int) != (ys.length : Int)) = false := by simp [hl]
    have HL := Lib.hid hl
    have hge : xs.length ≤ ys.length := by omega
    have hle : ys.length ≤ xs.length := by omega
    clear hl
    go_enter Try.func47, Try.ntmps47
    go_wp2
    go_loopw [5] (fun i wr => ∃ k : Nat, k ≤ xs.length ∧ i = .int .i64 k ∧ xs.take k = ys.take k ∧ Below w.heap.size w wr) (fun i _ => xs.length - (intOf i).toNat)
    case atStart => exact ⟨0, Nat.zero_le _, rfl, rfl, Below.refl _ _⟩
    case round =>
      obtain ⟨k, hk, rfl, ht, hb⟩ := hrel
      have HT := Lib.hid ht
      clear ht hl'
      by_cases hlt : k < xs.length
      · obtain ⟨b, off, l, rfl, hbl, hl, h0, h1, h2⟩ := (hr.below hb).line hlt
        obtain ⟨b', off', l', rfl, hbl', hl', h0', h1', h2'⟩ := (hr'.below hb).line (show k < ys.length by omega)
        clear hr hr'
        have H := Lib.hid hl
        have H' := Lib.hid hl'
        clear hl hl'
        have hky : k < ys.length := by omega
        have hneq := fun (a b : Ln) (w : World) => line_neq a b w
        go_wp2_with fail
        go_quiet (fail)
        go_wp2
        · have he : (!eqL l l') = true := by assumption
          go_ret
          exact ⟨ret_bool (eqB_no (ne_of_get H.out H'.out (eqL_false.1 (by simpa using he)))).symm, below_drewN hb _⟩
        · have he : (!eqL l l') = false := by assumption
          go_roundw
          case rel =>
            have he' := eqL_iff.1 (by simpa using he)
            subst he'
            exact ⟨k + 1, by omega, by go_num, take_next HT.out H.out H'.out, below_drewN hb _⟩
          case measure => simp [intOf]; omega
      · go_wp2
        go_ret
        have e : k = xs.length := by omega
        have h := HT.out
        rw [List.take_of_length_le (by omega), List.take_of_length_le (by omega)] at h
        exact ⟨ret_bool (eqB_of h).symm, hb⟩
  · have hne : ((xs.length : Int) != (ys.length : Int)) = true := by simp; omega
    have HL := Lib.hid hl
    clear hl
    go_enter Try.func47, Try.ntmps47
    go_wp2
    go_ret
    exact ⟨ret_bool (eqB_no (fun h => HL.out (by rw [h]))).symm, Below.refl _ _⟩
theorem iSameJumps_ (xs ys : List Ln) (A A' : Option Addr) (c c' : Nat) (w : World) (hr : Rd w w.heap.size A (flat xs)) (hr' : Rd w w.heap.size A' (flat ys)) (hx : xs.length ≤ 9223372036854775807) (hy : ys.length ≤ 9223372036854775807) :
    Calls Try.prog 19 #[.slice A xs.length c, .slice A' ys.length c'] w fun e w' => e = .returned (.bool (eqB xs ys)) ∧ Below w.heap.size w w' := by
  by_cases hl : xs.length = ys.length
  · have hl' : ((xs.length : Int) != (ys.length : Int)) = false := by simp [hl]
    have HL := Lib.hid hl
    have hge : xs.length ≤ ys.length := by omega
    have hle : ys.length ≤ xs.length := by omega
    clear hl
    go_enter Try.func19, Try.ntmps19
    go_wp2
    go_loopw [14] (fun i wr => ∃ k : Nat, k ≤ xs.length ∧ i = .int .i64 k ∧ xs.take k = ys.take k ∧ Below w.heap.size w wr) (fun i _ => xs.length - (intOf i).toNat)
    case atStart => exact ⟨0, Nat.zero_le _, rfl, rfl, Below.refl _ _⟩
    case round =>
      obtain ⟨k, hk, rfl, ht, hb⟩ := hrel
      have HT := Lib.hid ht
      clear ht hl'
      by_cases hlt : k < xs.length
      · obtain ⟨b, off, l, rfl, hbl, hl, h0, h1, h2⟩ := (hr.below hb).line hlt
        obtain ⟨b', off', l', rfl, hbl', hl', h0', h1', h2'⟩ := (hr'.below hb).line (show k < ys.length by omega)
        clear hr hr'
        have H := Lib.hid hl
        have H' := Lib.hid hl'
        clear hl hl'
        have hky : k < ys.length := by omega
        have hbz : b < wr.heap.size := by have := hb.size; omega
        have hbz' : b' < wr.heap.size := by have := hb.size; omega
        have hneq := fun (a b : Ln) (w : World) => line_neq a b w
        go_wp2_with fail
        go_quiet (fail)
        go_wp2
        · have he : (!eqL l l') = true := by assumption
          go_ret
          exact ⟨ret_bool (eqB_no (ne_of_get H.out H'.out (eqL_false.1 (by simpa using he)))).symm, below_drewN (hb.alloc hb.size _) _⟩
        · have he : (!eqL l l') = false := by assumption
          go_roundw
          case rel =>
            have he' := eqL_iff.1 (by simpa using he)
            subst he'
            exact ⟨k + 1, by omega, by go_num, take_next HT.out H.out H'.out, below_drewN (hb.alloc hb.size _) _⟩
          case measure => simp [intOf]; omega
      · go_wp2
        go_ret
        have e : k = xs.length := by omega
        have h := HT.out
        rw [List.take_of_length_le (by omega), List.take_of_length_le (by omega)] at h
        exact ⟨ret_bool (eqB_of h).symm, hb⟩
  · have hne : ((xs.length : Int) != (ys.length : Int)) = true := by simp; omega
    have HL := Lib.hid hl
    clear hl
    go_enter Try.func19, Try.ntmps19
    go_wp2
    go_ret
    exact ⟨ret_bool (eqB_no (fun h => HL.out (by rw [h]))).symm, Below.refl _ _⟩
theorem sCanSwap_ (ls : List Ln) (A : Option Addr) (c : Nat) (k : Int) (hk : I64 k) (w : World) (hr : Rd w w.heap.size A (flat ls)) (hn : ls.length ≤ 9223372036854775807) :
    Calls Try.prog 97 #[.slice A ls.length c, .int .i64 k] w fun e w' => e = .returned (.bool (canSwapB ls k)) ∧ Below w.heap.size w w' := by
  have hc : ∀ (a : Addr) (p : Regrown) (W : World), a.block < W.heap.size → (grow (redrawn W p.d) p.os).cell? a = W.cell? a := fun a p W h => (below_regrown W p.d p.os).cell h
  have l0 : (0 : Int) ≤ (ls.length : Int) := by omega
  by_cases h : 0 ≤ k ∧ k + 1 < (ls.length : Int)
  · obtain ⟨j, rfl⟩ := Int.eq_ofNat_of_zero_le h.1
    have hj : j + 1 < ls.length := by omega
    have hin : inB j 0 ((ls.length : Int) - 2) = true := by rw [inB_iff]; omega
    obtain ⟨b, off, l, rfl, hbl, hl, h0, h1, h2⟩ := hr.line (show j < ls.length by omega)
    obtain ⟨b', off', l', hA, hbl', hl', h0', h1', h2'⟩ := hr.line hj
    injection hA with hA
    injection hA with e1 e2
    subst e1 e2
    have H := Lib.hid (canSwap_yes hj hl hl')
    have i0 : (0 : Int) ≤ (j : Int) := by omega
    have i1 : (j : Int) + 1 < (ls.length : Int) := by omega
    have i2 : (j : Int) < (ls.length : Int) := by omega
    clear hl hl' h hr
    go_enter Try.func97, Try.ntmps97
    go_wp2_with fail
    refine wp_region_quiet_below (by kernel_rfl) (by kernel_rfl) ?_
    repeat (go_big_quiet_step (first | (go_at_call 111; exact rg_same (is_ (l01In_ _ _ _ _) hin)) | (go_at_call 18; exact Calls.regrown_of (sDoDisturb_ l l' _))))
    refine wpQuiet_nil ?_
    intro w1 hw1
    obtain ⟨p1, hp1⟩ := hw1
    have hb1 := of_rg hp1
    clear hp1 p1 hc
    go_wp2
    go_ret
    exact ⟨ret_bool H.out.symm, hb1⟩
  · have H := Lib.hid (canSwap_no h)
    have hin : inB k 0 ((ls.length : Int) - 2) = false := by rw [Bool.eq_false_iff]; intro hh; rw [inB_iff] at hh; omega
    clear h
    go_enter Try.func97, Try.ntmps97
    go_wp2_with fail
    refine wp_region_quiet_below (by kernel_rfl) (by kernel_rfl) ?_
    repeat (go_big_quiet_step (first | (go_at_call 111; exact rg_same (is_ (l01In_ _ _ _ _) hin))))
    refine wpQuiet_nil ?_
    intro w1 hw1
    obtain ⟨p1, hp1⟩ := hw1
    have hb1 := of_rg hp1
    clear hp1 p1 hc
    go_wp2
    go_ret
    exact ⟨ret_bool H.out.symm, hb1⟩
theorem iCanSwap_ (ls : List Ln) (A : Option Addr) (c : Nat) (k : Int) (hk : I64 k) (w : World) (hr : Rd w w.heap.size A (flat ls)) (hn : ls.length ≤ 9223372036854775807) :
    Calls Try.prog 25 #[.slice A ls.length c, .int .i64 k] w fun e w' => e = .returned (.bool (canSwapB ls k)) ∧ Below w.heap.size w w' := by
  have hc : ∀ (a : Addr) (p : Regrown) (W : World), a.block < W.heap.size → (grow (redrawn W p.d) p.os).cell? a = W.cell? a := fun a p W h => (below_regrown W p.d p.os).cell h
  have l0 : (0 : Int) ≤ (ls.length : Int) := by omega
  by_cases h0k : 0 ≤ k
  · obtain ⟨j, rfl⟩ := Int.eq_ofNat_of_zero_le h0k
    by_cases hj : j + 1 < ls.length
    · obtain ⟨b, off, l, rfl, hbl, hl, h0, h1, h2⟩ := hr.line (show j < ls.length by omega)
      obtain ⟨b', off', l', hA, hbl', hl', h0', h1', h2'⟩ := hr.line hj
      injection hA with hA
      injection hA with e1 e2
      subst e1 e2
      have H := Lib.hid (canSwap_yes hj hl hl')
      have i0 : (0 : Int) ≤ (j : Int) := by omega
      have i1 : (j : Int) + 1 < (ls.length : Int) := by omega
      have i2 : (j : Int) < (ls.length : Int) := by omega
      have i3 : (j : Int) < (ls.length : Int) - 1 := by omega
      clear hl hl' hr
      go_enter Try.func25, Try.ntmps25
      go_wp2_with fail
      refine wp_region_quiet_below (by kernel_rfl) (by kernel_rfl) ?_
      repeat (go_big_quiet_step (first | (go_at_call 26; exact Calls.regrown_of (iDoDisturb_ l l' _))))
      refine wpQuiet_nil ?_
      intro w1 hw1
      obtain ⟨p1, hp1⟩ := hw1
      have hb1 := of_rg hp1
      clear hp1 p1 hc
      go_wp2
      go_ret
      exact ⟨ret_bool H.out.symm, hb1⟩
    · have H := Lib.hid (canSwap_no (ls := ls) (k := (j : Int)) (by omega))
      have d1 : decide ((j : Int) < (ls.length : Int) - 1) = false := by simp; omega
      have i0 : (0 : Int) ≤ (j : Int) := by omega
      go_enter Try.func25, Try.ntmps25
      go_wp2_with fail
      refine wp_region_quiet_below (by kernel_rfl) (by kernel_rfl) ?_
      repeat (go_big_quiet_step (fail))
      refine wpQuiet_nil ?_
      intro w1 hw1
      obtain ⟨p1, hp1⟩ := hw1
      have hb1 := of_rg hp1
      clear hp1 p1 hc
      go_wp2
      go_ret
      exact ⟨ret_bool H.out.symm, hb1⟩
  · have H := Lib.hid (canSwap_no (ls := ls) (k := k) (by omega))
    have d1 : decide (0 ≤ k) = false := by simp; omega
    go_enter Try.func25, Try.ntmps25
    go_wp2_with fail
    refine wp_region_quiet_below (by kernel_rfl) (by kernel_rfl) ?_
    repeat (go_big_quiet_step (fail))
    refine wpQuiet_nil ?_
    intro w1 hw1
    obtain ⟨p1, hp1⟩ := hw1
    have hb1 := of_rg hp1
    clear hp1 p1 hc
    go_wp2
    go_ret
    exact ⟨ret_bool H.out.symm, hb1⟩
end Go.Proofs.Ytbcgokpamhgabaa

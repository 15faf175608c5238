/- The contracts of the helpers of the laws: slices of numbers; marks. -/
import Derived.Test.YtbljoknlphaimaaChecked
import Derived.Test.YtbljoknlphaimaaMem
import Derived.Tactics
import Derived.Tactics2
import Derived.WalkKit
import Derived.WalkSpells
import Derived.WalkLawsBesides
import Derived.Deep.QuietTactic
import Derived.BigQuiet
import Derived.BigGuardPart
import Derived.Lib.QuietBelow
import Derived.OwnWalk
import Derived.KernelRfl
import Derived.Test.YtbljoknlphaimaaHelp
set_option linter.unusedVariables false
namespace Go.Proofs.Ytbljoknlphaimaa
open Go.RowKit Go.Sort

theorem eqIntS_ (xs ys : List Int) (A A' : Option Addr) (c c' : Nat) (w : World) (hr : Rd w w.heap.size A (ints xs)) (hr' : Rd w w.heap.size A' (ints ys)) (hx : xs.length ≤ 9223372036854775807) (hy : ys.length ≤ 9223372036854775807) :
    Calls Try.prog 28 #[.slice A xs.length c, .slice A' ys.length c'] w fun e w' => e = .returned (.bool (eqB xs ys)) ∧ Below w.heap.size w w' := by
  by_cases hl : xs.length = ys.length
  · have hl' : ((xs.length : Int) != (ys.length : Int)) = false := by simp [hl]
    have HL := Lib.hid hl
    have hge : xs.length ≤ ys.length := by omega
    have hle : ys.length ≤ xs.length := by omega
    clear hl
    go_enter Try.func28, Try.ntmps28
    go_wp2
    go_loopw [5] (fun i wr => ∃ k : Nat, k ≤ xs.length ∧ i = .int .i64 k ∧ xs.take k = ys.take k ∧ Below w.heap.size w wr) (fun i _ => xs.length - (intOf i).toNat)
    case atStart => exact ⟨0, Nat.zero_le _, rfl, rfl, Below.refl _ _⟩
    case round =>
      obtain ⟨k, hk, rfl, ht, hb⟩ := hrel
      have HT := Lib.hid ht
      clear ht hl'
      by_cases hlt : k < xs.length
      · obtain ⟨b, off, l, rfl, hbl, hl, h0⟩ := (hr.below hb).int hlt
        obtain ⟨b', off', l', rfl, hbl', hl', h0'⟩ := (hr'.below hb).int (show k < ys.length by omega)
        clear hr hr'
        have H := Lib.hid hl
        have H' := Lib.hid hl'
        clear hl hl'
        have hky : k < ys.length := by omega
        go_wp2_with fail
        go_quiet (fail)
        rcases Bool.eq_false_or_eq_true (l != l') with he | he
        · go_wp2
          go_ret
          exact ⟨ret_bool (eqB_no (ne_of_get H.out H'.out (by simpa using he))).symm, below_drewN hb _⟩
        · go_wp2
          go_roundw
          case rel =>
            have he' : l = l' := by simpa using he
            subst he'
            exact ⟨k + 1, by omega, by go_num, take_next HT.out H.out H'.out, below_drewN hb _⟩
          case measure => simp [intOf]; omega
      · go_wp2
        go_ret
        have e : k = xs.length := by omega
        have h := HT.out
        rw [List.take_of_length_le (by omega), List.take_of_length_le (by omega)] at h
        exact ⟨ret_bool (eqB_of h).symm, hb⟩
  · have hne : ((xs.length : Int) != (ys.length : Int)) = true := by simp; omega
    have HL := Lib.hid hl
    clear hl
    go_enter Try.func28, Try.ntmps28
    go_wp2
    go_ret
    exact ⟨ret_bool (eqB_no (fun h => HL.out (by rw [h]))).symm, Below.refl _ _⟩
theorem markIntS_ (base : Nat) (xs : List Int) (A : Option Addr) (n c : Nat) (k : Nat) (w : World) (hown : w.ownsRow base 3 1 (.slice A n c) n (ints xs)) (hn : n ≤ 4194304) (hk : k ≤ 4194304) :
    Calls Try.prog 29 #[.slice A n c, .int .i64 k] w fun e w' => e = .returned (.int .i64 ((k + n : Nat) : Int)) ∧ w'.ownsRow base 3 1 (.slice A n c) n (ints (marks k n)) ∧ w.grownBy w' (Value.ownBlock (.slice A n c)) := by
  have hl : xs.length = n := by have := hown.1; rw [ints_length] at this; omega
  go_enter Try.func29, Try.ntmps29
  go_wp2
  go_loopw [1, 5] (fun m i wr => ∃ j : Nat, j ≤ n ∧ i = .int .i64 j ∧ m = .int .i64 ((k + j : Nat) : Int) ∧ wr.ownsRow base 3 1 (.slice A n c) n (ints ((marks k n).take j ++ xs.drop j)) ∧ w.grownBy wr (Value.ownBlock (.slice A n c))) (fun _ i _ => n - (intOf i).toNat)
  case atStart => exact ⟨0, Nat.zero_le _, rfl, rfl, by simpa using hown, World.grownBy.refl _ _⟩
  case round =>
    obtain ⟨j, hj, rfl, rfl, ho, hg⟩ := hrel
    by_cases hlt : j < n
    · obtain ⟨g, cap, hv, _, hgl⟩ := ho.form (by omega)
      injection hv with hv1 hv2 hv3
      subst hv1 hv3
      obtain ⟨y, hy, c0, f0⟩ := own_at1 ho hlt
      have HL := Lib.hid hl
      have HO := Lib.hid ho
      have HG := Lib.hid hg
      have HS := Lib.hid (show (wr.setCell ⟨g, j, none⟩ (.int .i64 ((k : Int) + j))).ownsRow base 3 1 (.slice (some ⟨g, 0, none⟩) n c) n (ints ((marks k n).take (j + 1) ++ xs.drop (j + 1))) by rw [← mark_set hl hlt]; exact own_set1 ho j _)
      have HW := Lib.hid (show w.grownBy (wr.setCell ⟨g, j, none⟩ (.int .i64 ((k : Int) + j))) (Value.ownBlock (.slice (some ⟨g, 0, none⟩) n c)) from hg.trans (ho.stored j _).2)
      clear hl hy ho hg
      go_wp2
      go_roundw
      case rel => exact ⟨j + 1, by omega, by go_num, by go_num, HS.out, HW.out⟩
      case measure => simp [intOf]; omega
    · go_wp2
      go_ret
      have e : j = n := by omega
      subst e
      have h1 : (marks k j).take j ++ xs.drop j = marks k j := by rw [List.take_of_length_le (by rw [marks_length]; omega), List.drop_eq_nil_of_le (by omega), List.append_nil]
      rw [h1] at ho
      exact ⟨rfl, ho, hg⟩
theorem heldIntS_ (A : Option Addr) (n c : Nat) (k : Nat) (w : World) (hr : Rd w w.heap.size A (ints (marks k n))) (hn : n ≤ 4194304) (hk : k ≤ 4194304) :
    Calls Try.prog 30 #[.slice A n c, .int .i64 k] w fun e w' => e = .returned (.int .i64 ((k + n : Nat) : Int)) ∧ w = w' := by
  have hl := marks_length k n
  have HM := Lib.hid (marks_get (k : Int) n)
  have HL := Lib.hid hl
  clear hl
  go_enter Try.func30, Try.ntmps30
  go_wp2
  go_loop [1, 5] (fun m i => ∃ j : Nat, j ≤ n ∧ i = .int .i64 j ∧ m = .int .i64 ((k + j : Nat) : Int)) (fun _ i => n - (intOf i).toNat)
  case atStart => exact ⟨0, Nat.zero_le _, rfl, rfl⟩
  case round =>
    obtain ⟨j, hj, rfl, rfl⟩ := hrel
    by_cases hlt : j < n
    · obtain ⟨b, off, x, rfl, hbl, hx, h0⟩ := hr.int (k := j) (by rw [HL.out]; exact hlt)
      have hx' := HM.out j hlt
      rw [hx] at hx'
      injection hx' with hx'
      subst hx'
      clear hr hx
      go_wp2
      go_round
      case rel => exact ⟨j + 1, by omega, by go_num, by go_num⟩
      case measure => simp [intOf]; omega
    · go_wp2
      go_ret
      have e : j = n := by omega
      subst e
      exact ⟨rfl, rfl⟩
end Go.Proofs.Ytbljoknlphaimaa

/- The contracts of CountSweeps, IsOneSweep, SameJumps and CanSwap. -/
import Derived.Test.YtliljgmpdfdakaaChecked
import Derived.Test.YtliljgmpdfdakaaMem
import Derived.Tactics
import Derived.Tactics2
import Derived.WalkKit
import Derived.WalkSpells
import Derived.WalkLawsBesides
import Derived.Deep.QuietTactic
import Derived.BigQuiet
import Derived.BigGuardPart
import Derived.Lib.QuietBelow
import Derived.OwnWalk
import Derived.KernelRfl
import Derived.Test.YtliljgmpdfdakaaOrdA
import Derived.Test.YtliljgmpdfdakaaStruct
import Derived.Test.YtliljgmpdfdakaaOpen
set_option linter.unusedVariables false
namespace Go.Proofs.Ytliljgmpdfdakaa
open Go.RowKit Go.Sort

theorem sSameJumps_ (xs ys : List Ln) (A A' : Option Addr) (c c' : Nat) (w : World) (hr : Rd w w.heap.size A (flat xs)) (hr' : Rd w w.heap.size A' (flat ys)) (hx : xs.length ≤ 9223372036854775807) (hy : ys.length ≤ 9223372036854775807) :
    Calls Try.prog 39 #[.slice A xs.length c, .slice A' ys.length c'] w fun e w' => e = .returned (.bool (eqB xs ys)) ∧ Below w.heap.size w w' := by
  by_cases hl : xs.length = ys.length
  · have hl' : ((xs.length : Int) != (ys.length : Int)) = false := by simp [hl]
    have HL := Lib.hid hl
    have hge : xs.length ≤ ys.length := by omega
    have hle : ys.length ≤ xs.length := by omega
    clear hl
    go_enter Try.func39, Try.ntmps39
    go_wp2
    go_loopw [5] (fun i wr => ∃ k : Nat, k ≤ xs.length ∧ i = .int .i64 k ∧ xs.take k = ys.take k ∧ Below w.heap.size w wr) (fun i _ => xs.length - (intOf i).toNat)
    case atStart => exact ⟨0, Nat.zero_le _, rfl, rfl, Below.refl _ _⟩
    case round =>
      obtain ⟨k, hk, rfl, ht, hb⟩ := hrel
      have HT := Lib.hid ht
      clear ht hl'
      by_cases hlt : k < xs.length
      · obtain ⟨b, off, l, rfl, hbl, hl, h0, h1, h2⟩ := (hr.below hb).line hlt
        obtain ⟨b', off', l', rfl, hbl', hl', h0', h1', h2'⟩ := (hr'.below hb).line (show k < ys.length by omega)
        clear hr hr'
        have H := Lib.hid hl
        have H' := Lib.hid hl'
        clear hl hl'
        have hky : k < ys.length := by omega
        have hneq := fun (a b : Ln) (w : World) => line_neq a b w
        go_wp2_with fail
        go_quiet (fail)
        go_wp2
        · have he : (!eqL l l') = true := by assumption
          go_ret
          exact ⟨ret_bool (eqB_no (ne_of_get H.out H'.out (eqL_false.1 (by simpa using he)))).symm, below_drewN hb _⟩
        · have he : (!eqL l l') = false := by assumption
          go_roundw
          case rel =>
            have he' := eqL_iff.1 (by simpa using he)
            subst he'
            exact ⟨k + 1, by omega, by go_num, take_next HT.out H.out H'.out, below_drewN hb _⟩
          case measure => simp [intOf]; omega
      · go_wp2
        go_ret
        have e : k = xs.length := by omega
        have h := HT.out
        rw [List.take_of_length_le (by omega), List.take_of_length_le (by omega)] at h
        exact ⟨ret_bool (eqB_of h).symm, hb⟩
  · have hne : ((xs.length : Int) != (ys.length : Int)) = true := by simp; omega
    have HL := Lib.hid hl
    clear hl
    go_enter Try.func39, Try.ntmps39
    go_wp2
    go_ret
    exact ⟨ret_bool (eqB_no (fun h => HL.out (by rw [h]))).symm, Below.refl _ _⟩
end Go.Proofs.Ytliljgmpdfdakaa

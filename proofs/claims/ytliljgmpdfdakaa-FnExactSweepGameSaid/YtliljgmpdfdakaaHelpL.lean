/- The contracts of the helpers of the laws: marks in slices of lines. -/
import Derived.Test.YtliljgmpdfdakaaChecked
import Derived.Test.YtliljgmpdfdakaaMem
import Derived.Tactics
import Derived.Tactics2
import Derived.WalkKit
import Derived.WalkSpells
import Derived.WalkLawsBesides
import Derived.Deep.QuietTactic
import Derived.BigQuiet
import Derived.BigGuardPart
import Derived.Lib.QuietBelow
import Derived.OwnWalk
import Derived.KernelRfl
import Derived.Test.YtliljgmpdfdakaaHelp
set_option linter.unusedVariables false
namespace Go.Proofs.Ytliljgmpdfdakaa
open Go.RowKit Go.Sort

theorem markLineS_ (base : Nat) (xs : List Ln) (A : Option Addr) (n c : Nat) (k : Nat) (w : World) (hown : w.ownsRow base 51 3 (.slice A n c) n (flat xs)) (hn : n ≤ 4194304) (hk : k ≤ 16777216) :
    Calls Try.prog 23 #[.slice A n c, .int .i64 k] w fun e w' => e = .returned (.int .i64 ((k + 3 * n : Nat) : Int)) ∧ w'.ownsRow base 51 3 (.slice A n c) n (flat (marks3 k n)) ∧ w.grownBy w' (Value.ownBlock (.slice A n c)) := by
  have hl : xs.length = n := by have := hown.1; rw [flat_length] at this; omega
  go_enter Try.func23, Try.ntmps23
  go_wp2
  go_loopw [1, 5] (fun m i wr => ∃ j : Nat, j ≤ n ∧ i = .int .i64 j ∧ m = .int .i64 ((k : Int) + 3 * j) ∧ wr.ownsRow base 51 3 (.slice A n c) n (flat ((marks3 k n).take j ++ xs.drop j)) ∧ w.grownBy wr (Value.ownBlock (.slice A n c))) (fun _ i _ => n - (intOf i).toNat)
  case atStart => exact ⟨0, Nat.zero_le _, rfl, by simp, by simpa using hown, World.grownBy.refl _ _⟩
  case round =>
    obtain ⟨j, hj, rfl, rfl, ho, hg⟩ := hrel
    by_cases hlt : j < n
    · obtain ⟨g, cap, hv, _, hgl⟩ := ho.form (by omega)
      injection hv with hv1 hv2 hv3
      subst hv1 hv3
      obtain ⟨y, hy, c0, c1, c2, f0, f1, f2⟩ := own_at3 ho hlt
      have HL := Lib.hid hl
      have HS := Lib.hid (show (((wr.setCell ⟨g, j * 3, none⟩ (.int .i64 ((k : Int) + 3 * j))).setCell ⟨g, j * 3 + 1, none⟩ (.int .i64 ((k : Int) + 3 * j + 1))).setCell ⟨g, j * 3 + 2, none⟩ (.int .i64 ((k : Int) + 3 * j + 2))).ownsRow base 51 3 (.slice (some ⟨g, 0, none⟩) n c) n (flat ((marks3 k n).take (j + 1) ++ xs.drop (j + 1))) by rw [← mark3_set hl hlt]; exact own_set3 ho j ⟨_, _, _⟩)
      have HW := Lib.hid (show w.grownBy (((wr.setCell ⟨g, j * 3, none⟩ (.int .i64 ((k : Int) + 3 * j))).setCell ⟨g, j * 3 + 1, none⟩ (.int .i64 ((k : Int) + 3 * j + 1))).setCell ⟨g, j * 3 + 2, none⟩ (.int .i64 ((k : Int) + 3 * j + 2))) (Value.ownBlock (.slice (some ⟨g, 0, none⟩) n c)) from
        ((hg.trans (ho.stored (j * 3) _).2).trans ((ho.stored (j * 3) _).1.stored (j * 3 + 1) _).2).trans (((ho.stored (j * 3) _).1.stored (j * 3 + 1) _).1.stored (j * 3 + 2) _).2)
      have e2 : (k : Int) + 3 * j + 1 + 1 = (k : Int) + 3 * j + 2 := by omega
      have E2 := Lib.hid e2
      clear hl hy ho hg e2
      go_wp2
      go_roundw
      case rel => exact ⟨j + 1, by omega, by go_num, by go_num, by first | exact HS.out | (rw [E2.out]; exact HS.out), by first | exact HW.out | (rw [E2.out]; exact HW.out)⟩
      case measure => simp [intOf]; omega
    · go_wp2
      go_ret
      have e : j = n := by omega
      subst e
      have h1 : (marks3 k j).take j ++ xs.drop j = marks3 k j := by rw [List.take_of_length_le (by rw [marks3_length]; omega), List.drop_eq_nil_of_le (by omega), List.append_nil]
      rw [h1] at ho
      exact ⟨ret_int (by simp), ho, hg⟩
theorem heldLineS_ (A : Option Addr) (n c : Nat) (k : Nat) (w : World) (hr : Rd w w.heap.size A (flat (marks3 k n))) (hn : n ≤ 4194304) (hk : k ≤ 16777216) :
    Calls Try.prog 24 #[.slice A n c, .int .i64 k] w fun e w' => e = .returned (.int .i64 ((k + 3 * n : Nat) : Int)) ∧ w = w' := by
  have hl := marks3_length k n
  have HM := Lib.hid (marks3_get (k : Int) n)
  have HL := Lib.hid hl
  clear hl
  go_enter Try.func24, Try.ntmps24
  go_wp2
  go_loop [1, 5] (fun m i => ∃ j : Nat, j ≤ n ∧ i = .int .i64 j ∧ m = .int .i64 ((k : Int) + 3 * j)) (fun _ i => n - (intOf i).toNat)
  case atStart => exact ⟨0, Nat.zero_le _, rfl, by simp⟩
  case round =>
    obtain ⟨j, hj, rfl, rfl⟩ := hrel
    by_cases hlt : j < n
    · obtain ⟨b, off, l, rfl, hbl, hx, h0, h1, h2⟩ := hr.line (k := j) (by rw [HL.out]; exact hlt)
      have hx' := HM.out j hlt
      rw [hx] at hx'
      injection hx' with hx'
      subst hx'
      clear hr hx
      simp only at h0 h1 h2
      have h2' : w.cell? ⟨b, off + j * 3 + 2, none⟩ = some (.int .i64 ((k : Int) + 3 * j + 1 + 1)) := by rw [h2]; simp; omega
      clear h2
      go_wp2
      go_round
      case rel => exact ⟨j + 1, by omega, by go_num, by go_num⟩
      case measure => simp [intOf]; omega
    · go_wp2
      go_ret
      have e : j = n := by omega
      subst e
      exact ⟨ret_int (by simp), rfl⟩
end Go.Proofs.Ytliljgmpdfdakaa

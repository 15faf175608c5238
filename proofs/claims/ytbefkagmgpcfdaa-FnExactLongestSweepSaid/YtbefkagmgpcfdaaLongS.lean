/- The contracts of LongestSweep. -/
import Derived.Test.YtbefkagmgpcfdaaChecked
import Derived.Test.YtbefkagmgpcfdaaMem
import Derived.Tactics
import Derived.Tactics2
import Derived.WalkKit
import Derived.WalkSpells
import Derived.WalkLawsBesides
import Derived.Deep.QuietTactic
import Derived.BigQuiet
import Derived.BigGuardPart
import Derived.Lib.QuietBelow
import Derived.OwnWalk
import Derived.KernelRfl
import Derived.Test.YtbefkagmgpcfdaaSplitS
set_option linter.unusedVariables false
set_option maxRecDepth 20000
namespace Go.Proofs.Ytbefkagmgpcfdaa
open Go.RowKit Go.Sort

set_option maxHeartbeats 1000000 in
theorem iLongestSweep_ (ls : List Ln) (A : Option Addr) (c : Nat) (w : World) (hr : Rd w w.heap.size A (flat ls)) (hn : ls.length ≤ 1048576) :
    Calls Try.prog 28 #[.slice A ls.length c] w fun e w' => e = .returned (.int .i64 (maxLen2 (splitL ls ls.length) (splitL ls ls.length).length)) ∧ Below w.heap.size w w' := by
  go_enter Try.func28, Try.ntmps28
  go_wp2_with fail
  refine (iSplitSweeps_ ls A c _ hr hn).mono ?_
  rintro e w1 ⟨A1, c1, vs, rfl, hg, hb1⟩
  have hf := splitL_facts ls ls.length (Nat.le_refl _)
  have HA := Lib.hid hf.2.1
  have hfl := full_len hf.1
  have hml := fun k => maxLen2_le (rs := splitL ls ls.length) k
  rw [HA.out] at hfl hml
  have HML := Lib.hid hml
  have HG := Lib.hid hg
  obtain ⟨rr, hrr⟩ : ∃ x, splitL ls ls.length = x := ⟨_, rfl⟩
  rw [hrr] at HG hfl HML HA ⊢
  have HRR := Lib.hid hrr
  clear hf hml hg hrr
  go_wp2_with fail
  go_loop [3, 9] (fun n i => ∃ k : Nat, k ≤ rr.length ∧ i = .int .i64 k ∧ n = .int .i64 (maxLen2 rr k)) (fun _ i => rr.length - (intOf i).toNat)
  case atStart => exact ⟨0, Nat.zero_le _, rfl, rfl⟩
  case round =>
    obtain ⟨k, hk, rfl, rfl⟩ := hrel
    have hmk := HML.out k
    by_cases hlt : k < rr.length
    · obtain ⟨g, Ai, ci, r, rfl, hgz, hr2, hv2, ho2, hcc, hff⟩ := HG.out.row hlt
      have hra := allN_mem (List.mem_of_getElem? hr2)
      rw [HA.out] at hra
      have HM := Lib.hid (maxLen2_next hr2)
      have k0 : (0 : Int) ≤ (k : Int) := by omega
      have k1 : (k : Int) < (rr.length : Int) := by omega
      generalize maxLen2 rr k = mk at HM hmk ⊢
      clear hr2 hv2 ho2 hff
      go_wp2
      all_goals
        go_round
        case rel => exact ⟨k + 1, by omega, by go_num, by rw [HM.out]; go_num⟩
        case measure => simp [intOf]; omega
    · have e : k = rr.length := by omega
      subst e
      go_wp2
      go_ret
      exact ⟨by rw [HRR.out]; rfl, hb1⟩
set_option maxHeartbeats 1000000 in
theorem sLongestSweep_ (ls : List Ln) (A : Option Addr) (c : Nat) (w : World) (hr : Rd w w.heap.size A (flat ls)) (hn : ls.length ≤ 1048576) :
    Calls Try.prog 26 #[.slice A ls.length c] w fun e w' => e = .returned (.int .i64 (maxLen2 (splitL ls ls.length) (splitL ls ls.length).length)) ∧ Below w.heap.size w w' := by
  go_enter Try.func26, Try.ntmps26
  go_wp2_with fail
  refine (sSplitSweeps_ ls A c _ hr hn).mono ?_
  rintro e w1 ⟨A1, c1, vs, rfl, hg, hb1⟩
  have hf := splitL_facts ls ls.length (Nat.le_refl _)
  have HA := Lib.hid hf.2.1
  have hfl := full_len hf.1
  have hml := fun k => maxLen2_le (rs := splitL ls ls.length) k
  rw [HA.out] at hfl hml
  have HML := Lib.hid hml
  have HG := Lib.hid hg
  obtain ⟨rr, hrr⟩ : ∃ x, splitL ls ls.length = x := ⟨_, rfl⟩
  rw [hrr] at HG hfl HML HA ⊢
  have HRR := Lib.hid hrr
  clear hf hml hg hrr
  go_wp2_with fail
  go_loop [4, 5] (fun n i => ∃ k : Nat, k ≤ rr.length ∧ i = .int .i64 k ∧ n = .int .i64 (maxLen2 rr k)) (fun _ i => rr.length - (intOf i).toNat)
  case atStart => exact ⟨0, Nat.zero_le _, rfl, rfl⟩
  case round =>
    obtain ⟨k, hk, rfl, rfl⟩ := hrel
    have hmk := HML.out k
    by_cases hlt : k < rr.length
    · obtain ⟨g, Ai, ci, r, rfl, hgz, hr2, hv2, ho2, hcc, hff⟩ := HG.out.row hlt
      have hra := allN_mem (List.mem_of_getElem? hr2)
      rw [HA.out] at hra
      have HM := Lib.hid (maxLen2_next hr2)
      have k0 : (0 : Int) ≤ (k : Int) := by omega
      have k1 : (k : Int) < (rr.length : Int) := by omega
      generalize maxLen2 rr k = mk at HM hmk ⊢
      clear hr2 hv2 ho2 hff
      go_wp2
      all_goals
        go_round
        case rel => exact ⟨k + 1, by omega, by go_num, by rw [HM.out]; go_num⟩
        case measure => simp [intOf]; omega
    · have e : k = rr.length := by omega
      subst e
      go_wp2
      go_ret
      exact ⟨by rw [HRR.out]; rfl, hb1⟩
end Go.Proofs.Ytbefkagmgpcfdaa

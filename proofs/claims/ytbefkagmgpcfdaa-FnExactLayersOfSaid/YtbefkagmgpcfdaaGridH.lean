/- The contracts of the helpers of the laws: rows of lines. -/
import Derived.Test.YtbefkagmgpcfdaaChecked
import Derived.Test.YtbefkagmgpcfdaaMem
import Derived.Tactics
import Derived.Tactics2
import Derived.WalkKit
import Derived.WalkSpells
import Derived.WalkLawsBesides
import Derived.Deep.QuietTactic
import Derived.BigQuiet
import Derived.BigGuardPart
import Derived.Lib.QuietBelow
import Derived.OwnWalk
import Derived.KernelRfl
import Derived.Test.YtbefkagmgpcfdaaGridL
import Derived.Test.YtbefkagmgpcfdaaHelp
import Derived.Test.YtbefkagmgpcfdaaHelpL
set_option linter.unusedVariables false
namespace Go.Proofs.Ytbefkagmgpcfdaa
open Go.RowKit Go.Sort

set_option maxHeartbeats 1000000 in
theorem eqLineSS_ (rs : List (List Ln)) (A A' : Option Addr) (c c' b1 b2 : Nat) (vs vs' : List Value) (w : World) (g1 : Grid w b1 24 34 3 (.slice A rs.length c) vs (flats rs)) (g2 : Grid w b2 24 34 3 (.slice A' rs.length c') vs' (flats rs)) (hn : rs.length ≤ 4194304) (ha : allN rs ≤ 4194304) :
    Calls Try.prog 39 #[.slice A rs.length c, .slice A' rs.length c'] w fun e w' => e = .returned (.bool true) ∧ Below w.heap.size w w' := by
  go_enter Try.func39, Try.ntmps39
  go_wp2
  go_loopw [5] (fun i wr => ∃ k : Nat, k ≤ rs.length ∧ i = .int .i64 k ∧ Below w.heap.size w wr) (fun i _ => rs.length - (intOf i).toNat)
  case atStart => exact ⟨0, Nat.zero_le _, rfl, Below.refl _ _⟩
  case round =>
    obtain ⟨k, hk, rfl, hb⟩ := hrel
    by_cases hlt : k < rs.length
    · obtain ⟨g, Ai, ci, r, rfl, hg, hr, hv, ho, hc0, hf⟩ := (g1.next hb).row hlt
      obtain ⟨g', Ai', ci', r', rfl, hg', hr', hv', ho', hc0', hf'⟩ := (g2.next hb).row hlt
      have e : r' = r := by rw [hr] at hr'; injection hr' with h; exact h.symm
      subst e
      have HL := Lib.hid (show r'.length ≤ 9223372036854775807 from by have := allN_mem (List.mem_of_getElem? hr); omega)
      have k0 : (0 : Int) ≤ (k : Int) := by omega
      have k1 : (k : Int) < (rs.length : Int) := by omega
      have q0 := fun p : Regrown => cell_regrown hc0 p.d p.os
      have q1 := fun p : Regrown => cell_regrown hc0' p.d p.os
      have HR := Lib.hid (rd_of_own ho)
      have HR' := Lib.hid (rd_of_own ho')
      clear g1 g2 hr hr' hv hv' hf hf' ho ho'
      go_wp2_with fail
      refine wp_region_quiet_below (by kernel_rfl) (by kernel_rfl) ?_
      repeat (go_big_quiet_step (first | (go_at_call 29; exact Calls.regrown_of (is_ (eqLineS_n r' r' Ai Ai' _ _ ci ci' _ rfl rfl (HR.out.next (below_regrown _ _ _)) (HR'.out.next (below_regrown _ _ _)) HL.out HL.out) (eqB_refl _)))))
      refine wpQuiet_nil ?_
      intro w1 hw1
      obtain ⟨p1, hp1⟩ := hw1
      have hb1 := of_rg hp1
      clear hp1 p1
      have hw1 : Below w.heap.size w w1 := below_next hb hb1
      clear q0 q1
      go_wp2
      go_roundw
      case rel => exact ⟨k + 1, by omega, by go_num, hw1⟩
      case measure => simp [intOf]; omega
    · go_wp2
      go_ret
      exact ⟨rfl, hb⟩
set_option maxHeartbeats 1000000 in
theorem markLineSS_ (rs : List (List Ln)) (A : Option Addr) (c base k : Nat) (vs : List Value) (w : World) (h : Grid w base 24 34 3 (.slice A rs.length c) vs (flats rs)) (hB : base ≤ w.heap.size) (hn : rs.length ≤ 4194304) (ha : allN rs ≤ 4194304) (hk : k ≤ 4194304) :
    Calls Try.prog 40 #[.slice A rs.length c, .int .i64 k] w fun e w' => e = .returned (.int .i64 ((k + 3 * allN rs : Nat) : Int)) ∧ Grid w' base 24 34 3 (.slice A rs.length c) vs (flats (markRows k rs)) ∧ Below base w w' := by
  have H0 := Lib.hid h
  clear h
  go_enter Try.func40, Try.ntmps40
  go_wp2
  go_loopw [1, 5] (fun m i wr => ∃ j : Nat, j ≤ rs.length ∧ i = .int .i64 j ∧ m = .int .i64 ((k + 3 * allN (rs.take j) : Nat) : Int) ∧ Grid wr base 24 34 3 (.slice A rs.length c) vs (flats (marked k rs j)) ∧ Below base w wr) (fun _ i _ => rs.length - (intOf i).toNat)
  case atStart => exact ⟨0, Nat.zero_le _, rfl, by simp [allN], by simpa [marked] using H0.out, Below.refl _ _⟩
  case round =>
    obtain ⟨j, hj, rfl, rfl, hg, hb⟩ := hrel
    by_cases hlt : j < rs.length
    · obtain ⟨r, hr⟩ : ∃ r, rs[j]? = some r := ⟨_, List.getElem?_eq_getElem hlt⟩
      obtain ⟨g, Ai, ci, r', rfl, hgz, hr', hv, ho, hc0, hf⟩ := hg.row (i := j) (by rw [marked_len]; exact hlt)
      have e : r' = r := by rw [marked_at hr] at hr'; injection hr' with h; exact h.symm
      subst e
      have hra : r'.length ≤ allN rs := allN_mem (List.mem_of_getElem? hr)
      have htk := allN_take_le rs j
      have HT := Lib.hid (allN_take hr)
      have HM := Lib.hid (marked_next (k := k) hr)
      have HG := Lib.hid hg
      have HV := Lib.hid hv
      have HBO := Lib.hid (hg.over.2 _ (List.mem_of_getElem? hv))
      have k0 : (0 : Int) ≤ (j : Int) := by omega
      have k1 : (j : Int) < (rs.length : Int) := by omega
      have hsz := hb.size
      clear hr hr' hv hf hg
      obtain ⟨K, hK⟩ : ∃ K, k + 3 * allN (rs.take j) = K := ⟨_, rfl⟩
      have HK := Lib.hid hK
      have hK1 : K ≤ 16777216 := by omega
      rw [hK]
      clear hK htk
      go_wp2_with fail
      refine (markLineS_ base r' Ai r'.length ci K _ ho (by omega) hK1).mono ?_
      rintro e w2 ⟨rfl, own2, hg2⟩
      have HO2 := Lib.hid own2
      have HB2 := Lib.hid (hb.grown hg2 (by omega) (fun q hq => HBO.out q hq))
      have HG2 := Lib.hid (HG.out.turn HV.out hg2 HO2.out)
      clear own2 hg2 hb
      go_wp2
      go_roundw
      case rel => exact ⟨j + 1, by omega, by go_num, by rw [HT.out, ← HK.out]; simp; omega, by rw [← HM.out, flats_set]; have := HG2.out; rw [← HK.out] at this; simpa [markAt] using this, HB2.out⟩
      case measure => simp [intOf]; omega
    · have e : j = rs.length := by omega
      subst e
      rw [marked_end] at hg
      rw [List.take_length]
      have HG := Lib.hid hg
      clear hg
      go_wp2
      go_ret
      exact ⟨rfl, HG.out, hb⟩
set_option maxHeartbeats 1000000 in
theorem heldLineSS_ (rs : List (List Ln)) (A : Option Addr) (c base k : Nat) (vs : List Value) (w : World) (h : Grid w base 24 34 3 (.slice A rs.length c) vs (flats (markRows k rs))) (hn : rs.length ≤ 4194304) (ha : allN rs ≤ 4194304) (hk : k ≤ 4194304) :
    Calls Try.prog 41 #[.slice A rs.length c, .int .i64 k] w fun e w' => e = .returned (.int .i64 ((k + 3 * allN rs : Nat) : Int)) ∧ w = w' := by
  have H0 := Lib.hid h
  clear h
  go_enter Try.func41, Try.ntmps41
  go_wp2
  go_loop [1, 5] (fun m i => ∃ j : Nat, j ≤ rs.length ∧ i = .int .i64 j ∧ m = .int .i64 ((k + 3 * allN (rs.take j) : Nat) : Int)) (fun _ i => rs.length - (intOf i).toNat)
  case atStart => exact ⟨0, Nat.zero_le _, rfl, by simp [allN]⟩
  case round =>
    obtain ⟨j, hj, rfl, rfl⟩ := hrel
    by_cases hlt : j < rs.length
    · obtain ⟨r, hr⟩ : ∃ r, rs[j]? = some r := ⟨_, List.getElem?_eq_getElem hlt⟩
      obtain ⟨g, Ai, ci, r', rfl, hgz, hr', hv, ho, hc0, hf⟩ := H0.out.row (i := j) (by rw [markRows_len]; exact hlt)
      rw [markRows_get k hr] at hr'
      injection hr' with hr'
      have hrl : r'.length = r.length := by rw [← hr', marks3_length]
      have hra : r.length ≤ allN rs := allN_mem (List.mem_of_getElem? hr)
      have htk := allN_take_le rs j
      have HT := Lib.hid (allN_take hr)
      have k0 : (0 : Int) ≤ (j : Int) := by omega
      have k1 : (j : Int) < (rs.length : Int) := by omega
      rw [hrl] at hc0
      have HR := Lib.hid (rd_of_own ho)
      have HM := Lib.hid hr'
      clear hr hr' hv hf ho hrl
      obtain ⟨K, hK⟩ : ∃ K, k + 3 * allN (rs.take j) = K := ⟨_, rfl⟩
      have HK := Lib.hid hK
      have hK1 : K ≤ 16777216 := by omega
      rw [hK]
      clear hK htk
      go_wp2_with fail
      refine (heldLineS_ Ai r.length ci K _ (by have := HR.out; rw [← HM.out] at this; rw [← HK.out]; simpa [markAt] using this) (by omega) hK1).mono ?_
      rintro e w' ⟨rfl, rfl⟩
      go_wp2
      go_round
      case rel => exact ⟨j + 1, by omega, by go_num, by rw [HT.out, ← HK.out]; simp; omega⟩
      case measure => simp [intOf]; omega
    · have e : j = rs.length := by omega
      subst e
      rw [List.take_length]
      go_wp2
      go_ret
      exact ⟨rfl, rfl⟩
end Go.Proofs.Ytbefkagmgpcfdaa

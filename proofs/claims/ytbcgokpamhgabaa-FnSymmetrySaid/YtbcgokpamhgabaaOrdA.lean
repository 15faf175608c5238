/- The contracts of the functions on lists of jumps that hold no loop over layers or forms: DoDisturb, CompareJumps, CountSweeps, CanSwap, SameJumps. -/
import Derived.Test.YtbcgokpamhgabaaChecked
import Derived.Test.YtbcgokpamhgabaaMem
import Derived.Tactics
import Derived.Tactics2
import Derived.WalkKit
import Derived.WalkSpells
import Derived.WalkLawsBesides
import Derived.Deep.QuietTactic
import Derived.BigQuiet
import Derived.BigGuardPart
import Derived.Lib.QuietBelow
import Derived.OwnWalk
import Derived.KernelRfl
import Derived.Test.YtbcgokpamhgabaaHelp
import Derived.Test.YtbcgokpamhgabaaPlain
set_option linter.unusedVariables false
namespace Go.Proofs.Ytbcgokpamhgabaa
open Go.RowKit Go.Sort

theorem touches_ (l : Ln) (k : Int) (w : World) :
    Calls Try.prog 100 #[.agg #[.int .i64 l.f, .int .i64 l.o, .int .i64 l.t], .int .i64 k] w fun e w' => e = .returned (.bool (touchB l k)) ∧ Below w.heap.size w w' := by
  go_enter Try.func100, Try.ntmps100
  go_wp2
  all_goals
    go_ret
    refine ⟨?_, (Below.refl _ _).alloc (Nat.le_refl _) _⟩
    simp_all [touchB]
theorem iDoDisturb_ (a c : Ln) (w : World) :
    Calls Try.prog 26 #[.agg #[.int .i64 a.f, .int .i64 a.o, .int .i64 a.t], .agg #[.int .i64 c.f, .int .i64 c.o, .int .i64 c.t]] w fun e w' => e = .returned (.bool (disturbB a c)) ∧ Below w.heap.size w w' := by
  have b0 := (((Below.refl w.heap.size w).alloc (Nat.le_refl _) (.cells #[.int .i64 a.f, .int .i64 a.o, .int .i64 a.t] 34)).alloc (by simp) (.cells #[.int .i64 c.f, .int .i64 c.o, .int .i64 c.t] 34))
  go_enter Try.func26, Try.ntmps26
  go_wp2_with (go_at_call 100; refine (touches_ c _ _).mono ?_; rintro e w' ⟨rfl, hb⟩; obtain ⟨hc, hf⟩ := bcell hb; have hz1 : w.heap.size + 1 < w'.heap.size := (by have := hb.size; (try simp at this); omega); have hz0 : w.heap.size < w'.heap.size := (by omega); have hw : Below w.heap.size w w' := below_step (by assumption) hb (by (try simp); omega))
  all_goals go_ret
  all_goals refine ⟨?_, by assumption⟩
  all_goals simp_all [disturbB]
set_option maxHeartbeats 2000000 in
theorem sDoDisturb_ (a c : Ln) (w : World) :
    Calls Try.prog 18 #[.agg #[.int .i64 a.f, .int .i64 a.o, .int .i64 a.t], .agg #[.int .i64 c.f, .int .i64 c.o, .int .i64 c.t]] w fun e w' => e = .returned (.bool (disturbB a c)) ∧ Below w.heap.size w w' := by
  go_enter Try.func18, Try.ntmps18
  go_wp2
  go_loopw [6] (fun i wr => ∃ k : Nat, k ≤ 3 ∧ i = .int .i64 k ∧ (∀ j, j < k → ∀ v, [a.f, a.o, a.t][j]? = some v → touchB c v = false) ∧ (∀ j v, [a.f, a.o, a.t][j]? = some v → wr.cell? ⟨w.heap.size + 2, j, none⟩ = some (.int .i64 v)) ∧
      wr.cell? ⟨w.heap.size + 1, 0, none⟩ = some (.int .i64 c.f) ∧ wr.cell? ⟨w.heap.size + 1, 1, none⟩ = some (.int .i64 c.o) ∧ wr.cell? ⟨w.heap.size + 1, 2, none⟩ = some (.int .i64 c.t) ∧ Below w.heap.size w wr) (fun i _ => 3 - (intOf i).toNat)
  case atStart =>
    refine ⟨0, by omega, rfl, fun j hj => absurd hj (by omega), ?_, by simp [go_sem], by simp [go_sem], by simp [go_sem], (((Below.refl _ _).alloc (Nat.le_refl _) _).alloc (by simp) _).alloc (by simp; omega) _⟩
    intro j v hj
    have hj3 : j < 3 := by
      have := (List.getElem?_eq_some_iff.1 hj).1
      simpa using this
    obtain rfl | rfl | rfl : j = 0 ∨ j = 1 ∨ j = 2 := by omega
    all_goals (simp at hj; subst hj; simp [go_sem])
  case round =>
    obtain ⟨k, hk, rfl, hall, hx, c0, c1, c2, hb⟩ := hrel
    by_cases hlt : k < 3
    · obtain ⟨v, hv⟩ : ∃ v, [a.f, a.o, a.t][k]? = some v := ⟨_, List.getElem?_eq_getElem (by simpa using hlt)⟩
      have hcell := hx k v hv
      have H := Lib.hid hv
      have HX := Lib.hid hx
      have HA := Lib.hid hall
      clear hv hx hall
      have i0 : (0 : Int) ≤ (k : Int) := by omega
      have i1 : (k : Int) < 3 := by omega
      have hbn : ∀ n, Below w.heap.size w (wr.drewN n) := fun n => ⟨hb.os, hb.tape, hb.output, hb.size, hb.block⟩
      have hrel1 : touchB c v = false → ∀ j, j < k + 1 → ∀ u, [a.f, a.o, a.t][j]? = some u → touchB c u = false := by
        intro ht j hj u hu
        rcases Nat.lt_or_ge j k with h | h
        · exact HA.out j h u hu
        · obtain rfl : j = k := by omega
          have := H.out
          rw [this] at hu
          injection hu with hu
          rw [← hu]; exact ht
      have HR := Lib.hid hrel1
      have HB := Lib.hid hbn
      clear hrel1 hbn
      rcases Bool.eq_false_or_eq_true (v == c.f) with h0 | h0
      · have ht : touchB c v = true := by simp at h0; simp [touchB, h0]
        have HT := Lib.hid ht
        clear ht
        go_wp2_with fail
        go_quiet (fail)
        go_wp2
        go_ret
        exact ⟨ret_bool (disturb_true H.out HT.out).symm, HB.out _⟩
      · rcases Bool.eq_false_or_eq_true (v == c.o) with h1 | h1
        · have ht : touchB c v = true := by simp at h1; simp [touchB, h1]
          have HT := Lib.hid ht
          clear ht
          go_wp2_with fail
          go_quiet (fail)
          go_wp2
          go_ret
          exact ⟨ret_bool (disturb_true H.out HT.out).symm, HB.out _⟩
        · rcases Bool.eq_false_or_eq_true (v == c.t) with h2 | h2
          · have ht : touchB c v = true := by simp at h2; simp [touchB, h2]
            have HT := Lib.hid ht
            clear ht
            go_wp2_with fail
            go_quiet (fail)
            go_wp2
            go_ret
            exact ⟨ret_bool (disturb_true H.out HT.out).symm, HB.out _⟩
          · have ht : touchB c v = false := by simp at h0 h1 h2; simp [touchB]; exact ⟨⟨fun h => h0 h.symm, fun h => h1 h.symm⟩, fun h => h2 h.symm⟩
            have HT := Lib.hid ht
            clear ht
            go_wp2_with fail
            go_quiet (fail)
            go_wp2
            go_roundw
            case rel => exact ⟨k + 1, by omega, by go_num, HR.out HT.out, HX.out, c0, c1, c2, HB.out _⟩
            case measure => simp [intOf]; omega
    · obtain rfl : k = 3 := by omega
      have HA := Lib.hid hall
      clear hall hx
      go_wp2
      go_ret
      exact ⟨ret_bool (disturb_false HA.out).symm, hb⟩
theorem iCompareJumps_ (a c : Ln) (w : World) :
    Calls Try.prog 22 #[.agg #[.int .i64 a.f, .int .i64 a.o, .int .i64 a.t], .agg #[.int .i64 c.f, .int .i64 c.o, .int .i64 c.t]] w fun e w' => e = .returned (.int .i64 (cmpL a c)) ∧ Below w.heap.size w w' := by
  go_enter Try.func22, Try.ntmps22
  go_wp2
  all_goals
    go_ret
    refine ⟨ret_int ?_, ((Below.refl _ _).alloc (Nat.le_refl _) _).alloc (by simp) _⟩
    (try simp only [beq_iff_eq, beq_eq_false_iff_ne, ne_eq] at *)
    unfold cmpL
    (repeat' split) <;> omega
theorem l01In_ (x a b : Int) (w : World) :
    Calls Try.prog 111 #[.int .i64 x, .int .i64 a, .int .i64 b] w fun e w' => e = .returned (.bool (inB x a b)) ∧ w = w' := by
  go_enter Try.func111, Try.ntmps111
  go_wp2
  all_goals
    go_ret
    refine ⟨ret_bool ?_, rfl⟩
    simp [inB]
    omega
theorem within_ (x a b : Int) (w : World) :
    Calls Try.prog 120 #[.int .i64 x, .int .i64 a, .int .i64 b] w fun e w' => e = .returned (.bool (inB x a b)) ∧ w = w' := by
  go_enter Try.func120, Try.ntmps120
  go_wp2
  all_goals
    go_ret
    refine ⟨ret_bool ?_, rfl⟩
    simp [inB]
    omega
end Go.Proofs.Ytbcgokpamhgabaa

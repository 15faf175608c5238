/- Plain functions on lines (triples of numbers): what the functions on jumps compute. No program in sight. The contracts of the functions on lists of jumps that hold no loop over layers or forms: DoDisturb, CompareJumps, CountSweeps, CanSwap, SameJumps. -/
import Derived.Test.YtbcgokpamhgabaaKb01
import Derived.Test.YtbcgokpamhgabaaChecked
import Derived.Tactics
import Derived.Tactics2
import Derived.WalkKit
import Derived.WalkSpells
import Derived.WalkLawsBesides
import Derived.Deep.QuietTactic
import Derived.BigQuiet
import Derived.BigGuardPart
import Derived.Lib.QuietBelow
import Derived.OwnWalk
import Derived.KernelRfl
import Derived.Test.YtbcgokpamhgabaaKb05
namespace Go.Proofs.Ytbcgokpamhgabaa
set_option linter.unusedVariables false

def touchB (l : Ln) (k : Int) : Bool := l.f == k || l.o == k || l.t == k
def disturbB (a c : Ln) : Bool := touchB c a.f || touchB c a.o || touchB c a.t
theorem touch_of {l : Ln} {k : Int} : touchB l k = true ↔ l.f = k ∨ l.o = k ∨ l.t = k := by simp [touchB, or_assoc]
theorem disturb_any (a c : Ln) : disturbB a c = [a.f, a.o, a.t].any (touchB c) := by simp [disturbB, Bool.or_assoc]
theorem disturb_true {a c : Ln} {k : Nat} {v : Int} (h : [a.f, a.o, a.t][k]? = some v) (hv : touchB c v = true) : disturbB a c = true := by
  rw [disturb_any, List.any_eq_true]
  exact ⟨v, List.mem_of_getElem? h, hv⟩
theorem disturb_false {a c : Ln} (h : ∀ j, j < 3 → ∀ v, [a.f, a.o, a.t][j]? = some v → touchB c v = false) : disturbB a c = false := by
  have h0 := h 0 (by omega) a.f rfl
  have h1 := h 1 (by omega) a.o rfl
  have h2 := h 2 (by omega) a.t rfl
  simp [disturbB, h0, h1, h2]
theorem disturb_comm (a c : Ln) : disturbB a c = disturbB c a := by
  rw [Bool.eq_iff_iff]
  simp only [disturbB, touchB, Bool.or_eq_true, beq_iff_eq]
  constructor <;> intro h <;> omega
theorem disturb_self (a : Ln) : disturbB a a = true := by simp [disturbB, touchB]

/-- x lies in the range from a to b. -/
def inB (x a b : Int) : Bool := decide (a ≤ x) && decide (x ≤ b)
theorem inB_iff {x a b : Int} : inB x a b = true ↔ a ≤ x ∧ x ≤ b := by simp [inB]

/-- -1, 0 or 1: by From, then by To. -/
def cmpL (a c : Ln) : Int := if a.f < c.f then -1 else if c.f < a.f then 1 else if a.t < c.t then -1 else if c.t < a.t then 1 else 0

/-- The number of sweeps: the first jump, and each one that doesn't begin where the one before it ended. -/
def newSweep (ls : List Ln) (k : Nat) : Bool := decide (k = 0) || !decide ((ls.getD k default).f = (ls.getD (k - 1) default).t)
def sweeps (ls : List Ln) : Nat → Nat
  | 0 => 0
  | k + 1 => sweeps ls k + if newSweep ls k then 1 else 0
theorem sweeps_le (ls : List Ln) (k : Nat) : sweeps ls k ≤ k := by
  induction k with
  | zero => exact Nat.le_refl _
  | succ k ih => simp only [sweeps]; split <;> omega
theorem sweeps_same {ls : List Ln} {k : Nat} (h : newSweep ls k = false) : sweeps ls (k + 1) = sweeps ls k := by simp [sweeps, h]
theorem sweeps_more {ls : List Ln} {k : Nat} (h : newSweep ls k = true) : sweeps ls (k + 1) = sweeps ls k + 1 := by simp [sweeps, h]
theorem newSweep_zero (ls : List Ln) : newSweep ls 0 = true := by simp [newSweep]
theorem newSweep_pos {ls : List Ln} {k : Nat} {l l' : Ln} (hk : 0 < k) (h : ls[k]? = some l) (h' : ls[k - 1]? = some l') : newSweep ls k = !decide (l.f = l'.t) := by
  have : k ≠ 0 := by omega
  simp [newSweep, List.getD_eq_getElem?_getD, h, h', this]

/-- Jumps k and k+1 are there and don't disturb each other. -/
def canSwapB (ls : List Ln) (k : Int) : Bool := decide (0 ≤ k ∧ k + 1 < (ls.length : Int)) && !disturbB (ls.getD k.toNat default) (ls.getD (k.toNat + 1) default)
theorem canSwap_no {ls : List Ln} {k : Int} (h : ¬ (0 ≤ k ∧ k + 1 < (ls.length : Int))) : canSwapB ls k = false := by
  rw [canSwapB, decide_eq_false h]; rfl
theorem canSwap_yes {ls : List Ln} {k : Nat} {l l' : Ln} (h : k + 1 < ls.length) (h0 : ls[k]? = some l) (h1 : ls[k + 1]? = some l') : canSwapB ls (k : Int) = !disturbB l l' := by
  rw [canSwapB, decide_eq_true (by omega)]
  simp [List.getD_eq_getElem?_getD, h0, h1]

/-- Jumps k and k+1 exchanged, where they can be. -/
def swapL (ls : List Ln) (k : Int) : List Ln := if canSwapB ls k then (ls.set k.toNat (ls.getD (k.toNat + 1) default)).set (k.toNat + 1) (ls.getD k.toNat default) else ls
theorem swapL_no {ls : List Ln} {k : Int} (h : canSwapB ls k = false) : swapL ls k = ls := by simp [swapL, h]
theorem swapL_yes {ls : List Ln} {k : Nat} {l l' : Ln} (h : canSwapB ls (k : Int) = true) (h0 : ls[k]? = some l) (h1 : ls[k + 1]? = some l') : swapL ls (k : Int) = (ls.set k l').set (k + 1) l := by
  simp [swapL, h, List.getD_eq_getElem?_getD, h0, h1]
theorem swapL_length (ls : List Ln) (k : Int) : (swapL ls k).length = ls.length := by
  unfold swapL
  split <;> simp
theorem canSwap_nat {ls : List Ln} {k : Int} (h : canSwapB ls k = true) : ∃ j : Nat, k = j ∧ j + 1 < ls.length := by
  simp only [canSwapB, Bool.and_eq_true, decide_eq_true_eq] at h
  exact ⟨k.toNat, by omega, by omega⟩
end Go.Proofs.Ytbcgokpamhgabaa
namespace Go.Proofs.Ytbcgokpamhgabaa
set_option linter.unusedVariables false
open Go.RowKit Go.Sort

theorem touches_ (l : Ln) (k : Int) (w : World) :
    Calls Try.prog 100 #[.agg #[.int .i64 l.f, .int .i64 l.o, .int .i64 l.t], .int .i64 k] w fun e w' => e = .returned (.bool (touchB l k)) ∧ Below w.heap.size w w' := by
  go_enter Try.func100, Try.ntmps100
  go_wp2
  all_goals
    go_ret
    refine ⟨?_, (Below.refl _ _).alloc (Nat.le_refl _) _⟩
    simp_all [touchB]
theorem iDoDisturb_ (a c : Ln) (w : World) :
    Calls Try.prog 26 #[.agg #[.int .i64 a.f, .int .i64 a.o, .int .i64 a.t], .agg #[.int .i64 c.f, .int .i64 c.o, .int .i64 c.t]] w fun e w' => e = .returned (.bool (disturbB a c)) ∧ Below w.heap.size w w' := by
  have b0 := (((Below.refl w.heap.size w).alloc (Nat.le_refl _) (.cells #[.int .i64 a.f, .int .i64 a.o, .int .i64 a.t] 34)).alloc (by simp) (.cells #[.int .i64 c.f, .int .i64 c.o, .int .i64 c.t] 34))
  go_enter Try.func26, Try.ntmps26
  go_wp2_with (go_at_call 100; refine (touches_ c _ _).mono ?_; rintro e w' ⟨rfl, hb⟩; obtain ⟨hc, hf⟩ := bcell hb; have hz1 : w.heap.size + 1 < w'.heap.size := (by have := hb.size; (try simp at this); omega); have hz0 : w.heap.size < w'.heap.size := (by omega); have hw : Below w.heap.size w w' := below_step (by assumption) hb (by (try simp); omega))
  all_goals go_ret
  all_goals refine ⟨?_, by assumption⟩
  all_goals simp_all [disturbB]
set_option maxHeartbeats 2000000 in
theorem sDoDisturb_ (a c : Ln) (w : World) :
    Calls Try.prog 18 #[.agg #[.int .i64 a.f, .int .i64 a.o, .int .i64 a.t], .agg #[.int .i64 c.f, .int .i64 c.o, .int .i64 c.t]] w fun e w' => e = .returned (.bool (disturbB a c)) ∧ Below w.heap.size w w' := by
  go_enter Try.func18, Try.ntmps18
  go_wp2
  go_loopw [6] (fun i wr => ∃ k : Nat, k ≤ 3 ∧ i = .int .i64 k ∧ (∀ j, j < k → ∀ v, [a.f, a.o, a.t][j]? = some v → touchB c v = false) ∧ (∀ j v, [a.f, a.o, a.t][j]? = some v → wr.cell? ⟨w.heap.size + 2, j, none⟩ = some (.int .i64 v)) ∧
      wr.cell? ⟨w.heap.size + 1, 0, none⟩ = some (.int .i64 c.f) ∧ wr.cell? ⟨w.heap.size + 1, 1, none⟩ = some (.int .i64 c.o) ∧ wr.cell? ⟨w.heap.size + 1, 2, none⟩ = some (.int .i64 c.t) ∧ Below w.heap.size w wr) (fun i _ => 3 - (intOf i).toNat)
  case atStart =>
    refine ⟨0, by omega, rfl, fun j hj => absurd hj (by omega), ?_, by simp [go_sem], by simp [go_sem], by simp [go_sem], (((Below.refl _ _).alloc (Nat.le_refl _) _).alloc (by simp) _).alloc (by simp; omega) _⟩
    intro j v hj
    have hj3 : j < 3 := by
      have := (List.getElem?_eq_some_iff.1 hj).1
      simpa using this
    obtain rfl | rfl | rfl : j = 0 ∨ j = 1 ∨ j = 2 := by omega
    all_goals (simp at hj; subst hj; simp [go_sem])
  case round =>
    obtain ⟨k, hk, rfl, hall, hx, c0, c1, c2, hb⟩ := hrel
    by_cases hlt : k < 3
    · obtain ⟨v, hv⟩ : ∃ v, [a.f, a.o, a.t][k]? = some v := ⟨_, List.getElem?_eq_getElem (by simpa using hlt)⟩
      have hcell := hx k v hv
      have H := Lib.hid hv
      have HX := Lib.hid hx
      have HA := Lib.hid hall
      clear hv hx hall
      have i0 : (0 : Int) ≤ (k : Int) := by omega
      have i1 : (k : Int) < 3 := by omega
      have hbn : ∀ n, Below w.heap.size w (wr.drewN n) := fun n => ⟨hb.os, hb.tape, hb.output, hb.size, hb.block⟩
      have hrel1 : touchB c v = false → ∀ j, j < k + 1 → ∀ u, [a.f, a.o, a.t][j]? = some u → touchB c u = false := by
        intro ht j hj u hu
        rcases Nat.lt_or_ge j k with h | h
        · exact HA.out j h u hu
        · obtain rfl : j = k := by omega
          have := H.out
          rw [this] at hu
          injection hu with hu
          rw [← hu]; exact ht
      have HR := Lib.hid hrel1
      have HB := Lib.hid hbn
      clear hrel1 hbn
      rcases Bool.eq_false_or_eq_true (v == c.f) with h0 | h0
      · have ht : touchB c v = true := by simp at h0; simp [touchB, h0]
        have HT := Lib.hid ht
        clear ht
        go_wp2_with fail
        go_quiet (fail)
        go_wp2
        go_ret
        exact ⟨ret_bool (disturb_true H.out HT.out).symm, HB.out _⟩
      · rcases Bool.eq_false_or_eq_true (v == c.o) with h1 | h1
        · have ht : touchB c v = true := by simp at h1; simp [touchB, h1]
          have HT := Lib.hid ht
          clear ht
          go_wp2_with fail
          go_quiet (fail)
          go_wp2
          go_ret
          exact ⟨ret_bool (disturb_true H.out HT.out).symm, HB.out _⟩
        · rcases Bool.eq_false_or_eq_true (v == c.t) with h2 | h2
          · have ht : touchB c v = true := by simp at h2; simp [touchB, h2]
            have HT := Lib.hid ht
            clear ht
            go_wp2_with fail
            go_quiet (fail)
            go_wp2
            go_ret
            exact ⟨ret_bool (disturb_true H.out HT.out).symm, HB.out _⟩
          · have ht : touchB c v = false := by simp at h0 h1 h2; simp [touchB]; exact ⟨⟨fun h => h0 h.symm, fun h => h1 h.symm⟩, fun h => h2 h.symm⟩
            have HT := Lib.hid ht
            clear ht
            go_wp2_with fail
            go_quiet (fail)
            go_wp2
            go_roundw
            case rel => exact ⟨k + 1, by omega, by go_num, HR.out HT.out, HX.out, c0, c1, c2, HB.out _⟩
            case measure => simp [intOf]; omega
    · obtain rfl : k = 3 := by omega
      have HA := Lib.hid hall
      clear hall hx
      go_wp2
      go_ret
      exact ⟨ret_bool (disturb_false HA.out).symm, hb⟩
theorem iCompareJumps_ (a c : Ln) (w : World) :
    Calls Try.prog 22 #[.agg #[.int .i64 a.f, .int .i64 a.o, .int .i64 a.t], .agg #[.int .i64 c.f, .int .i64 c.o, .int .i64 c.t]] w fun e w' => e = .returned (.int .i64 (cmpL a c)) ∧ Below w.heap.size w w' := by
  go_enter Try.func22, Try.ntmps22
  go_wp2
  all_goals
    go_ret
    refine ⟨ret_int ?_, ((Below.refl _ _).alloc (Nat.le_refl _) _).alloc (by simp) _⟩
    (try simp only [beq_iff_eq, beq_eq_false_iff_ne, ne_eq] at *)
    unfold cmpL
    (repeat' split) <;> omega
theorem l01In_ (x a b : Int) (w : World) :
    Calls Try.prog 111 #[.int .i64 x, .int .i64 a, .int .i64 b] w fun e w' => e = .returned (.bool (inB x a b)) ∧ w = w' := by
  go_enter Try.func111, Try.ntmps111
  go_wp2
  all_goals
    go_ret
    refine ⟨ret_bool ?_, rfl⟩
    simp [inB]
    omega
theorem within_ (x a b : Int) (w : World) :
    Calls Try.prog 120 #[.int .i64 x, .int .i64 a, .int .i64 b] w fun e w' => e = .returned (.bool (inB x a b)) ∧ w = w' := by
  go_enter Try.func120, Try.ntmps120
  go_wp2
  all_goals
    go_ret
    refine ⟨ret_bool ?_, rfl⟩
    simp [inB]
    omega
end Go.Proofs.Ytbcgokpamhgabaa

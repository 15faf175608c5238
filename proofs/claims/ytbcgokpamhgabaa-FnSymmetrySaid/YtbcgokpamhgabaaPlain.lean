/- Plain functions on lines (triples of numbers): what the functions on jumps compute. No program in sight. -/
import Derived.Test.YtbcgokpamhgabaaMem
set_option linter.unusedVariables false
namespace Go.Proofs.Ytbcgokpamhgabaa

def touchB (l : Ln) (k : Int) : Bool := l.f == k || l.o == k || l.t == k
def disturbB (a c : Ln) : Bool := touchB c a.f || touchB c a.o || touchB c a.t
theorem touch_of {l : Ln} {k : Int} : touchB l k = true ↔ l.f = k ∨ l.o = k ∨ l.t = k := by simp [touchB, or_assoc]
theorem disturb_any (a c : Ln) : disturbB a c = [a.f, a.o, a.t].any (touchB c) := by simp [disturbB, Bool.or_assoc]
theorem disturb_true {a c : Ln} {k : Nat} {v : Int} (h : [a.f, a.o, a.t][k]? = some v) (hv : touchB c v = true) : disturbB a c = true := by
  rw [disturb_any, List.any_eq_true]
  exact ⟨v, List.mem_of_getElem? h, hv⟩
theorem disturb_false {a c : Ln} (h : ∀ j, j < 3 → ∀ v, [a.f, a.o, a.t][j]? = some v → touchB c v = false) : disturbB a c = false := by
  have h0 := h 0 (by omega) a.f rfl
  have h1 := h 1 (by omega) a.o rfl
  have h2 := h 2 (by omega) a.t rfl
  simp [disturbB, h0, h1, h2]
theorem disturb_comm (a c : Ln) : disturbB a c = disturbB c a := by
  rw [Bool.eq_iff_iff]
  simp only [disturbB, touchB, Bool.or_eq_true, beq_iff_eq]
  constructor <;> intro h <;> omega
theorem disturb_self (a : Ln) : disturbB a a = true := by simp [disturbB, touchB]

/-- x lies in the range from a to b. -/
def inB (x a b : Int) : Bool := decide (a ≤ x) && decide (x ≤ b)
theorem inB_iff {x a b : Int} : inB x a b = true ↔ a ≤ x ∧ x ≤ b := by simp [inB]

/-- -1, 0 or 1: by From, then by To. -/
def cmpL (a c : Ln) : Int := if a.f < c.f then -1 else if c.f < a.f then 1 else if a.t < c.t then -1 else if c.t < a.t then 1 else 0

/-- The number of sweeps: the first jump, and each one that doesn't begin where the one before it ended. -/
def newSweep (ls : List Ln) (k : Nat) : Bool := decide (k = 0) || !decide ((ls.getD k default).f = (ls.getD (k - 1) default).t)
def sweeps (ls : List Ln) : Nat → Nat
  | 0 => 0
  | k + 1 => sweeps ls k + if newSweep ls k then 1 else 0
theorem sweeps_le (ls : List Ln) (k : Nat) : sweeps ls k ≤ k := by
  induction k with
  | zero => exact Nat.le_refl _
  | succ k ih => simp only [sweeps]; split <;> omega
theorem sweeps_same {ls : List Ln} {k : Nat} (h : newSweep ls k = false) : sweeps ls (k + 1) = sweeps ls k := by simp [sweeps, h]
theorem sweeps_more {ls : List Ln} {k : Nat} (h : newSweep ls k = true) : sweeps ls (k + 1) = sweeps ls k + 1 := by simp [sweeps, h]
theorem newSweep_zero (ls : List Ln) : newSweep ls 0 = true := by simp [newSweep]
theorem newSweep_pos {ls : List Ln} {k : Nat} {l l' : Ln} (hk : 0 < k) (h : ls[k]? = some l) (h' : ls[k - 1]? = some l') : newSweep ls k = !decide (l.f = l'.t) := by
  have : k ≠ 0 := by omega
  simp [newSweep, List.getD_eq_getElem?_getD, h, h', this]

/-- Jumps k and k+1 are there and don't disturb each other. -/
def canSwapB (ls : List Ln) (k : Int) : Bool := decide (0 ≤ k ∧ k + 1 < (ls.length : Int)) && !disturbB (ls.getD k.toNat default) (ls.getD (k.toNat + 1) default)
theorem canSwap_no {ls : List Ln} {k : Int} (h : ¬ (0 ≤ k ∧ k + 1 < (ls.length : Int))) : canSwapB ls k = false := by
  rw [canSwapB, decide_eq_false h]; rfl
theorem canSwap_yes {ls : List Ln} {k : Nat} {l l' : Ln} (h : k + 1 < ls.length) (h0 : ls[k]? = some l) (h1 : ls[k + 1]? = some l') : canSwapB ls (k : Int) = !disturbB l l' := by
  rw [canSwapB, decide_eq_true (by omega)]
  simp [List.getD_eq_getElem?_getD, h0, h1]

/-- Jumps k and k+1 exchanged, where they can be. -/
def swapL (ls : List Ln) (k : Int) : List Ln := if canSwapB ls k then (ls.set k.toNat (ls.getD (k.toNat + 1) default)).set (k.toNat + 1) (ls.getD k.toNat default) else ls
theorem swapL_no {ls : List Ln} {k : Int} (h : canSwapB ls k = false) : swapL ls k = ls := by simp [swapL, h]
theorem swapL_yes {ls : List Ln} {k : Nat} {l l' : Ln} (h : canSwapB ls (k : Int) = true) (h0 : ls[k]? = some l) (h1 : ls[k + 1]? = some l') : swapL ls (k : Int) = (ls.set k l').set (k + 1) l := by
  simp [swapL, h, List.getD_eq_getElem?_getD, h0, h1]
theorem swapL_length (ls : List Ln) (k : Int) : (swapL ls k).length = ls.length := by
  unfold swapL
  split <;> simp
theorem canSwap_nat {ls : List Ln} {k : Int} (h : canSwapB ls k = true) : ∃ j : Nat, k = j ∧ j + 1 < ls.length := by
  simp only [canSwapB, Bool.and_eq_true, decide_eq_true_eq] at h
  exact ⟨k.toNat, by omega, by omega⟩
end Go.Proofs.Ytbcgokpamhgabaa

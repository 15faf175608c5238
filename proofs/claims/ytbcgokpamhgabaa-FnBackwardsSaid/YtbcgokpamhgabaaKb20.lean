/- The positions that jumps lead to: a search that marks what it has seen. No program in sight. -/
import Derived.Test.YtbcgokpamhgabaaKb15
namespace Go.Proofs.Ytbcgokpamhgabaa
set_option linter.unusedVariables false

/-- How many are marked. -/
def tc (l : List Bool) : Nat := (l.filter id).length
theorem tc_le (l : List Bool) : tc l ≤ l.length := List.length_filter_le _ _
theorem tc_set {l : List Bool} {q : Nat} (h : l[q]? = some false) : tc (l.set q true) = tc l + 1 := by
  induction l generalizing q with
  | nil => simp at h
  | cons x l ih =>
    cases q with
    | zero => simp at h; subst h; simp [tc]
    | succ q =>
      have h' : l[q]? = some false := by simpa using h
      have := ih h'
      cases x <;> simp [tc] at this ⊢ <;> omega
theorem tc_zero (n : Nat) : tc (List.replicate n false) = 0 := by simp [tc]

def canD (back : Bool) (p : Nat) (l : Ln) : Bool := if back then canU p l else canJ p l
abbrev St := List Bool × List Nat
def stepS (back : Bool) (p : Nat) (st : St) (l : Ln) : St :=
  if canD back p l && !(st.1.getD (flip p l) true) then (st.1.set (flip p l) true, st.2 ++ [flip p l]) else st
def rowS (back : Bool) (ls : List Ln) (p : Nat) (st : St) : St := ls.foldl (stepS back p) st
def bst (back : Bool) (ls : List Ln) (n p : Nat) : Nat → St
  | 0 => ((List.replicate n false).set p true, [p])
  | k + 1 => match (bst back ls n p k).2[k]? with
    | some q => rowS back ls q (bst back ls n p k)
    | none => bst back ls n p k

/-- What holds of the search's state. -/
structure Inv (n : Nat) (st : St) : Prop where
  len : st.1.length = n
  cnt : st.2.length = tc st.1
  lt : ∀ q ∈ st.2, q < n
theorem Inv.le {n : Nat} {st : St} (h : Inv n st) : st.2.length ≤ n := by
  have := tc_le st.1
  rw [h.cnt, ← h.len]
  exact this
/-- Lines whose jumps stay below n. -/
def Stays (n : Nat) (ls : List Ln) : Prop := ∀ l ∈ ls, ∀ p, p < n → flip p l < n
theorem stays_of {w h s : Nat} (hb : BdOk w h s) : Stays (2 ^ (w * h)) (linesL ⟨w, h, s⟩) := fun l hl p hp => by
  obtain ⟨f, o, t, k⟩ := linesL_ok hb hl
  exact flip_lt k hp
theorem step_inv {n : Nat} {back : Bool} {p : Nat} {st : St} {l : Ln} (h : Inv n st) (hf : flip p l < n) : Inv n (stepS back p st l) := by
  unfold stepS
  split
  · rename_i hc
    simp only [Bool.and_eq_true, Bool.not_eq_true'] at hc
    have hl : flip p l < st.1.length := by rw [h.len]; exact hf
    have hq : st.1[flip p l]? = some false := by
      have := hc.2
      rw [List.getD_eq_getElem?_getD, List.getElem?_eq_getElem hl] at this
      rw [List.getElem?_eq_getElem hl]
      simpa using this
    refine ⟨by simp [h.len], by simp [tc_set hq, h.cnt], ?_⟩
    intro q hq'
    rcases List.mem_append.1 hq' with h1 | h1
    · exact h.lt q h1
    · simp at h1; omega
  · exact h
theorem row_inv {n : Nat} {back : Bool} {p : Nat} (hp : p < n) : ∀ (ls : List Ln) (st : St), Inv n st → Stays n ls → Inv n (rowS back ls p st) := by
  intro ls
  induction ls with
  | nil => intro st h _; exact h
  | cons x ls ih =>
    intro st h hs
    exact ih _ (step_inv h (hs x (by simp) p hp)) fun l hl => hs l (by simp [hl])
theorem bst_inv {n p : Nat} {back : Bool} {ls : List Ln} (hp : p < n) (hs : Stays n ls) (k : Nat) : Inv n (bst back ls n p k) := by
  induction k with
  | zero =>
    refine ⟨by simp [bst], ?_, by simp [bst]; exact hp⟩
    simp only [bst]
    rw [tc_set (by simp [hp]), tc_zero]; rfl
  | succ k ih =>
    simp only [bst]
    split
    · rename_i q hq
      exact row_inv (ih.lt q (List.mem_of_getElem? hq)) ls _ ih hs
    · exact ih
theorem bst_next {n p k q : Nat} {back : Bool} {ls : List Ln} (hq : (bst back ls n p k).2[k]? = some q) : bst back ls n p (k + 1) = rowS back ls q (bst back ls n p k) := by
  simp only [bst, hq]
theorem bst_stop {n p k : Nat} {back : Bool} {ls : List Ln} (h : (bst back ls n p k).2.length ≤ k) (d : Nat) : bst back ls n p (k + d) = bst back ls n p k := by
  induction d with
  | zero => rfl
  | succ d ih =>
    rw [← Nat.add_assoc]
    simp only [bst, ih]
    rw [List.getElem?_eq_none (by omega)]
def bfs (back : Bool) (ls : List Ln) (n p : Nat) : List Bool := (bst back ls n p n).1
theorem bfs_at {n p k : Nat} {back : Bool} {ls : List Ln} (hp : p < n) (hs : Stays n ls) (hk : k ≤ n) (h : (bst back ls n p k).2.length ≤ k) : bfs back ls n p = (bst back ls n p k).1 := by
  have := bst_stop h (n - k)
  rw [show k + (n - k) = n by omega] at this
  rw [bfs, this]
theorem row_take {back : Bool} {ls : List Ln} {p i : Nat} {st : St} {l : Ln} (hl : ls[i]? = some l) : rowS back (ls.take (i + 1)) p st = stepS back p (rowS back (ls.take i) p st) l := by
  obtain ⟨hi, e⟩ := List.getElem?_eq_some_iff.1 hl
  rw [List.take_succ_eq_append_getElem hi, e]
  simp [rowS]
theorem step_no {back : Bool} {p : Nat} {st : St} {l : Ln} (h : canD back p l = false) : stepS back p st l = st := by simp [stepS, h]
theorem step_seen {back : Bool} {p : Nat} {st : St} {l : Ln} (h : st.1[flip p l]? = some true) : stepS back p st l = st := by
  simp [stepS, List.getD_eq_getElem?_getD, h]
theorem step_new {back : Bool} {p : Nat} {st : St} {l : Ln} (hc : canD back p l = true) (h : st.1[flip p l]? = some false) : stepS back p st l = (st.1.set (flip p l) true, st.2 ++ [flip p l]) := by
  simp [stepS, List.getD_eq_getElem?_getD, h, hc]
/-- The todo list only grows. -/
theorem step_pre {back : Bool} {p : Nat} {st : St} {l : Ln} {k q : Nat} (h : st.2[k]? = some q) : (stepS back p st l).2[k]? = some q := by
  unfold stepS
  split
  · have := (List.getElem?_eq_some_iff.1 h).1
    simp only
    rw [List.getElem?_append_left this]; exact h
  · exact h
theorem row_pre {back : Bool} {p k q : Nat} : ∀ (ls : List Ln) (st : St), st.2[k]? = some q → (rowS back ls p st).2[k]? = some q := by
  intro ls
  induction ls with
  | nil => intro st h; exact h
  | cons x ls ih => intro st h; exact ih _ (step_pre h)

/-- The indices that are marked, as far as k. -/
def trues (l : List Bool) (k : Nat) : List Nat := (List.range k).filter (fun i => l.getD i false)
theorem trues_yes {l : List Bool} {k : Nat} (h : l[k]? = some true) : trues l (k + 1) = trues l k ++ [k] := by
  simp [trues, List.range_succ, List.getD_eq_getElem?_getD, h]
theorem trues_no {l : List Bool} {k : Nat} (h : l[k]? = some false) : trues l (k + 1) = trues l k := by
  simp [trues, List.range_succ, List.getD_eq_getElem?_getD, h]
theorem trues_le (l : List Bool) (k : Nat) : (trues l k).length ≤ k := by
  have := List.length_filter_le (fun i => l.getD i false) (List.range k)
  simpa [trues] using this
theorem trues_mem {l : List Bool} {k q : Nat} : q ∈ trues l k ↔ q < k ∧ l.getD q false = true := by simp [trues]

/-- The spread of a position: nothing where the board isn't small or p is no position. -/
def spreadL (b : Ln) (p : Int) (back : Bool) : List Bool :=
  if smallB b && posB b p then bfs back (linesL b) (2 ^ (b.f.toNat * b.o.toNat)) p.toNat else []
def reachL (b : Ln) (p : Int) (back : Bool) : List Nat := trues (spreadL b p back) (spreadL b p back).length
theorem spreadL_len {w h s q : Nat} {back : Bool} (hS : smallB ⟨w, h, s⟩ = true) (hP : posB ⟨w, h, s⟩ q = true) (hb : BdOk w h s) (hq : q < 2 ^ (w * h)) : (spreadL ⟨w, h, s⟩ q back).length = 2 ^ (w * h) := by
  simp only [spreadL, hS, hP, Bool.and_self, if_true, Int.toNat_natCast]
  exact (bst_inv hq (stays_of hb) _).len
theorem spreadL_no {b : Ln} {p : Int} {back : Bool} (h : (smallB b && posB b p) = false) : spreadL b p back = [] := by simp [spreadL, h]
theorem spreadL_yes {w h s q : Nat} {back : Bool} (hS : smallB ⟨w, h, s⟩ = true) (hP : posB ⟨w, h, s⟩ q = true) : spreadL ⟨w, h, s⟩ q back = bfs back (linesL ⟨w, h, s⟩) (2 ^ (w * h)) q := by
  simp [spreadL, hS, hP]
end Go.Proofs.Ytbcgokpamhgabaa

/- MustPrecede as plain functions on lists of lines. No program in sight. -/
import Derived.Test.YtbcgokpamhgabaaPlain
set_option linter.unusedVariables false
namespace Go.Proofs.Ytbcgokpamhgabaa

def anyD (l : Ln) (xs : List Ln) : Bool := xs.any (disturbB l)
theorem anyD_next {l x : Ln} {xs : List Ln} {k : Nat} (hx : xs[k]? = some x) (h : anyD l (xs.take k) = false) (hd : disturbB l x = false) : anyD l (xs.take (k + 1)) = false := by
  unfold anyD at *
  rw [List.take_add_one, hx, List.any_append, h]
  simp [hd]
theorem anyD_yes {l x : Ln} {xs : List Ln} {k : Nat} (hx : xs[k]? = some x) (hd : disturbB l x = true) : anyD l xs = true := by
  unfold anyD
  rw [List.any_eq_true]
  exact ⟨x, List.mem_of_getElem? hx, hd⟩

/-- Does one of the jumps i .. m-1 that L marks disturb jump k? -/
def accB (L : List Bool) (ls : List Ln) (i k : Nat) : Nat → Bool
  | 0 => false
  | m + 1 => accB L ls i k m || (decide (i ≤ m) && (L.getD m false && disturbB (ls.getD m default) (ls.getD k default)))
/-- Of the first k jumps, those that are i, or must come behind it. -/
def mpL (ls : List Ln) (i : Nat) : Nat → List Bool
  | 0 => []
  | k + 1 => mpL ls i k ++ [if k < i then false else if k = i then true else accB (mpL ls i k) ls i k k]
theorem mpL_length (ls : List Ln) (i k : Nat) : (mpL ls i k).length = k := by
  induction k with
  | zero => rfl
  | succ k ih => simp [mpL, ih]
theorem mpL_start (ls : List Ln) (i : Nat) : mpL ls i (i + 1) = List.replicate i false ++ [true] := by
  have h : ∀ k, k ≤ i → mpL ls i k = List.replicate k false := by
    intro k
    induction k with
    | zero => intro _; rfl
    | succ k ih => intro hk; rw [mpL, ih (by omega), if_pos (by omega), List.replicate_succ']
  rw [mpL, h i (Nat.le_refl _), if_neg (by omega), if_pos rfl]
theorem mpL_next {ls : List Ln} {i k : Nat} (h : i < k) : mpL ls i (k + 1) = mpL ls i k ++ [accB (mpL ls i k) ls i k k] := by
  rw [mpL, if_neg (by omega), if_neg (by omega)]
theorem accB_low {L : List Bool} {ls : List Ln} {i k m : Nat} (h : m ≤ i) : accB L ls i k m = false := by
  induction m with
  | zero => rfl
  | succ m ih =>
    rw [accB, ih (by omega)]
    have : ¬ i ≤ m := by omega
    simp [this]
theorem accB_next {L : List Bool} {ls : List Ln} {i k m : Nat} {b : Bool} {x y : Ln} (h : i ≤ m) (hb : L[m]? = some b) (hx : ls[m]? = some x) (hy : ls[k]? = some y) :
    accB L ls i k (m + 1) = (accB L ls i k m || (b && disturbB x y)) := by
  rw [accB]
  simp [h, List.getD_eq_getElem?_getD, hb, hx, hy]
theorem set_mid {α : Type} (P Q : List α) (x y : α) {k : Nat} (h : P.length = k) : (P ++ [x] ++ Q).set k y = P ++ [y] ++ Q := by
  subst h
  simp
theorem mid_start (ls : List Ln) (i k n : Nat) (h : i < k) (hk : k < n) : mpL ls i k ++ List.replicate (n - k) false = mpL ls i k ++ [accB (mpL ls i k) ls i k i] ++ List.replicate (n - (k + 1)) false := by
  rw [accB_low (Nat.le_refl _), show n - k = (n - (k + 1)) + 1 by omega, List.replicate_succ]
  simp
theorem mid_end (ls : List Ln) (i k n : Nat) (h : i < k) : mpL ls i k ++ [accB (mpL ls i k) ls i k k] ++ List.replicate (n - (k + 1)) false = mpL ls i (k + 1) ++ List.replicate (n - (k + 1)) false := by
  rw [mpL_next h]
def mustB (ls : List Ln) (i k : Int) : Bool := decide (0 ≤ i ∧ i < k ∧ k < (ls.length : Int)) && accB (mpL ls i.toNat k.toNat) ls i.toNat k.toNat k.toNat
theorem mustB_no {ls : List Ln} {i k : Int} (h : ¬ (0 ≤ i ∧ i < k ∧ k < (ls.length : Int))) : mustB ls i k = false := by
  rw [mustB, decide_eq_false h]; rfl
theorem mustB_yes {ls : List Ln} {i k : Nat} (h : i < k) (hk : k < ls.length) : mustB ls (i : Int) (k : Int) = accB (mpL ls i k) ls i k k := by
  rw [mustB, decide_eq_true (by omega)]
  simp
theorem mpL_get {ls : List Ln} {i k n : Nat} (h : i < k) (hk : k < n) : (mpL ls i n)[k]? = some (accB (mpL ls i k) ls i k k) := by
  induction n with
  | zero => omega
  | succ n ih =>
    rcases Nat.lt_or_ge k n with h' | h'
    · rw [mpL, List.getElem?_append_left (by rw [mpL_length]; omega)]
      exact ih h'
    · obtain rfl : k = n := by omega
      rw [mpL_next h, List.getElem?_append_right (by rw [mpL_length]; exact Nat.le_refl _)]
      simp [mpL_length]
/-- The jumps i .. j-1 that are i or must come behind it. -/
def afterL (ls : List Ln) (i : Nat) : Nat → List Ln
  | 0 => []
  | j + 1 => afterL ls i j ++ (if decide (i ≤ j) && (mpL ls i (j + 1)).getD j false then [ls.getD j default] else [])
theorem anyD_append (l : Ln) (a b : List Ln) : anyD l (a ++ b) = (anyD l a || anyD l b) := by simp [anyD]
theorem after_any {ls : List Ln} {i k : Nat} (m : Nat) (hm : m ≤ k) : anyD (ls.getD k default) (afterL ls i m) = accB (mpL ls i k) ls i k m := by
  induction m with
  | zero => rfl
  | succ m ih =>
    rw [afterL, anyD_append, ih (by omega), accB]
    have e : (mpL ls i (m + 1)).getD m false = (mpL ls i k).getD m false := by
      have key : ∀ d, (mpL ls i (m + 1 + d))[m]? = (mpL ls i (m + 1))[m]? := by
        intro d
        induction d with
        | zero => rfl
        | succ d ihd =>
          rw [show m + 1 + (d + 1) = (m + 1 + d) + 1 from rfl, mpL, List.getElem?_append_left (by rw [mpL_length]; omega)]
          exact ihd
      rw [List.getD_eq_getElem?_getD, List.getD_eq_getElem?_getD, ← key (k - (m + 1)), show m + 1 + (k - (m + 1)) = k by omega]
    rw [e]
    congr 1
    by_cases h1 : i ≤ m
    · cases h2 : (mpL ls i k).getD m false
      · simp [anyD]
      · simp [anyD, h1, disturb_comm]
    · simp [h1, anyD]
theorem after_start {ls : List Ln} {i : Nat} {x : Ln} (hx : ls[i]? = some x) : afterL ls i (i + 1) = [x] := by
  have h0 : ∀ j, j ≤ i → afterL ls i j = [] := by
    intro j
    induction j with
    | zero => intro _; rfl
    | succ j ih =>
      intro hj
      have : ¬ i ≤ j := by omega
      rw [afterL, ih (by omega)]
      simp [this]
  rw [afterL, h0 i (Nat.le_refl _), mpL_start]
  simp [List.getD_eq_getElem?_getD, hx]
theorem after_more {ls : List Ln} {i j : Nat} {x : Ln} (hij : i < j) (hx : ls[j]? = some x) (h : accB (mpL ls i j) ls i j j = true) : afterL ls i (j + 1) = afterL ls i j ++ [x] := by
  rw [afterL, mpL_next hij]
  have : i ≤ j := by omega
  simp [List.getD_eq_getElem?_getD, hx, h, this, mpL_length]
theorem after_same {ls : List Ln} {i j : Nat} (hij : i < j) (h : accB (mpL ls i j) ls i j j = false) : afterL ls i (j + 1) = afterL ls i j := by
  rw [afterL, mpL_next hij]
  simp [List.getD_eq_getElem?_getD, h, mpL_length]
theorem after_le (ls : List Ln) (i j : Nat) : (afterL ls i j).length ≤ j := by
  induction j with
  | zero => exact Nat.le_refl _
  | succ j ih =>
    rw [afterL, List.length_append]
    split <;> simp <;> omega
end Go.Proofs.Ytbcgokpamhgabaa

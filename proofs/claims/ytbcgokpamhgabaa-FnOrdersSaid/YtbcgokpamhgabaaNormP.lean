/- NormalForm as a plain function on lists of lines. No program in sight. -/
import Derived.Test.YtbcgokpamhgabaaMustP
set_option linter.unusedVariables false
namespace Go.Proofs.Ytbcgokpamhgabaa

/-- Jump k is disturbed by none before it. -/
def freeB (ls : List Ln) (k : Nat) : Bool := !anyD (ls.getD k default) (ls.take k)
/-- The least of the free ones among the first k. -/
def bestK (ls : List Ln) : Nat → Nat
  | 0 => 0
  | k + 1 => if freeB ls k && decide (cmpL (ls.getD k default) (ls.getD (bestK ls k) default) < 0) then k else bestK ls k
theorem cmp_self (a : Ln) : cmpL a a = 0 := by simp [cmpL]
theorem best_one (ls : List Ln) : bestK ls 1 = 0 := by simp [bestK]
theorem best_lt (ls : List Ln) (k : Nat) (h : 0 < k) : bestK ls k < k := by
  induction k with
  | zero => omega
  | succ k ih =>
    rw [bestK]
    split
    · omega
    · rcases Nat.eq_zero_or_pos k with rfl | hk
      · simp [bestK]
      · have := ih hk; omega
theorem best_le (ls : List Ln) (k : Nat) : bestK ls k ≤ k := by
  rcases Nat.eq_zero_or_pos k with rfl | hk
  · simp [bestK]
  · have := best_lt ls k hk; omega
theorem best_less {ls : List Ln} {k : Nat} {l l' : Ln} (h0 : ls[k]? = some l) (h1 : ls[bestK ls k]? = some l') (hf : anyD l (ls.take k) = false) (hc : decide (cmpL l l' < 0) = true) : bestK ls (k + 1) = k := by
  rw [bestK]
  simp only [freeB, List.getD_eq_getElem?_getD, h0, h1, Option.getD_some, hf, hc]
  rfl
theorem best_same {ls : List Ln} {k : Nat} {l l' : Ln} (h0 : ls[k]? = some l) (h1 : ls[bestK ls k]? = some l') (hf : anyD l (ls.take k) = false) (hc : decide (cmpL l l' < 0) = false) : bestK ls (k + 1) = bestK ls k := by
  rw [bestK]
  simp only [freeB, List.getD_eq_getElem?_getD, h0, h1, Option.getD_some, hf, hc]
  rfl
theorem best_bound {ls : List Ln} {k : Nat} {l : Ln} (h0 : ls[k]? = some l) (hf : anyD l (ls.take k) = true) : bestK ls (k + 1) = bestK ls k := by
  rw [bestK]
  simp only [freeB, List.getD_eq_getElem?_getD, h0, Option.getD_some, hf]
  rfl
theorem any_zero (l : Ln) (ls : List Ln) : anyD l (ls.take 0) = false := by simp [anyD]
theorem any_next {l x : Ln} {ls : List Ln} {i : Nat} (h : ls[i]? = some x) : anyD l (ls.take (i + 1)) = (anyD l (ls.take i) || disturbB l x) := by
  rw [List.take_add_one, h, anyD_append]
  simp [anyD]

/-- .. as the reference has it: -1 where none has been looked at. -/
def bestZ (ls : List Ln) (k : Nat) : Int := if k = 0 then -1 else (bestK ls k : Int)
theorem bestZ_zero (ls : List Ln) : bestZ ls 0 = -1 := rfl
theorem bestZ_pos {ls : List Ln} {k : Nat} (h : 0 < k) : bestZ ls k = (bestK ls k : Int) := by rw [bestZ, if_neg (by omega)]

theorem bz_bound {ls : List Ln} {k : Nat} {l : Ln} (h0 : ls[k]? = some l) (hf : anyD l (ls.take k) = true) : bestZ ls (k + 1) = bestZ ls k := by
  rcases Nat.eq_zero_or_pos k with rfl | hk
  · rw [any_zero] at hf; cases hf
  · rw [bestZ_pos (by omega), bestZ_pos hk, best_bound h0 hf]
theorem bz_first (ls : List Ln) : bestZ ls (0 + 1) = 0 := by rw [bestZ_pos (by omega), best_one]; rfl
theorem bz_less (ls : List Ln) (k : Nat) (l l' : Ln) (h0 : ls[k]? = some l) (h1 : ls[bestK ls k]? = some l') (hf : anyD l (ls.take k) = false) (hc : decide (cmpL l l' < 0) = true) : bestZ ls (k + 1) = k := by
  rw [bestZ_pos (by omega), best_less h0 h1 hf hc]
theorem bz_same (ls : List Ln) (k : Nat) (l l' : Ln) (h0 : ls[k]? = some l) (h1 : ls[bestK ls k]? = some l') (hf : anyD l (ls.take k) = false) (hc : decide (cmpL l l' < 0) = false) : bestZ ls (k + 1) = (bestK ls k : Int) := by
  rw [bestZ_pos (by omega), best_same h0 h1 hf hc]

def nf : Nat → List Ln → List Ln
  | 0, _ => []
  | n + 1, ls => if ls.length = 0 then [] else ls.getD (bestK ls ls.length) default :: nf n (ls.eraseIdx (bestK ls ls.length))
def nfL (ls : List Ln) : List Ln := if 10 < ls.length then [] else nf ls.length ls
def nfB (ls : List Ln) : Bool := decide (ls.length ≤ 10)
theorem nf_nil (n : Nat) : nf n [] = [] := by cases n <;> simp [nf]
theorem nf_step {ls : List Ln} {l : Ln} {k : Nat} (hk : bestK ls ls.length = k) (h : ls[k]? = some l) : nf ls.length ls = l :: nf (ls.take k ++ ls.drop (k + 1)).length (ls.take k ++ ls.drop (k + 1)) := by
  obtain ⟨hlt, _⟩ := List.getElem?_eq_some_iff.1 h
  have e : (ls.take k ++ ls.drop (k + 1)).length + 1 = ls.length := by simp; omega
  conv => lhs; rw [← e]
  rw [nf, if_neg (by omega), hk, List.getD_eq_getElem?_getD, h, List.eraseIdx_eq_take_drop_succ]
  rfl
theorem nf_length (n : Nat) (ls : List Ln) (h : ls.length = n) : (nf n ls).length = n := by
  induction n generalizing ls with
  | zero => rfl
  | succ n ih =>
    rw [nf, if_neg (by omega), List.length_cons, ih]
    have := best_lt ls ls.length (by omega)
    rw [List.length_eraseIdx, if_pos this]
    omega
theorem nfL_length (ls : List Ln) (h : nfB ls = true) : (nfL ls).length = ls.length := by
  have h' : ls.length ≤ 10 := of_decide_eq_true h
  rw [nfL, if_neg (by omega), nf_length _ _ rfl]
theorem nfL_bound (ls : List Ln) : (nfL ls).length ≤ ls.length := by
  unfold nfL
  split
  · simp
  · rw [nf_length _ _ rfl]; exact Nat.le_refl _
theorem nfL_no {ls : List Ln} (h : 10 < ls.length) : nfL ls = [] := by rw [nfL, if_pos h]
theorem nfB_no {ls : List Ln} (h : 10 < ls.length) : nfB ls = false := decide_eq_false (by omega)
theorem nfL_yes {ls : List Ln} (h : ls.length ≤ 10) : nfL ls = nf ls.length ls := by rw [nfL, if_neg (by omega)]
theorem nfB_yes {ls : List Ln} (h : ls.length ≤ 10) : nfB ls = true := decide_eq_true h
/-- It is its own normal form. -/
def isnB (ls : List Ln) : Bool := nfB ls && eqB (nfL ls) ls
theorem isnB_no {ls : List Ln} (h : nfB ls = false) : isnB ls = false := by rw [isnB, h]; rfl
theorem isnB_yes {ls : List Ln} (h : nfB ls = true) : isnB ls = eqB (nfL ls) ls := by rw [isnB, h]; rfl
end Go.Proofs.Ytbcgokpamhgabaa

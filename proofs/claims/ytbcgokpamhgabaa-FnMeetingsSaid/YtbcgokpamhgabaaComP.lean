/- What CommonOf computes of two lists of numbers. No program in sight. -/
import Derived.Test.YtbcgokpamhgabaaMem
set_option linter.unusedVariables false
namespace Go.Proofs.Ytbcgokpamhgabaa

/-- acc, and x behind it unless it is the last one already. -/
def addNew (acc : List Int) (x : Int) : List Int := if acc.getLast? = some x then acc else acc ++ [x]
def comF (a c : List Int) : Nat → Nat → Nat → List Int → List Int
  | 0, _, _, acc => acc
  | n + 1, i, k, acc =>
    if i < a.length ∧ k < c.length then
      if a.getD i 0 < c.getD k 0 then comF a c n (i + 1) k acc
      else if c.getD k 0 < a.getD i 0 then comF a c n i (k + 1) acc
      else comF a c n (i + 1) (k + 1) (addNew acc (a.getD i 0))
    else acc
def common (a c : List Int) : List Int := comF a c (a.length + c.length) 0 0 []
theorem comF_end {a c : List Int} {n i k : Nat} {acc : List Int} (h : ¬ (i < a.length ∧ k < c.length)) : comF a c n i k acc = acc := by
  cases n with
  | zero => rfl
  | succ n => rw [comF, if_neg h]
theorem comF_lt {a c : List Int} {n i k : Nat} {acc : List Int} {x y : Int} (hx : a[i]? = some x) (hy : c[k]? = some y) (h : x < y) : comF a c (n + 1) i k acc = comF a c n (i + 1) k acc := by
  have h1 := (List.getElem?_eq_some_iff.1 hx).1
  have h2 := (List.getElem?_eq_some_iff.1 hy).1
  rw [comF, if_pos ⟨h1, h2⟩]
  simp only [List.getD_eq_getElem?_getD, hx, hy, Option.getD_some]
  rw [if_pos h]
theorem comF_gt {a c : List Int} {n i k : Nat} {acc : List Int} {x y : Int} (hx : a[i]? = some x) (hy : c[k]? = some y) (h : y < x) : comF a c (n + 1) i k acc = comF a c n i (k + 1) acc := by
  have h1 := (List.getElem?_eq_some_iff.1 hx).1
  have h2 := (List.getElem?_eq_some_iff.1 hy).1
  rw [comF, if_pos ⟨h1, h2⟩]
  simp only [List.getD_eq_getElem?_getD, hx, hy, Option.getD_some]
  rw [if_neg (by omega), if_pos h]
theorem comF_eq {a c : List Int} {n i k : Nat} {acc : List Int} {x : Int} (hx : a[i]? = some x) (hy : c[k]? = some x) : comF a c (n + 1) i k acc = comF a c n (i + 1) (k + 1) (addNew acc x) := by
  have h1 := (List.getElem?_eq_some_iff.1 hx).1
  have h2 := (List.getElem?_eq_some_iff.1 hy).1
  rw [comF, if_pos ⟨h1, h2⟩]
  simp only [List.getD_eq_getElem?_getD, hx, hy, Option.getD_some]
  rw [if_neg (by omega), if_neg (by omega)]
theorem addNew_nil (x : Int) : addNew [] x = [x] := by simp [addNew]
theorem addNew_same (l : List Int) (x : Int) : addNew (l ++ [x]) x = l ++ [x] := by simp [addNew]
theorem addNew_same' {l : List Int} {x z : Int} (h : z = x) : addNew (l ++ [z]) x = l ++ [z] := by rw [h]; exact addNew_same l x
theorem addNew_other {l : List Int} {x z : Int} (h : z ≠ x) : addNew (l ++ [z]) x = l ++ [z] ++ [x] := by simp [addNew, h]
theorem addNew_le (l : List Int) (x : Int) : (addNew l x).length ≤ l.length + 1 := by
  unfold addNew
  split <;> simp
theorem comF_le (a c : List Int) (n : Nat) : ∀ (i k : Nat) (acc : List Int), acc.length ≤ i → i ≤ a.length → (comF a c n i k acc).length ≤ a.length := by
  induction n with
  | zero => intro i k acc h1 h2; simp [comF]; omega
  | succ n ih =>
    intro i k acc h1 h2
    rw [comF]
    split
    · split
      · exact ih _ _ _ (by omega) (by omega)
      · split
        · exact ih _ _ _ h1 h2
        · have := addNew_le acc (a.getD i 0)
          exact ih _ _ _ (by omega) (by omega)
    · omega
theorem common_le (a c : List Int) : (common a c).length ≤ a.length := comF_le a c _ 0 0 [] (by simp) (by omega)
theorem last_cases (l : List Int) : l = [] ∨ ∃ m z, l = m ++ [z] := by
  rcases List.eq_nil_or_concat l with h | ⟨m, z, h⟩
  · exact .inl h
  · exact .inr ⟨m, z, by simpa using h⟩
end Go.Proofs.Ytbcgokpamhgabaa

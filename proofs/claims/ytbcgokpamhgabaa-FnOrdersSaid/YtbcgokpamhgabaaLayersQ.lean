/- More on layers, as plain functions. No program in sight. -/
import Derived.Test.YtbcgokpamhgabaaLayersP
set_option linter.unusedVariables false
namespace Go.Proofs.Ytbcgokpamhgabaa

/-- The reference's count within row i, after m of its jumps. -/
def atI (rs : List (List Ln)) (l : Ln) (i : Nat) (r : List Ln) (m : Nat) : Nat := if anyD l (r.take m) then i + 1 else topI rs l i
theorem atI_zero (rs : List (List Ln)) (l : Ln) (i : Nat) (r : List Ln) : atI rs l i r 0 = topI rs l i := by simp [atI, anyD]
theorem anyD_take {l x : Ln} {r : List Ln} {m : Nat} (hx : r[m]? = some x) : anyD l (r.take (m + 1)) = (anyD l (r.take m) || disturbB x l) := by
  rw [List.take_add_one, hx, disturb_comm x l]
  simp [anyD, List.any_append]
theorem atI_yes {rs : List (List Ln)} {l x : Ln} {i m : Nat} {r : List Ln} (hx : r[m]? = some x) (h : disturbB x l = true) : atI rs l i r (m + 1) = i + 1 := by
  rw [atI, anyD_take hx, h]; simp
theorem atI_no {rs : List (List Ln)} {l x : Ln} {i m : Nat} {r : List Ln} (hx : r[m]? = some x) (h : disturbB x l = false) : atI rs l i r (m + 1) = atI rs l i r m := by
  rw [atI, anyD_take hx, h, Bool.or_false, atI]
theorem atI_end {rs : List (List Ln)} {l : Ln} {i : Nat} {r : List Ln} (hr : rs[i]? = some r) : atI rs l i r r.length = topI rs l (i + 1) := by
  rw [atI, List.take_length]
  cases h : anyD l r with
  | true => rw [topI_yes hr h]; rfl
  | false => rw [topI_no hr h]; rfl
theorem atI_le (rs : List (List Ln)) (l : Ln) (i : Nat) (r : List Ln) (m : Nat) : atI rs l i r m ≤ i + 1 := by
  unfold atI
  have := topI_le rs l i
  split <;> omega
theorem layersL_put {ls : List Ln} {k : Nat} {l : Ln} (h : ls[k]? = some l) {R : List (List Ln)} (hR : layersL (ls.take k) = R) : layersL (ls.take (k + 1)) = addAt (roomed R (topI R l R.length)) (topI R l R.length) l := by
  rw [layersL_next h, hR, layStep]
theorem roomed_facts {R : List (List Ln)} {n : Nat} (hn : n ≤ R.length) : n < (roomed R n).length ∧ allN (roomed R n) = allN R := by
  unfold roomed
  split
  · refine ⟨by simp; omega, by rw [allN_append]; simp [allN]⟩
  · exact ⟨by omega, rfl⟩
end Go.Proofs.Ytbcgokpamhgabaa

/- Layers and sweeps of a game, as plain functions on lists of lines. No program in sight. -/
import Derived.Test.YtbcgokpamhgabaaMustP
set_option linter.unusedVariables false
namespace Go.Proofs.Ytbcgokpamhgabaa

/-- One behind the last of the first n rows in which a jump disturbs l, or 0. -/
def topI (rs : List (List Ln)) (l : Ln) : Nat → Nat
  | 0 => 0
  | n + 1 => if anyD l (rs.getD n []) then n + 1 else topI rs l n
theorem topI_le (rs : List (List Ln)) (l : Ln) (n : Nat) : topI rs l n ≤ n := by
  induction n with
  | zero => exact Nat.le_refl _
  | succ n ih => rw [topI]; split <;> omega
theorem topI_yes {rs : List (List Ln)} {l : Ln} {n : Nat} {r : List Ln} (hr : rs[n]? = some r) (h : anyD l r = true) : topI rs l (n + 1) = n + 1 := by
  rw [topI, List.getD_eq_getElem?_getD, hr]; simp [h]
theorem topI_no {rs : List (List Ln)} {l : Ln} {n : Nat} {r : List Ln} (hr : rs[n]? = some r) (h : anyD l r = false) : topI rs l (n + 1) = topI rs l n := by
  rw [topI, List.getD_eq_getElem?_getD, hr]; simp [h]
/-- The jump l put behind row n. -/
def addAt (rs : List (List Ln)) (n : Nat) (l : Ln) : List (List Ln) := rs.set n (rs.getD n [] ++ [l])
theorem addAt_len (rs : List (List Ln)) (n : Nat) (l : Ln) : (addAt rs n l).length = rs.length := by simp [addAt]
theorem addAt_eq {rs : List (List Ln)} {n : Nat} {r : List Ln} (l : Ln) (h : rs[n]? = some r) : addAt rs n l = rs.set n (r ++ [l]) := by
  rw [addAt, List.getD_eq_getElem?_getD, h]; rfl
/-- A new row where n is behind all. -/
def roomed (rs : List (List Ln)) (n : Nat) : List (List Ln) := if n = rs.length then rs ++ [[]] else rs
theorem roomed_new {rs : List (List Ln)} {n : Nat} (h : n = rs.length) : roomed rs n = rs ++ [[]] := by simp [roomed, h]
theorem roomed_old {rs : List (List Ln)} {n : Nat} (h : n ≠ rs.length) : roomed rs n = rs := by simp [roomed, h]
def layStep (rs : List (List Ln)) (l : Ln) : List (List Ln) := addAt (roomed rs (topI rs l rs.length)) (topI rs l rs.length) l
def layersL (ls : List Ln) : List (List Ln) := ls.foldl layStep []
theorem layersL_next {ls : List Ln} {k : Nat} {l : Ln} (h : ls[k]? = some l) : layersL (ls.take (k + 1)) = layStep (layersL (ls.take k)) l := by
  rw [layersL, List.take_add_one, h, List.foldl_append]; rfl
/-- The sweeps of the first k jumps. -/
def splitL (ls : List Ln) : Nat → List (List Ln)
  | 0 => []
  | k + 1 => let r := if newSweep ls k then splitL ls k ++ [[]] else splitL ls k
      addAt r (r.length - 1) (ls.getD k default)
theorem splitL_new {ls : List Ln} {k : Nat} {l : Ln} (h : newSweep ls k = true) (hl : ls[k]? = some l) : splitL ls (k + 1) = addAt (splitL ls k ++ [[]]) (splitL ls k).length l := by
  simp [splitL, h, List.getD_eq_getElem?_getD, hl]
theorem splitL_old {ls : List Ln} {k : Nat} {l : Ln} (h : newSweep ls k = false) (hl : ls[k]? = some l) : splitL ls (k + 1) = addAt (splitL ls k) ((splitL ls k).length - 1) l := by
  simp [splitL, h, List.getD_eq_getElem?_getD, hl]

/-- How many jumps there are in all. -/
def allN (rs : List (List Ln)) : Nat := (rs.map List.length).sum
theorem allN_append (a b : List (List Ln)) : allN (a ++ b) = allN a + allN b := by simp [allN]
theorem allN_set {rs : List (List Ln)} {n : Nat} {r r' : List Ln} (h : rs[n]? = some r) : allN (rs.set n r') + r.length = allN rs + r'.length := by
  induction rs generalizing n with
  | nil => simp at h
  | cons x rs ih =>
    cases n with
    | zero => simp at h; subst h; simp [allN]; omega
    | succ n =>
      have h' : rs[n]? = some r := by simpa using h
      have := ih h'
      simp [allN] at this ⊢
      omega
theorem allN_add {rs : List (List Ln)} {n : Nat} {l : Ln} (h : n < rs.length) : allN (addAt rs n l) = allN rs + 1 := by
  have hr : rs[n]? = some rs[n] := List.getElem?_eq_getElem h
  have := allN_set (r' := rs[n] ++ [l]) hr
  rw [addAt_eq l hr]
  simp at this
  omega
theorem allN_mem {rs : List (List Ln)} {r : List Ln} (h : r ∈ rs) : r.length ≤ allN rs := by
  induction rs with
  | nil => simp at h
  | cons x rs ih =>
    rcases List.mem_cons.1 h with rfl | h
    · simp [allN]
    · have := ih h; simp [allN] at this ⊢; omega
/-- Every row holds something. -/
def full (rs : List (List Ln)) : Prop := ∀ r ∈ rs, r ≠ []
theorem full_add {rs : List (List Ln)} {n : Nat} {l : Ln} (hn : n < rs.length) (h : ∀ i r, i ≠ n → rs[i]? = some r → r ≠ []) : full (addAt rs n l) := fun r hr => by
  obtain ⟨i, hi, e⟩ := List.mem_iff_getElem.1 hr
  have hx : (addAt rs n l)[i]? = some r := by rw [List.getElem?_eq_getElem hi, e]
  rw [addAt] at hx
  by_cases e2 : i = n
  · subst e2
    rw [List.getElem?_set_self hn] at hx
    injection hx with hx
    subst hx
    simp
  · rw [List.getElem?_set_ne (Ne.symm e2)] at hx
    exact h i r e2 hx
theorem full_len {rs : List (List Ln)} (h : full rs) : rs.length ≤ allN rs := by
  induction rs with
  | nil => simp
  | cons x rs ih =>
    have h1 := ih fun r hr => h r (by simp [hr])
    have h2 : 0 < x.length := List.length_pos_iff.2 (h x (by simp))
    simp [allN] at h1 ⊢
    omega
theorem full_room {rs : List (List Ln)} (hf : full rs) : ∀ i r, i ≠ rs.length → (rs ++ [[]])[i]? = some r → r ≠ [] := fun i r hi hr => by
  rw [List.getElem?_append] at hr
  split at hr
  · exact hf r (List.mem_of_getElem? hr)
  · have := (List.getElem?_eq_some_iff.1 hr).1
    simp at this
    omega
theorem lay_facts {rs : List (List Ln)} {l : Ln} (hf : full rs) : full (layStep rs l) ∧ allN (layStep rs l) = allN rs + 1 := by
  have hle := topI_le rs l rs.length
  unfold layStep
  by_cases e : topI rs l rs.length = rs.length
  · rw [roomed_new e]
    have hlt : topI rs l rs.length < (rs ++ [[]]).length := by simp; omega
    refine ⟨full_add hlt fun i r hi hr => full_room hf i r (by omega) hr, ?_⟩
    rw [allN_add hlt, allN_append]; simp [allN]
  · rw [roomed_old e]
    have hlt : topI rs l rs.length < rs.length := by omega
    exact ⟨full_add hlt fun i r _ hr => hf r (List.mem_of_getElem? hr), allN_add hlt⟩
theorem layersL_facts (ls : List Ln) : full (layersL ls) ∧ allN (layersL ls) = ls.length := by
  have key : ∀ (ls : List Ln) (rs : List (List Ln)), full rs → full (ls.foldl layStep rs) ∧ allN (ls.foldl layStep rs) = allN rs + ls.length := by
    intro ls
    induction ls with
    | nil => intro rs h; exact ⟨h, by simp⟩
    | cons x ls ih =>
      intro rs h
      obtain ⟨a, b⟩ := lay_facts (l := x) h
      obtain ⟨c, d⟩ := ih _ a
      exact ⟨c, by rw [List.foldl_cons, d, b]; simp; omega⟩
  have := key ls [] (fun r hr => by simp at hr)
  simpa [layersL, allN] using this
theorem splitL_facts (ls : List Ln) : ∀ k, k ≤ ls.length → full (splitL ls k) ∧ allN (splitL ls k) = k ∧ (0 < k → 0 < (splitL ls k).length) := by
  intro k
  induction k with
  | zero => intro _; exact ⟨fun r hr => by simp [splitL] at hr, by simp [splitL, allN], fun h => by omega⟩
  | succ k ih =>
    intro hk
    obtain ⟨a, b, c⟩ := ih (by omega)
    have hl : ls[k]? = some ls[k] := List.getElem?_eq_getElem (by omega)
    cases hn : newSweep ls k with
    | true =>
      rw [splitL_new hn hl]
      have hlt : (splitL ls k).length < (splitL ls k ++ [[]]).length := by simp
      refine ⟨full_add hlt fun i r hi hr => full_room a i r hi hr, ?_, fun _ => by rw [addAt_len]; simp⟩
      rw [allN_add hlt, allN_append, b]; simp [allN]
    | false =>
      rw [splitL_old hn hl]
      have hk0 : 0 < k := by
        rcases Nat.eq_zero_or_pos k with e | e
        · subst e; rw [newSweep_zero] at hn; cases hn
        · exact e
      have hc := c hk0
      have hlt : (splitL ls k).length - 1 < (splitL ls k).length := by omega
      exact ⟨full_add hlt fun i r _ hr => a r (List.mem_of_getElem? hr), by rw [allN_add hlt, b], fun _ => by rw [addAt_len]; exact hc⟩
/-- The greatest length of the first k rows. -/
def maxLen2 (rs : List (List Ln)) : Nat → Nat
  | 0 => 0
  | k + 1 => max (maxLen2 rs k) (rs.getD k []).length
theorem maxLen2_next {rs : List (List Ln)} {k : Nat} {r : List Ln} (h : rs[k]? = some r) : maxLen2 rs (k + 1) = max (maxLen2 rs k) r.length := by
  rw [maxLen2, List.getD_eq_getElem?_getD, h]; rfl
theorem maxLen2_le {rs : List (List Ln)} (k : Nat) : maxLen2 rs k ≤ allN rs := by
  induction k with
  | zero => simp [maxLen2]
  | succ k ih =>
    rw [maxLen2]
    have : (rs.getD k []).length ≤ allN rs := by
      rw [List.getD_eq_getElem?_getD]
      cases h : rs[k]? with
      | none => simp
      | some r => exact allN_mem (List.mem_of_getElem? h)
    omega

/-- The rows as cells. -/
def flats (rs : List (List Ln)) : List (List Value) := rs.map flat
theorem flats_len (rs : List (List Ln)) : (flats rs).length = rs.length := by simp [flats]
theorem flats_get {rs : List (List Ln)} {i : Nat} {xs : List Value} (h : (flats rs)[i]? = some xs) : ∃ r, rs[i]? = some r ∧ xs = flat r := by
  simp only [flats, List.getElem?_map, Option.map_eq_some_iff] at h
  obtain ⟨r, hr, rfl⟩ := h
  exact ⟨r, hr, rfl⟩
theorem flats_append (a b : List (List Ln)) : flats (a ++ b) = flats a ++ flats b := by simp [flats]
theorem flats_set (rs : List (List Ln)) (i : Nat) (r : List Ln) : flats (rs.set i r) = (flats rs).set i (flat r) := by simp [flats, List.map_set]

/-- Marks in all rows. -/
def markRows (k : Int) : List (List Ln) → List (List Ln)
  | [] => []
  | r :: rs => marks3 k r.length :: markRows (k + 3 * r.length) rs
/-- The mark of the first jump of row i. -/
def markAt (k : Int) (rs : List (List Ln)) (i : Nat) : Int := k + 3 * (allN (rs.take i) : Nat)
theorem allN_take {rs : List (List Ln)} {i : Nat} {r : List Ln} (h : rs[i]? = some r) : allN (rs.take (i + 1)) = allN (rs.take i) + r.length := by
  rw [List.take_add_one, h, allN_append]; simp [allN]
theorem allN_take_le (rs : List (List Ln)) (i : Nat) : allN (rs.take i) ≤ allN rs := by
  have : allN (rs.take i ++ rs.drop i) = allN rs := by rw [List.take_append_drop]
  rw [allN_append] at this
  omega
theorem markRows_len (k : Int) (rs : List (List Ln)) : (markRows k rs).length = rs.length := by
  induction rs generalizing k with
  | nil => rfl
  | cons x rs ih => simp [markRows, ih]
theorem markRows_get {rs : List (List Ln)} {i : Nat} {r : List Ln} (k : Int) (h : rs[i]? = some r) : (markRows k rs)[i]? = some (marks3 (markAt k rs i) r.length) := by
  induction rs generalizing i k with
  | nil => simp at h
  | cons x rs ih =>
    cases i with
    | zero => simp at h; subst h; simp [markRows, markAt, allN]
    | succ i =>
      have h' : rs[i]? = some r := by simpa using h
      rw [markRows, List.getElem?_cons_succ, ih _ h']
      congr 2
      simp only [markAt, List.take_succ_cons, allN, List.map_cons, List.sum_cons]
      omega
theorem markRows_all (k : Int) (rs : List (List Ln)) : allN (markRows k rs) = allN rs := by
  induction rs generalizing k with
  | nil => rfl
  | cons x rs ih =>
    have := ih (k + 3 * x.length)
    simp only [markRows, allN, List.map_cons, List.sum_cons, marks3_length] at this ⊢
    omega
/-- The first i rows marked. -/
def marked (k : Int) (rs : List (List Ln)) (i : Nat) : List (List Ln) := (markRows k rs).take i ++ rs.drop i
theorem marked_len (k : Int) (rs : List (List Ln)) (i : Nat) : (marked k rs i).length = rs.length := by
  simp [marked, markRows_len]
  omega
theorem marked_at {k : Int} {rs : List (List Ln)} {i : Nat} {r : List Ln} (h : rs[i]? = some r) : (marked k rs i)[i]? = some r := by
  have hi := (List.getElem?_eq_some_iff.1 h).1
  have e1 : ((markRows k rs).take i).length = i := by simp [markRows_len]; omega
  rw [marked, List.getElem?_append_right (by omega), e1, Nat.sub_self, List.getElem?_drop, Nat.add_zero, h]
theorem marked_next {k : Int} {rs : List (List Ln)} {i : Nat} {r : List Ln} (h : rs[i]? = some r) : (marked k rs i).set i (marks3 (markAt k rs i) r.length) = marked k rs (i + 1) := by
  have hi := (List.getElem?_eq_some_iff.1 h).1
  have e1 : ((markRows k rs).take i).length = i := by simp [markRows_len]; omega
  have e2 : rs.drop i = r :: rs.drop (i + 1) := by rw [List.drop_eq_getElem_cons hi]; congr 1; exact (List.getElem?_eq_some_iff.1 h).2
  rw [marked, List.set_append_right _ _ (by omega), e1, Nat.sub_self, e2, List.set_cons_zero, marked, List.take_add_one, markRows_get k h]
  simp
theorem marked_end (k : Int) (rs : List (List Ln)) : marked k rs rs.length = markRows k rs := by
  rw [marked, List.take_of_length_le (by rw [markRows_len]; omega), List.drop_eq_nil_of_le (by omega), List.append_nil]
def eqRows (a b : List (List Ln)) : Bool := decide (a = b)
theorem eqRows_refl (a : List (List Ln)) : eqRows a a = true := by simp [eqRows]
end Go.Proofs.Ytbcgokpamhgabaa

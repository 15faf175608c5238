/- What the law FnNormal says, as plain facts: exchanges keep the normal form and the number of layers. No program in sight. -/
import Derived.Test.YtbcgokpamhgabaaSameP
import Derived.Test.YtbcgokpamhgabaaLayersQ
set_option linter.unusedVariables false
namespace Go.Proofs.Ytbcgokpamhgabaa

theorem lin_refl : ∀ l : List Ln, Lin l l
  | [] => rfl
  | x :: l => ⟨l, ext_here x l, lin_refl l⟩
theorem lin_two {a c : Ln} (h : disturbB a c = false) (post : List Ln) : ∀ pre : List Ln, Lin (pre ++ a :: c :: post) (pre ++ c :: a :: post)
  | [] => ⟨a :: post, ext_there (by rw [disturb_comm]; exact h) (ext_here c post), post, ext_here a post, lin_refl post⟩
  | x :: pre => ⟨_, ext_here x _, lin_two h post pre⟩
theorem swap_form {ls : List Ln} {k : Int} (h : canSwapB ls k = true) : ∃ pre a c post, ls = pre ++ a :: c :: post ∧ disturbB a c = false ∧ swapL ls k = pre ++ c :: a :: post := by
  obtain ⟨j, rfl, hj⟩ := canSwap_nat h
  have h0 : ls[j]? = some ls[j] := List.getElem?_eq_getElem (by omega)
  have h1 : ls[j + 1]? = some ls[j + 1] := List.getElem?_eq_getElem hj
  have hd := h
  rw [canSwap_yes hj h0 h1] at hd
  have e : ls = ls.take j ++ ls[j] :: ls[j + 1] :: ls.drop (j + 2) := by
    conv => lhs; rw [← List.take_append_drop j ls]
    rw [List.drop_eq_getElem_cons (by omega), List.drop_eq_getElem_cons (by omega)]
  refine ⟨ls.take j, ls[j], ls[j + 1], ls.drop (j + 2), e, by simpa using hd, ?_⟩
  rw [swapL_yes h h0 h1]
  have ht : (ls.take j).length = j := by simp; omega
  generalize hA : ls.take j = A at *
  generalize ls.drop (j + 2) = B at *
  generalize ls[j] = a at *
  generalize ls[j + 1] = c at *
  rw [e, List.set_append_right _ _ (by omega), List.set_append_right _ _ (by omega)]
  simp [ht]
theorem lin_swap (ls : List Ln) (k : Int) : Lin ls (swapL ls k) := by
  rcases Bool.eq_false_or_eq_true (canSwapB ls k) with h | h
  · obtain ⟨pre, a, c, post, e1, hd, e2⟩ := swap_form h
    rw [e2, e1]
    exact lin_two hd post pre
  · rw [swapL_no h]; exact lin_refl ls

/-- Exchanges one after another. -/
def swaps (l : List Ln) (ks : List Int) : List Ln := ks.foldl swapL l
theorem swaps_next (l : List Ln) (ks : List Int) (k : Int) : swaps l (ks ++ [k]) = swapL (swaps l ks) k := by simp [swaps]
theorem swaps_len (l : List Ln) (ks : List Int) : (swaps l ks).length = l.length := by
  unfold swaps
  induction ks generalizing l with
  | nil => rfl
  | cons k ks ih => rw [List.foldl_cons, ih, swapL_length]
theorem swaps_nf (l : List Ln) (ks : List Int) : nf (swaps l ks).length (swaps l ks) = nf l.length l := by
  unfold swaps
  induction ks generalizing l with
  | nil => rfl
  | cons k ks ih => rw [List.foldl_cons, ih, lin_iff.1 (lin_swap l k)]

/-! ### Layers -/
theorem topI_same {R R' : List (List Ln)} {l : Ln} {n : Nat} (h : ∀ i, i < n → anyD l (R.getD i []) = anyD l (R'.getD i [])) : topI R l n = topI R' l n := by
  induction n with
  | zero => rfl
  | succ n ih => simp only [topI, h n (by omega), ih (fun i hi => h i (by omega))]
/-- The rows as a function. -/
def rowF (R : List (List Ln)) (i : Nat) : List Ln := R.getD i []
theorem topI_short {R : List (List Ln)} {l : Ln} (d : Nat) : topI R l (R.length + d) = topI R l R.length := by
  induction d with
  | zero => rfl
  | succ d ih =>
    have hn : anyD l (R.getD (R.length + d) []) = false := by simp [List.getD_eq_getElem?_getD, anyD]
    rw [show R.length + (d + 1) = (R.length + d) + 1 by omega, topI, ih, hn]
    simp
theorem topI_any {R : List (List Ln)} {l : Ln} {n : Nat} (h : R.length ≤ n) : topI R l n = topI R l R.length := by
  obtain ⟨d, rfl⟩ : ∃ d, n = R.length + d := ⟨n - R.length, by omega⟩
  exact topI_short d
def topR (R : List (List Ln)) (l : Ln) : Nat := topI R l R.length
theorem layStep_len (R : List (List Ln)) (l : Ln) : (layStep R l).length = max R.length (topR R l + 1) := by
  have h := topI_le R l R.length
  unfold layStep topR
  rw [addAt_len]
  unfold roomed
  split
  · simp; omega
  · omega
theorem layStep_row (R : List (List Ln)) (l : Ln) (i : Nat) : rowF (layStep R l) i = if i = topR R l then rowF R i ++ [l] else rowF R i := by
  have h := topI_le R l R.length
  unfold layStep rowF addAt topR
  generalize topI R l R.length = t at *
  have hr : ∀ j, (roomed R t).getD j [] = R.getD j [] := fun j => by
    unfold roomed
    split
    · simp only [List.getD_eq_getElem?_getD, List.getElem?_append]
      by_cases hj : j < R.length
      · rw [if_pos hj]
      · rw [if_neg hj, List.getElem?_eq_none (show R.length ≤ j by omega)]
        by_cases hj' : j = R.length
        · subst hj'; simp
        · rw [List.getElem?_eq_none (by simp; omega)]
    · rfl
  have hl : t < (roomed R t).length := by
    unfold roomed
    split
    · simp; omega
    · omega
  rw [hr]
  simp only [List.getD_eq_getElem?_getD, List.getElem?_set]
  by_cases hi : t = i
  · subst hi
    rw [if_pos rfl, if_pos hl, if_pos rfl]
    rfl
  · rw [if_neg hi, if_neg (fun h => hi h.symm)]
    have := hr i
    simpa only [List.getD_eq_getElem?_getD] using this
/-- As many rows, each with the same members. -/
def Alk (R R' : List (List Ln)) : Prop := R.length = R'.length ∧ ∀ i x, x ∈ rowF R i ↔ x ∈ rowF R' i
theorem Alk.refl (R : List (List Ln)) : Alk R R := ⟨rfl, fun _ _ => Iff.rfl⟩
theorem anyD_mem {l : Ln} {a c : List Ln} (h : ∀ x, x ∈ a ↔ x ∈ c) : anyD l a = anyD l c := by
  unfold anyD
  rw [Bool.eq_iff_iff, List.any_eq_true, List.any_eq_true]
  exact ⟨fun ⟨x, h1, h2⟩ => ⟨x, (h x).1 h1, h2⟩, fun ⟨x, h1, h2⟩ => ⟨x, (h x).2 h1, h2⟩⟩
theorem Alk.top {R R' : List (List Ln)} (h : Alk R R') (l : Ln) : topR R l = topR R' l := by
  unfold topR
  rw [h.1]
  exact topI_same fun i _ => anyD_mem (h.2 i)
theorem Alk.step {R R' : List (List Ln)} (h : Alk R R') (l : Ln) : Alk (layStep R l) (layStep R' l) := by
  refine ⟨by rw [layStep_len, layStep_len, h.1, h.top], fun i x => ?_⟩
  rw [layStep_row, layStep_row, h.top]
  split
  · simp [h.2 i x]
  · exact h.2 i x
theorem Alk.fold {R R' : List (List Ln)} (h : Alk R R') (ls : List Ln) : Alk (ls.foldl layStep R) (ls.foldl layStep R') := by
  induction ls generalizing R R' with
  | nil => exact h
  | cons x ls ih => exact ih (h.step x)
theorem topR_step {R : List (List Ln)} {a c : Ln} (h : disturbB a c = false) : topR (layStep R a) c = topR R c := by
  unfold topR
  rw [← topI_any (R := layStep R a) (n := max R.length (topR R a + 1)) (by rw [layStep_len]; exact Nat.le_refl _), ← topI_any (R := R) (l := c) (n := max R.length (topR R a + 1)) (by omega)]
  apply topI_same
  intro i _
  have := layStep_row R a i
  unfold rowF at this
  rw [this]
  split
  · rw [anyD_append]
    have : disturbB c a = false := by rw [disturb_comm]; exact h
    simp [anyD, this]
  · rfl
theorem step_swap {R : List (List Ln)} {a c : Ln} (h : disturbB a c = false) : Alk (layStep (layStep R a) c) (layStep (layStep R c) a) := by
  have h' : disturbB c a = false := by rw [disturb_comm]; exact h
  refine ⟨by simp only [layStep_len, topR_step h, topR_step h']; omega, fun i x => ?_⟩
  simp only [layStep_row, topR_step h, topR_step h']
  split <;> split <;> simp [or_comm, or_assoc]
theorem layers_swap (ls : List Ln) (k : Int) : (layersL (swapL ls k)).length = (layersL ls).length := by
  rcases Bool.eq_false_or_eq_true (canSwapB ls k) with h | h
  · obtain ⟨pre, a, c, post, e1, hd, e2⟩ := swap_form h
    rw [e2]
    conv => rhs; rw [e1]
    unfold layersL
    simp only [List.foldl_append, List.foldl_cons]
    exact ((step_swap hd).fold post).1.symm
  · rw [swapL_no h]
theorem swaps_layers (l : List Ln) (ks : List Int) : (layersL (swaps l ks)).length = (layersL l).length := by
  unfold swaps
  induction ks generalizing l with
  | nil => rfl
  | cons k ks ih => rw [List.foldl_cons, ih, layers_swap]
/-- In a row no two disturb each other. -/
def Calm (r : List Ln) : Prop := r.Pairwise fun x y => disturbB x y = false
theorem top_calm {R : List (List Ln)} {l : Ln} : anyD l (rowF R (topR R l)) = false := by
  have key : ∀ n, ∀ i, topI R l n ≤ i → i < n → anyD l (rowF R i) = false := by
    intro n
    induction n with
    | zero => intro i _ h; omega
    | succ n ih =>
      intro i h1 h2
      simp only [topI] at h1
      split at h1
      · omega
      · rename_i h3
        by_cases hi : i = n
        · subst hi; simpa [rowF] using h3
        · exact ih i h1 (by omega)
  by_cases h : topR R l < R.length
  · exact key R.length _ (Nat.le_refl _) h
  · have : rowF R (topR R l) = [] := by
      unfold rowF
      rw [List.getD_eq_getElem?_getD, List.getElem?_eq_none (by omega)]
      rfl
    rw [this]; rfl
theorem step_calm {R : List (List Ln)} {l : Ln} (h : ∀ i, Calm (rowF R i)) : ∀ i, Calm (rowF (layStep R l) i) := fun i => by
  rw [layStep_row]
  split
  · rename_i hi
    subst hi
    refine List.pairwise_append.2 ⟨h _, List.pairwise_singleton _ _, fun x hx y hy => ?_⟩
    rw [List.mem_singleton] at hy
    subst hy
    have hc := top_calm (R := R) (l := y)
    cases hd : disturbB x y with
    | false => rfl
    | true =>
      have : anyD y (rowF R (topR R y)) = true := by unfold anyD; rw [List.any_eq_true]; exact ⟨x, hx, by rw [disturb_comm]; exact hd⟩
      rw [this] at hc; cases hc
  · exact h i
theorem layers_calm (ls : List Ln) : ∀ i, Calm (rowF (layersL ls) i) := by
  unfold layersL
  have key : ∀ (ls : List Ln) (R : List (List Ln)), (∀ i, Calm (rowF R i)) → ∀ i, Calm (rowF (ls.foldl layStep R) i) := by
    intro ls
    induction ls with
    | nil => intro R h; exact h
    | cons x ls ih => intro R h; exact ih _ (step_calm h)
  exact key ls [] fun i => by simp [rowF, Calm]
theorem calm_at {ls : List Ln} {k i j : Nat} {r : List Ln} {x y : Ln} (hr : (layersL ls)[k]? = some r) (hx : r[i]? = some x) (hy : r[j]? = some y) (hji : j < i) : disturbB x y = false := by
  have h := layers_calm ls k
  unfold rowF at h
  rw [List.getD_eq_getElem?_getD, hr] at h
  simp only [Option.getD_some] at h
  obtain ⟨hi, rfl⟩ := List.getElem?_eq_some_iff.1 hx
  obtain ⟨hj, rfl⟩ := List.getElem?_eq_some_iff.1 hy
  rw [disturb_comm]
  exact List.pairwise_iff_getElem.1 h j i hj hi hji

/-- All that the law asks at its end. -/
theorem normal_end (l : List Ln) (h : l.length ≤ 10) (ks : List Int) :
    nfB l = true ∧ nfB (swaps l ks) = true ∧ nfB (nfL l) = true ∧ eqB (nfL l) (nfL (swaps l ks)) = true ∧ eqB (nfL l) (nfL (nfL l)) = true ∧ isnB (nfL l) = true ∧ sameB l (nfL l) = true ∧ isnB l = eqB l (nfL l) := by
  have hl := nfB_yes h
  have hn := nfL_length l hl
  have hx : (swaps l ks).length ≤ 10 := by rw [swaps_len]; exact h
  have hm : (nfL l).length ≤ 10 := by omega
  have e1 : nfL (swaps l ks) = nfL l := by rw [nfL_yes hx, nfL_yes h, swaps_nf]
  have e0 : Lin l (nfL l) := by rw [nfL_yes h]; exact lin_nf _ l rfl
  have e2 : nfL (nfL l) = nfL l := by rw [nfL_yes hm, ← lin_iff.1 e0, ← nfL_yes h]
  refine ⟨hl, nfB_yes hx, nfB_yes hm, eqB_of e1.symm, eqB_of e2.symm, ?_, ?_, ?_⟩
  · rw [isnB_yes (nfB_yes hm)]; exact eqB_of e2
  · rw [sameB_yes h hm hn.symm]; exact linB_iff.2 e0
  · rw [isnB_yes hl]
    unfold eqB
    rw [Bool.eq_iff_iff, decide_eq_true_eq, decide_eq_true_eq]
    exact ⟨Eq.symm, Eq.symm⟩
end Go.Proofs.Ytbcgokpamhgabaa

/- Layers of positions: what is one jump away from a list. No program in sight. -/
import Derived.Test.YtbcgokpamhgabaaKb20
import Derived.Lib.SlicesCompact
namespace Go.Proofs.Ytbcgokpamhgabaa
set_option linter.unusedVariables false
open Go.Lib

/-- The positions one jump away, as the program collects them. -/
def stepC (back : Bool) (p : Nat) (a : List Nat) (l : Ln) : List Nat := if canD back p l then a ++ [flip p l] else a
def rowC (back : Bool) (ls : List Ln) (p : Nat) (a : List Nat) : List Nat := ls.foldl (stepC back p) a
def colC (back : Bool) (ls : List Ln) (ps : List Nat) : List Nat := ps.foldl (fun a p => rowC back ls p a) []
/-- .. and as the reference marks them. -/
def stepM (back : Bool) (p : Nat) (s : List Bool) (l : Ln) : List Bool := if canD back p l then s.set (flip p l) true else s
def rowM (back : Bool) (ls : List Ln) (p : Nat) (s : List Bool) : List Bool := ls.foldl (stepM back p) s
def colM (back : Bool) (ls : List Ln) (n : Nat) (ps : List Nat) : List Bool := ps.foldl (fun s p => rowM back ls p s) (List.replicate n false)

theorem fold_take {α β : Type} {f : β → α → β} {b : β} {xs : List α} {i : Nat} {x : α} (h : xs[i]? = some x) : (xs.take (i + 1)).foldl f b = f ((xs.take i).foldl f b) x := by
  obtain ⟨hi, e⟩ := List.getElem?_eq_some_iff.1 h
  rw [List.take_succ_eq_append_getElem hi, e]
  simp
theorem stepC_yes {back : Bool} {p : Nat} {a : List Nat} {l : Ln} (h : canD back p l = true) : stepC back p a l = a ++ [flip p l] := by simp [stepC, h]
theorem stepC_no {back : Bool} {p : Nat} {a : List Nat} {l : Ln} (h : canD back p l = false) : stepC back p a l = a := by simp [stepC, h]
theorem stepM_yes {back : Bool} {p : Nat} {s : List Bool} {l : Ln} (h : canD back p l = true) : stepM back p s l = s.set (flip p l) true := by simp [stepM, h]
theorem stepM_no {back : Bool} {p : Nat} {s : List Bool} {l : Ln} (h : canD back p l = false) : stepM back p s l = s := by simp [stepM, h]

theorem rowC_len (back : Bool) (p : Nat) (ls : List Ln) : ∀ a, (rowC back ls p a).length ≤ a.length + ls.length := by
  induction ls with
  | nil => intro a; simp [rowC]
  | cons x ls ih =>
    intro a
    have h := ih (stepC back p a x)
    have h2 : (stepC back p a x).length ≤ a.length + 1 := by unfold stepC; split <;> simp
    simp only [rowC, List.foldl_cons, List.length_cons] at h ⊢
    omega
theorem colC_len' (back : Bool) (ls : List Ln) (ps : List Nat) : ∀ a, (ps.foldl (fun a p => rowC back ls p a) a).length ≤ a.length + ps.length * ls.length := by
  induction ps with
  | nil => intro a; simp
  | cons x ps ih =>
    intro a
    have h := ih (rowC back ls x a)
    have h2 := rowC_len back x ls a
    simp only [List.foldl_cons, List.length_cons, Nat.add_mul, Nat.one_mul] at h ⊢
    omega
theorem colC_len (back : Bool) (ls : List Ln) (ps : List Nat) : (colC back ls ps).length ≤ ps.length * ls.length := by
  have := colC_len' back ls ps []
  simpa [colC] using this

/-- The marks and the list tell the same. -/
def Tells (n : Nat) (s : List Bool) (a : List Nat) : Prop := s.length = n ∧ (∀ q ∈ a, q < n) ∧ ∀ q, q < n → (s.getD q false = true ↔ q ∈ a)
theorem step_tells {n : Nat} {back : Bool} {p : Nat} {s : List Bool} {a : List Nat} {l : Ln} (h : Tells n s a) (hf : flip p l < n) : Tells n (stepM back p s l) (stepC back p a l) := by
  unfold stepM stepC
  split
  · obtain ⟨h1, h2, h3⟩ := h
    refine ⟨by simp [h1], ?_, ?_⟩
    · intro q hq
      rcases List.mem_append.1 hq with hq | hq
      · exact h2 q hq
      · simp at hq; omega
    · intro q hq
      rw [List.getD_eq_getElem?_getD, List.getElem?_set, List.mem_append]
      by_cases e : flip p l = q
      · subst e; simp [h1, hf]
      · have := h3 q hq
        rw [List.getD_eq_getElem?_getD] at this
        simp [e, this, Ne.symm e]
  · exact h
theorem row_tells {n : Nat} {back : Bool} {p : Nat} (hp : p < n) : ∀ (ls : List Ln) (s : List Bool) (a : List Nat), Stays n ls → Tells n s a → Tells n (rowM back ls p s) (rowC back ls p a) := by
  intro ls
  induction ls with
  | nil => intro s a _ h; exact h
  | cons x ls ih =>
    intro s a hs h
    exact ih _ _ (fun l hl => hs l (by simp [hl])) (step_tells h (hs x (by simp) p hp))
theorem col_tells' {n : Nat} {back : Bool} {ls : List Ln} (hs : Stays n ls) : ∀ (ps : List Nat) (s : List Bool) (a : List Nat), (∀ p ∈ ps, p < n) → Tells n s a →
    Tells n (ps.foldl (fun s p => rowM back ls p s) s) (ps.foldl (fun a p => rowC back ls p a) a) := by
  intro ps
  induction ps with
  | nil => intro s a _ h; exact h
  | cons x ps ih =>
    intro s a hp h
    exact ih _ _ (fun p hq => hp p (by simp [hq])) (row_tells (hp x (by simp)) ls s a hs h)
theorem col_tells {n : Nat} {back : Bool} {ls : List Ln} {ps : List Nat} (hs : Stays n ls) (hp : ∀ p ∈ ps, p < n) : Tells n (colM back ls n ps) (colC back ls ps) :=
  col_tells' hs ps _ _ hp ⟨by simp, by simp, fun q hq => by simp [List.getD_eq_getElem?_getD, hq]⟩

/-- Two ascending lists with the same members are one. -/
theorem asc_ext : ∀ (a c : List Int), a.Pairwise (· < ·) → c.Pairwise (· < ·) → (∀ x, x ∈ a ↔ x ∈ c) → a = c := by
  intro a
  induction a with
  | nil =>
    intro c _ _ h
    cases c with
    | nil => rfl
    | cons y c => have := (h y).2 (by simp); simp at this
  | cons x a ih =>
    intro c ha hc h
    cases c with
    | nil => have := (h x).1 (by simp); simp at this
    | cons y c =>
      rw [List.pairwise_cons] at ha hc
      have hxy : x = y := by
        have h1 := (h x).1 (by simp)
        have h2 := (h y).2 (by simp)
        rcases List.mem_cons.1 h1 with e | h1
        · exact e
        · rcases List.mem_cons.1 h2 with e | h2
          · exact e.symm
          · have := hc.1 x h1; have := ha.1 y h2; omega
      subst hxy
      rw [ih c ha.2 hc.2]
      intro z
      have hz := h z
      constructor
      · intro hm
        rcases List.mem_cons.1 (hz.1 (by simp [hm])) with e | hm'
        · subst e; have := ha.1 _ hm; omega
        · exact hm'
      · intro hm
        rcases List.mem_cons.1 (hz.2 (by simp [hm])) with e | hm'
        · subst e; have := hc.1 _ hm; omega
        · exact hm'
/-- What Compact leaves of a sorted row. -/
theorem compact_facts (zs : List Int) (hs : zs.Pairwise (· ≤ ·)) : ∀ m, m ≤ zs.length →
    (compactUpTo zs.toArray m).Pairwise (· < ·) ∧ (∀ x, x ∈ compactUpTo zs.toArray m ↔ x ∈ zs.take m) := by
  intro m
  induction m with
  | zero => intro _; simp [compactUpTo]
  | succ m ih =>
    intro hm
    obtain ⟨h1, h2⟩ := ih (by omega)
    have hm' : m < zs.length := by omega
    have hg : zs.toArray[m]! = zs[m] := by simp [hm']
    have ht : zs.take (m + 1) = zs.take m ++ [zs[m]] := List.take_succ_eq_append_getElem hm'
    rw [compactUpTo_succ, ht, hg]
    by_cases hk : keeps zs.toArray m = true
    · rw [if_pos hk]
      refine ⟨?_, fun x => by simp only [List.mem_append, h2]⟩
      rw [List.pairwise_append]
      refine ⟨h1, by simp, ?_⟩
      intro x hx y hy
      simp at hy
      subst hy
      have hx' := (h2 x).1 hx
      obtain ⟨j, hj, hxj⟩ := List.mem_iff_getElem.1 hx'
      have hjm : j < m := by simp at hj; omega
      simp only [List.getElem_take] at hxj
      have hpm := List.pairwise_iff_getElem.1 hs
      have hne : zs[m] ≠ zs[m - 1] := by
        simp only [keeps, decide_eq_true_eq] at hk
        rcases hk with h | h
        · omega
        · rw [hg] at h
          simpa [show m - 1 < zs.length by omega] using h
      have a1 : zs[m - 1] ≤ zs[m] := hpm (m - 1) m (by omega) hm' (by omega)
      have a2 : zs[j] ≤ zs[m - 1] := by
        by_cases e : j = m - 1
        · subst e; exact Int.le_refl _
        · exact hpm j (m - 1) (by omega) (by omega) (by omega)
      rw [← hxj]
      omega
    · have hk' : keeps zs.toArray m = false := by simpa using hk
      rw [hk']
      simp only [Bool.false_eq_true, if_false, List.append_nil]
      refine ⟨h1, fun x => ?_⟩
      rw [h2]
      simp only [List.mem_append, List.mem_singleton]
      refine ⟨.inl, ?_⟩
      rintro (h | rfl)
      · exact h
      · have hm0 : 0 < m := by
          rcases Nat.eq_zero_or_pos m with e | e
          · subst e; simp [keeps] at hk'
          · exact e
        have he : zs[m] = zs[m - 1] := by
          simp only [keeps, decide_eq_false_iff_not, not_or] at hk'
          have := hk'.2
          rw [hg] at this
          simpa [show m - 1 < zs.length by omega] using this
        rw [he]
        exact List.mem_iff_getElem.2 ⟨m - 1, by simp; omega, by simp⟩

/-- What is one jump away, ascending. -/
def nextL (back : Bool) (ls : List Ln) (n : Nat) (ps : List Nat) : List Nat := trues (colM back ls n ps) n
def srt (zs : List Int) : List Int := zs.mergeSort fun x y => decide (x ≤ y)
theorem srt_len (zs : List Int) : (srt zs).length = zs.length := List.length_mergeSort _
theorem srt_pw (zs : List Int) : (srt zs).Pairwise (· ≤ ·) := by
  have := List.pairwise_mergeSort (le := fun x y : Int => decide (x ≤ y)) (fun a b c h1 h2 => by simp at *; omega) (fun a b => by simp; omega) zs
  exact this.imp (fun h => by simpa using h)
theorem srt_mem (zs : List Int) (x : Int) : x ∈ srt zs ↔ x ∈ zs := List.mem_mergeSort
theorem trues_asc (l : List Bool) (n : Nat) : ((trues l n).map Int.ofNat).Pairwise (· < ·) := by
  rw [List.pairwise_map]
  unfold trues
  refine (List.Pairwise.filter _ List.pairwise_lt_range).imp ?_
  intro a b h
  exact Int.ofNat_lt.2 h
theorem nextL_is {back : Bool} {ls : List Ln} {n : Nat} {ps : List Nat} (hs : Stays n ls) (hp : ∀ p ∈ ps, p < n) :
    compactUpTo (srt ((colC back ls ps).map Int.ofNat)).toArray (colC back ls ps).length = (nextL back ls n ps).map Int.ofNat := by
  have hl : (srt ((colC back ls ps).map Int.ofNat)).length = (colC back ls ps).length := by rw [srt_len]; simp
  obtain ⟨h1, h2⟩ := compact_facts _ (srt_pw ((colC back ls ps).map Int.ofNat)) _ (Nat.le_of_eq hl.symm)
  refine asc_ext _ _ h1 (trues_asc _ _) ?_
  intro x
  rw [h2, ← hl, List.take_length, srt_mem]
  obtain ⟨_, t2, t3⟩ := col_tells (back := back) hs hp
  simp only [List.mem_map, nextL, trues_mem]
  constructor
  · rintro ⟨q, hq, rfl⟩
    exact ⟨q, ⟨t2 q hq, (t3 q (t2 q hq)).2 hq⟩, rfl⟩
  · rintro ⟨q, ⟨hq, hg⟩, rfl⟩
    exact ⟨q, (t3 q hq).1 hg, rfl⟩
theorem nextL_lt {back : Bool} {ls : List Ln} {n : Nat} {ps : List Nat} : ∀ q ∈ nextL back ls n ps, q < n := fun q hq => (trues_mem.1 hq).1
theorem nextL_le (back : Bool) (ls : List Ln) (n : Nat) (ps : List Nat) : (nextL back ls n ps).length ≤ n := trues_le _ _

/-- n steps on. -/
def layL (back : Bool) (ls : List Ln) (n p : Nat) : Nat → List Nat
  | 0 => [p]
  | k + 1 => nextL back ls n (layL back ls n p k)
theorem nextL_nil (back : Bool) (ls : List Ln) (n : Nat) : nextL back ls n [] = [] := by
  simp only [nextL, colM, List.foldl_nil, trues]
  rw [List.filter_eq_nil_iff]
  intro q hq
  have hq' : q < n := by simpa using hq
  simp [List.getD_eq_getElem?_getD, hq']
theorem layL_stop {back : Bool} {ls : List Ln} {n p k : Nat} (h : layL back ls n p k = []) (d : Nat) : layL back ls n p (k + d) = [] := by
  induction d with
  | zero => exact h
  | succ d ih => rw [← Nat.add_assoc]; simp only [layL, ih, nextL_nil]
theorem layL_lt {back : Bool} {ls : List Ln} {n p : Nat} (hp : p < n) (k : Nat) : ∀ q ∈ layL back ls n p k, q < n := by
  cases k with
  | zero => intro q hq; simp [layL] at hq; omega
  | succ k => exact nextL_lt
theorem layL_le {back : Bool} {ls : List Ln} {n p : Nat} (hp : p < n) (k : Nat) : (layL back ls n p k).length ≤ n := by
  cases k with
  | zero => simp [layL]; omega
  | succ k => exact nextL_le _ _ _ _

/-- The layer of a position after m steps: nothing where the board isn't small, p is no position, or m is below 0. -/
def layerL (b : Ln) (p m : Int) (back : Bool) : List Nat :=
  if smallB b && posB b p && decide (0 ≤ m) then layL back (linesL b) (2 ^ (b.f.toNat * b.o.toNat)) p.toNat m.toNat else []
theorem layerL_no {b : Ln} {p m : Int} {back : Bool} (h : (smallB b && posB b p && decide (0 ≤ m)) = false) : layerL b p m back = [] := by simp [layerL, h]
theorem layerL_yes {w h s q : Nat} {m : Nat} {back : Bool} (hS : smallB ⟨w, h, s⟩ = true) (hP : posB ⟨w, h, s⟩ q = true) : layerL ⟨w, h, s⟩ q m back = layL back (linesL ⟨w, h, s⟩) (2 ^ (w * h)) q m := by
  simp [layerL, hS, hP]
end Go.Proofs.Ytbcgokpamhgabaa

/- The table of the reference's fewest sweeps, row by row. No program in sight. -/
import Derived.Test.YtliljgmpdfdakaaWayQ
import Derived.Test.YtliljgmpdfdakaaSweepP
import Derived.Test.YtliljgmpdfdakaaGrid
set_option linter.unusedVariables false
namespace Go.Proofs.Ytliljgmpdfdakaa
open Go.RowKit Go.Sort

/-- Which positions are done after i positions of the level of c pegs, from pg pegs on. -/
def dnp (R : List Nat) (pg c i q : Nat) : Prop := q ∈ R ∧ pg ≤ popc q ∧ (popc q < c ∨ popc q = c ∧ q ∈ R.take i)
def TabOk (R : List Nat) (F : Nat → List Int) (N pg c i : Nat) (rows : List (List Int)) : Prop := rows.length = N ∧ ∀ q, q < N → (dnp R pg c i q → rows[q]? = some (F q)) ∧ (¬ dnp R pg c i q → rows[q]? = some [])
theorem tab_start (R : List Nat) (F : Nat → List Int) (N pg : Nat) : TabOk R F N pg pg 0 (List.replicate N []) := by
  refine ⟨by simp, fun q hq => ⟨fun h => ?_, fun _ => by simp [hq]⟩⟩
  obtain ⟨_, h1, h | ⟨_, h⟩⟩ := h
  · omega
  · simp at h
theorem tab_skip {R : List Nat} {F : Nat → List Int} {N pg c i x : Nat} {rows : List (List Int)} (h : TabOk R F N pg c i rows) (hx : R[i]? = some x) (hc : popc x ≠ c) : TabOk R F N pg c (i + 1) rows := by
  refine ⟨h.1, fun q hq => ?_⟩
  have e : dnp R pg c (i + 1) q ↔ dnp R pg c i q := by
    unfold dnp
    rw [take_mem hx]
    constructor
    · rintro ⟨a, z, b | ⟨b, d | rfl⟩⟩
      · exact ⟨a, z, .inl b⟩
      · exact ⟨a, z, .inr ⟨b, d⟩⟩
      · exact absurd b hc
    · rintro ⟨a, z, b | ⟨b, d⟩⟩
      · exact ⟨a, z, .inl b⟩
      · exact ⟨a, z, .inr ⟨b, .inl d⟩⟩
  rw [e]
  exact h.2 q hq
theorem tab_set {R : List Nat} {F : Nat → List Int} {N pg c i x : Nat} {rows : List (List Int)} (h : TabOk R F N pg c i rows) (hx : R[i]? = some x) (hc : popc x = c) (hp : pg ≤ c) (hl : x < N) : TabOk R F N pg c (i + 1) (rows.set x (F x)) := by
  refine ⟨by rw [List.length_set]; exact h.1, fun q hq => ?_⟩
  by_cases e : q = x
  · subst e
    refine ⟨fun _ => by rw [List.getElem?_set]; simp [h.1, hq], fun hn => absurd ⟨List.mem_of_getElem? hx, by omega, .inr ⟨hc, (take_mem hx).2 (.inr rfl)⟩⟩ hn⟩
  · have e' : dnp R pg c (i + 1) q ↔ dnp R pg c i q := by
      unfold dnp
      rw [take_mem hx]
      simp [e]
    rw [e', List.getElem?_set, if_neg (fun h => e h.symm)]
    exact h.2 q hq
theorem tab_level {R : List Nat} {F : Nat → List Int} {N pg c : Nat} {rows : List (List Int)} (h : TabOk R F N pg c R.length rows) : TabOk R F N pg (c + 1) 0 rows := by
  refine ⟨h.1, fun q hq => ?_⟩
  have e : dnp R pg (c + 1) 0 q ↔ dnp R pg c R.length q := by
    unfold dnp
    rw [List.take_length]
    constructor
    · rintro ⟨a, z, b | ⟨_, b⟩⟩
      · rcases Nat.lt_or_eq_of_le (Nat.le_of_lt_succ b) with b | b
        · exact ⟨a, z, .inl b⟩
        · exact ⟨a, z, .inr ⟨b, a⟩⟩
      · simp at b
    · rintro ⟨a, z, b | ⟨b, _⟩⟩
      · exact ⟨a, z, .inl (by omega)⟩
      · exact ⟨a, z, .inl (by omega)⟩
  rw [e]
  exact h.2 q hq
theorem tab_next {R : List Nat} {F : Nat → List Int} {N pg c i y : Nat} {rows : List (List Int)} (h : TabOk R F N pg c i rows) (hy : y ∈ R) (hp : pg ≤ popc y) (hc : popc y < c) (hl : y < N) : rows[y]? = some (F y) := (h.2 y hl).1 ⟨hy, hp, .inl hc⟩
/-- How many are done. -/
def dcount (R : List Nat) (pg c i : Nat) : Nat := (R.filter (fun q => decide (pg ≤ popc q ∧ popc q < c))).length + ((R.take i).filter (fun q => decide (popc q = c))).length
theorem dcount_start (R : List Nat) (pg : Nat) : dcount R pg pg 0 = 0 := by
  rw [dcount, List.filter_eq_nil_iff.2 (fun q _ => by simp)]
  simp
theorem dcount_skip {R : List Nat} {pg c i x : Nat} (hx : R[i]? = some x) (hc : popc x ≠ c) : dcount R pg c (i + 1) = dcount R pg c i := by
  rw [dcount, dcount, List.take_add_one, hx, List.filter_append]
  simp [hc]
theorem dcount_hit {R : List Nat} {pg c i x : Nat} (hx : R[i]? = some x) (hc : popc x = c) : dcount R pg c (i + 1) = dcount R pg c i + 1 := by
  rw [dcount, dcount, List.take_add_one, hx, List.filter_append]
  simp [hc]
  omega
theorem dcount_level (R : List Nat) {pg c : Nat} (hp : pg ≤ c) : dcount R pg c R.length = dcount R pg (c + 1) 0 := by
  rw [dcount, dcount, List.take_length, List.take_zero, List.filter_nil, List.length_nil, Nat.add_zero]
  induction R with
  | nil => rfl
  | cons x R ih =>
    simp only [List.filter_cons]
    by_cases h1 : popc x = c
    · have a : ¬ (pg ≤ popc x ∧ popc x < c) := by omega
      have b : pg ≤ popc x ∧ popc x < c + 1 := by omega
      simp only [decide_eq_false a, decide_eq_true h1, decide_eq_true b, if_true, Bool.false_eq_true, if_false, List.length_cons]
      omega
    · by_cases h2 : pg ≤ popc x ∧ popc x < c
      · have b : pg ≤ popc x ∧ popc x < c + 1 := by omega
        simp only [decide_eq_true h2, decide_eq_false h1, decide_eq_true b, if_true, Bool.false_eq_true, if_false, List.length_cons]
        omega
      · have b : ¬ (pg ≤ popc x ∧ popc x < c + 1) := by omega
        simp only [decide_eq_false h2, decide_eq_false h1, decide_eq_false b, Bool.false_eq_true, if_false]
        exact ih
theorem dcount_le (R : List Nat) (pg c i : Nat) : dcount R pg c i ≤ R.length + R.length := by
  have a := List.length_filter_le (fun q => decide (pg ≤ popc q ∧ popc q < c)) R
  have b := List.length_filter_le (fun q => decide (popc q = c)) (R.take i)
  have d := List.length_take_le i R
  have d' : (R.take i).length ≤ R.length := by rw [List.length_take]; omega
  unfold dcount
  omega
theorem filter_full {P : Nat → Bool} : ∀ (R : List Nat), R.length ≤ (R.filter P).length → ∀ q ∈ R, P q = true
  | [], _, q, h => by simp at h
  | x :: R, hl, q, h => by
    have hle := List.length_filter_le P R
    cases hx : P x with
    | true =>
      rw [List.filter_cons_of_pos hx] at hl
      simp only [List.length_cons] at hl
      rcases List.mem_cons.1 h with rfl | h
      · exact hx
      · exact filter_full R (by omega) q h
    | false =>
      rw [List.filter_cons_of_neg (by simp [hx])] at hl
      simp only [List.length_cons] at hl
      omega
theorem dcount_full {R : List Nat} {pg c : Nat} (h : R.length ≤ dcount R pg c 0) : ∀ q ∈ R, popc q < c := fun q hq => by
  have h1 : R.length ≤ (R.filter (fun q => decide (pg ≤ popc q ∧ popc q < c))).length := by simpa [dcount] using h
  have := filter_full R h1 q hq
  have := of_decide_eq_true this
  exact this.2
/-- The row of a position: one number for each last hole. -/
def tabV (ls : List Ln) (good : Nat → Bool) (g q : Nat) (a : Nat) : Int := if good q then swp ls good g q a else -1
def rowV (ls : List Ln) (good : Nat → Bool) (g wh q : Nat) : List Int := (List.range (wh + 1)).map (tabV ls good g q)
theorem rowV_len (ls : List Ln) (good : Nat → Bool) (g wh q : Nat) : (rowV ls good g wh q).length = wh + 1 := by simp [rowV]
theorem rowV_get {ls : List Ln} {good : Nat → Bool} {g wh q a : Nat} (h : a ≤ wh) : (rowV ls good g wh q)[a]? = some (tabV ls good g q a) := by
  simp [rowV, List.getElem?_range (show a < wh + 1 by omega)]
def partV (ls : List Ln) (good : Nat → Bool) (g wh q k : Nat) : List Int := (rowV ls good g wh q).take k ++ List.replicate (wh + 1 - k) 0
theorem partV_zero (ls : List Ln) (good : Nat → Bool) (g wh q : Nat) : partV ls good g wh q 0 = List.replicate (wh + 1) 0 := by simp [partV]
theorem partV_len {ls : List Ln} {good : Nat → Bool} {g wh q k : Nat} (h : k ≤ wh + 1) : (partV ls good g wh q k).length = wh + 1 := by
  rw [partV, List.length_append, List.length_take, rowV_len, List.length_replicate]; omega
theorem partV_next {ls : List Ln} {good : Nat → Bool} {g wh q k : Nat} (h : k ≤ wh) : (partV ls good g wh q k).set k (tabV ls good g q k) = partV ls good g wh q (k + 1) := by
  have := set_fill (rowV ls good g wh q) 0 (rowV_get h)
  rw [rowV_len] at this
  exact this
theorem partV_end (ls : List Ln) (good : Nat → Bool) (g wh q : Nat) : partV ls good g wh q (wh + 1) = rowV ls good g wh q := by
  rw [partV, List.take_of_length_le (by rw [rowV_len]; omega)]; simp
/-- Rows of numbers in memory. -/
def flatsI (rs : List (List Int)) : List (List Value) := rs.map ints
theorem flatsI_len (rs : List (List Int)) : (flatsI rs).length = rs.length := by simp [flatsI]
theorem flatsI_get {rs : List (List Int)} {i : Nat} {xs : List Value} (h : (flatsI rs)[i]? = some xs) : ∃ r, rs[i]? = some r ∧ xs = ints r := by
  simp only [flatsI, List.getElem?_map, Option.map_eq_some_iff] at h
  obtain ⟨r, hr, rfl⟩ := h
  exact ⟨r, hr, rfl⟩
theorem flatsI_set (rs : List (List Int)) (i : Nat) (r : List Int) : flatsI (rs.set i r) = (flatsI rs).set i (ints r) := by simp [flatsI, List.map_set]
theorem Grid.rowI {w : World} {base T E : Nat} {A : Option Addr} {n c i : Nat} {vs : List Value} {rs : List (List Int)} (h : Grid w base T E 1 (.slice A n c) vs (flatsI rs)) (hi : i < rs.length) :
    ∃ g Ai ci r, A = some ⟨g, 0, none⟩ ∧ g < w.heap.size ∧ rs[i]? = some r ∧ vs[i]? = some (.slice Ai r.length ci) ∧ w.ownsRow base E 1 (.slice Ai r.length ci) r.length (ints r) ∧ w.cell? ⟨g, i, none⟩ = some (.slice Ai r.length ci) ∧ w.frozen? ⟨g, i, none⟩ = false := by
  obtain ⟨g, u, xs, m, hA, hg, hu, hx, ho, hc, hf⟩ := h.at (i := i) (by rw [flatsI_len]; exact hi)
  obtain ⟨r, hr, rfl⟩ := flatsI_get hx
  obtain rfl := own_numbers ho
  obtain ⟨Ai, ci, rfl⟩ := own_value ho
  exact ⟨g, Ai, ci, r, hA, hg, hr, hu, ho, hc, hf⟩
theorem grid_made {w : World} {base T E N : Nat} {v : Value} (ho : w.ownsRow base T 1 v N (List.replicate N (.slice none 0 0))) : Grid w base T E 1 v (List.replicate N (.slice none 0 0)) (flatsI (List.replicate N [])) := by
  refine ⟨by simpa using ho, by simp [flatsI], fun i u xs hu hx => ?_, fun i j u u' g hu hu' hg hg' => ?_, fun i u g hu hg => ?_⟩
  · have hu2 : u = .slice none 0 0 := by
      have := List.mem_of_getElem? hu
      exact (List.mem_replicate.1 this).2
    obtain ⟨r, hr, rfl⟩ := flatsI_get hx
    have hr2 : r = [] := (List.mem_replicate.1 (List.mem_of_getElem? hr)).2
    subst hu2 hr2
    exact ⟨0, World.ownsRow_nil _ _ _ _⟩
  · have := (List.mem_replicate.1 (List.mem_of_getElem? hu)).2
    subst this
    cases hg
  · have := (List.mem_replicate.1 (List.mem_of_getElem? hu)).2
    subst this
    cases hg
end Go.Proofs.Ytliljgmpdfdakaa

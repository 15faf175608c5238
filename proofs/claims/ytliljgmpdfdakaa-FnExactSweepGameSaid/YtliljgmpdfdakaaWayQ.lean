/- The table of the reference's counting, entry by entry. No program in sight. -/
import Derived.Test.YtliljgmpdfdakaaWayP
set_option linter.unusedVariables false
namespace Go.Proofs.Ytliljgmpdfdakaa
open Go.RowKit

/-- Which positions are done after i positions of the level of c pegs. -/
def dn (R : List Nat) (c i q : Nat) : Prop := q ∈ R ∧ (popc q < c ∨ popc q = c ∧ q ∈ R.take i)
def OutOk (R : List Nat) (f : Nat → Int) (N c i : Nat) (out : List Int) : Prop := out.length = N ∧ ∀ q, q < N → (dn R c i q → out[q]? = some (f q)) ∧ (¬ dn R c i q → out[q]? = some 0)
theorem ok_start (R : List Nat) (f : Nat → Int) (N : Nat) : OutOk R f N 0 0 (List.replicate N 0) := by
  refine ⟨by simp, fun q hq => ⟨fun h => ?_, fun _ => by simp [hq]⟩⟩
  obtain ⟨_, h | ⟨_, h⟩⟩ := h
  · omega
  · simp at h
theorem take_mem {R : List Nat} {i x q : Nat} (hx : R[i]? = some x) : q ∈ R.take (i + 1) ↔ q ∈ R.take i ∨ q = x := by
  rw [List.take_add_one, hx]; simp
theorem ok_skip {R : List Nat} {f : Nat → Int} {N c i x : Nat} {out : List Int} (h : OutOk R f N c i out) (hx : R[i]? = some x) (hc : popc x ≠ c) : OutOk R f N c (i + 1) out := by
  refine ⟨h.1, fun q hq => ?_⟩
  have e : dn R c (i + 1) q ↔ dn R c i q := by
    unfold dn
    rw [take_mem hx]
    constructor
    · rintro ⟨a, b | ⟨b, d | rfl⟩⟩
      · exact ⟨a, .inl b⟩
      · exact ⟨a, .inr ⟨b, d⟩⟩
      · exact absurd b hc
    · rintro ⟨a, b | ⟨b, d⟩⟩
      · exact ⟨a, .inl b⟩
      · exact ⟨a, .inr ⟨b, .inl d⟩⟩
  rw [e]
  exact h.2 q hq
theorem ok_set {R : List Nat} {f : Nat → Int} {N c i x : Nat} {out : List Int} (h : OutOk R f N c i out) (hx : R[i]? = some x) (hc : popc x = c) (hl : x < N) : OutOk R f N c (i + 1) (out.set x (f x)) := by
  refine ⟨by rw [List.length_set]; exact h.1, fun q hq => ?_⟩
  by_cases e : q = x
  · subst e
    refine ⟨fun _ => by rw [List.getElem?_set]; simp [h.1, hq], fun hn => absurd ⟨List.mem_of_getElem? hx, .inr ⟨hc, (take_mem hx).2 (.inr rfl)⟩⟩ hn⟩
  · have e' : dn R c (i + 1) q ↔ dn R c i q := by
      unfold dn
      rw [take_mem hx]
      simp [e]
    rw [e', List.getElem?_set, if_neg (fun h => e h.symm)]
    exact h.2 q hq
theorem ok_zero {R : List Nat} {f : Nat → Int} {N c i x : Nat} {out : List Int} (h : OutOk R f N c i out) (hn : R.Nodup) (hx : R[i]? = some x) (hc : popc x = c) (hl : x < N) : out[x]? = some 0 := by
  refine (h.2 x hl).2 ?_
  rintro ⟨_, a | ⟨_, a⟩⟩
  · omega
  · obtain ⟨j, hj⟩ := List.getElem?_of_mem a
    rw [List.getElem?_take] at hj
    split at hj
    · next hji =>
      have hi := (List.getElem?_eq_some_iff.1 hx).1
      obtain ⟨hj1, hj2⟩ := List.getElem?_eq_some_iff.1 hj
      obtain ⟨hi1, hi2⟩ := List.getElem?_eq_some_iff.1 hx
      have := (List.getElem_inj (h₀ := hj1) (h₁ := hi1) hn).1 (by rw [hj2, hi2])
      omega
    · cases hj
theorem ok_next {R : List Nat} {f : Nat → Int} {N c i y : Nat} {out : List Int} (h : OutOk R f N c i out) (hy : y ∈ R) (hc : popc y < c) (hl : y < N) : out[y]? = some (f y) := (h.2 y hl).1 ⟨hy, .inl hc⟩
theorem ok_level {R : List Nat} {f : Nat → Int} {N c : Nat} {out : List Int} (h : OutOk R f N c R.length out) : OutOk R f N (c + 1) 0 out := by
  refine ⟨h.1, fun q hq => ?_⟩
  have e : dn R (c + 1) 0 q ↔ dn R c R.length q := by
    unfold dn
    rw [List.take_length]
    constructor
    · rintro ⟨a, b | ⟨_, b⟩⟩
      · rcases Nat.lt_or_eq_of_le (Nat.le_of_lt_succ b) with b | b
        · exact ⟨a, .inl b⟩
        · exact ⟨a, .inr ⟨b, a⟩⟩
      · simp at b
    · rintro ⟨a, b | ⟨b, _⟩⟩
      · exact ⟨a, .inl (by omega)⟩
      · exact ⟨a, .inl (by omega)⟩
  rw [e]
  exact h.2 q hq
theorem ok_end {R : List Nat} {f : Nat → Int} {N c i y : Nat} {out : List Int} (h : OutOk R f N c i out) (hy : y ∈ R) (hc : popc y < c) (hl : y < N) : out[y]? = some (f y) := ok_next h hy hc hl
theorem set_other {out : List Int} {x y : Nat} {s v : Int} (h : out[y]? = some v) (hxy : y ≠ x) : (out.set x s)[y]? = some v := by
  rw [List.getElem?_set, if_neg (fun e => hxy e.symm)]; exact h
theorem set_here {out : List Int} {x : Nat} {s : Int} (h : x < out.length) : (out.set x s)[x]? = some s := by
  rw [List.getElem?_set]; simp [h]
theorem set_zero {out : List Int} {x : Nat} (h : out[x]? = some 0) : out.set x 0 = out := by
  obtain ⟨h1, h2⟩ := List.getElem?_eq_some_iff.1 h
  apply List.ext_getElem?
  intro k
  rw [List.getElem?_set]
  split
  · next e => subst e; simp [h1, h2]
  · rfl
end Go.Proofs.Ytliljgmpdfdakaa

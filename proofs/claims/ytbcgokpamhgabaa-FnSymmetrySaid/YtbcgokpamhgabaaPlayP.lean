/- Games played one jump after another. No program in sight. -/
import Derived.Test.YtbcgokpamhgabaaJumpP
set_option linter.unusedVariables false
namespace Go.Proofs.Ytbcgokpamhgabaa

theorem line_is' {w h s : Nat} {l : Ln} (hb : BdOk w h s) (hl : l ∈ linesL ⟨w, h, s⟩) : lineB ⟨w, h, s⟩ l = true := by
  have hsome : (findL (linesL ⟨w, h, s⟩) l.f l.t).isSome = true := by
    unfold findL
    rw [List.find?_isSome]
    exact ⟨l, hl, by simp⟩
  obtain ⟨m, hm⟩ := Option.isSome_iff_exists.1 hsome
  have hmem := List.mem_of_find?_eq_some hm
  have hp := List.find?_some hm
  simp only [Bool.and_eq_true, beq_iff_eq] at hp
  obtain ⟨f, o, t, k1⟩ := linesL_ok hb hl
  obtain ⟨f', o', t', k2⟩ := linesL_ok hb hmem
  have e1 := k1.eq
  have e2 := k2.eq
  subst e1 e2
  simp only at hp
  have h1 := k1.mid
  have h2 := k2.mid
  have : (⟨f', o', t'⟩ : Ln) = ⟨f, o, t⟩ := by rw [Ln.ext_iff']; simp only; omega
  unfold lineB btwB btwL
  rw [hm]
  simp [eqL, this]
theorem jumps_do {b l : Ln} {p : Int} (h : l ∈ jumpsL b p) : doB b p l = true := by
  unfold jumpsL at h
  split at h
  · rename_i hP
    obtain ⟨w, hh, s, q, rfl, rfl, hb, hq⟩ := posB_open hP
    have h' := List.mem_filter.1 h
    rw [doB_can hP (line_is' hb h'.1)]
    simpa using h'.2
  · simp at h
theorem playP_snoc (b : Ln) (p : Int) (ls : List Ln) (l : Ln) : playP b p (ls ++ [l]) = doP b (playP b p ls) l := by simp [playP]
theorem playsB_snoc {b : Ln} {p : Int} {ls : List Ln} {l : Ln} (h : playsB b p ls = true) (hl : doB b (playP b p ls) l = true) : playsB b p (ls ++ [l]) = true := by
  rw [playsB_append, h]
  simp [playsB, hl]
theorem playB_of {b : Ln} {p : Int} {ls : List Ln} (h : posB b p = true) (hn : ls.length ≤ 60) (hp : playsB b p ls = true) : playB b p ls = true := by
  simp [playB, h, hn, hp]
/-- Do the jumps lead to the goal? -/
def solB (b : Ln) (p g : Int) (js : List Ln) : Bool := playB b p js && (playR b p js == g)
theorem jumpsL_le (b : Ln) (p : Int) : (jumpsL b p).length ≤ 196 := by
  unfold jumpsL
  split
  · exact Nat.le_trans (List.length_filter_le _ _) (linesL_le b)
  · simp
end Go.Proofs.Ytbcgokpamhgabaa

/- What the law FnTurned says, as plain facts: a game played backwards leads between the complements. No program in sight. -/
import Derived.Test.YtbcgokpamhgabaaPlayP
import Derived.Test.YtbcgokpamhgabaaSet
import Derived.Test.YtbcgokpamhgabaaOnesP
set_option linter.unusedVariables false
namespace Go.Proofs.Ytbcgokpamhgabaa

/-- The complement of a position. -/
def othP (b : Ln) (p : Int) : Int := if posB b p then (adiff b.t.toNat p.toNat : Nat) else -1
theorem oth_yes {w h s q : Nat} (hP : posB ⟨w, h, s⟩ q = true) : othP ⟨w, h, s⟩ q = (adiff s q : Nat) := by simp [othP, hP]
theorem oth_no {b : Ln} {p : Int} (hP : posB b p = false) : othP b p = -1 := by simp [othP, hP]
theorem adiff_sub2 (s q : Nat) : adiff s q &&& s = adiff s q := by
  apply Nat.eq_of_testBit_eq
  intro i
  rw [Nat.testBit_and, testBit_adiff]
  cases s.testBit i <;> cases q.testBit i <;> rfl
theorem oth_pos {b : Ln} {p : Int} (hP : posB b p = true) : posB b (othP b p) = true := by
  obtain ⟨w, h, s, q, rfl, rfl, hb, hq⟩ := posB_open hP
  rw [oth_yes hP]
  exact posB_of hb (adiff_sub2 s q)
theorem adiff_adiff {s q : Nat} (hq : q &&& s = q) : adiff s (adiff s q) = q := by
  apply Nat.eq_of_testBit_eq
  intro i
  have := congrArg (fun x => x.testBit i) hq
  simp only [Nat.testBit_and] at this
  rw [testBit_adiff, testBit_adiff]
  revert this
  cases s.testBit i <;> cases q.testBit i <;> simp
theorem oth_oth {b : Ln} {p : Int} (hP : posB b p = true) : othP b (othP b p) = p := by
  have hO := oth_pos hP
  obtain ⟨w, h, s, q, rfl, rfl, hb, hq⟩ := posB_open hP
  rw [oth_yes hP] at hO ⊢
  rw [oth_yes hO, adiff_adiff hq]
theorem pop_split {s q : Nat} (hq : q &&& s = q) : popc q + popc (adiff s q) = popc s := by
  unfold popc
  have key : ∀ n, (bitsOf q n).length + (bitsOf (adiff s q) n).length = (bitsOf s n).length := by
    intro n
    induction n with
    | zero => rfl
    | succ n ih =>
      rw [len_succ, len_succ, len_succ]
      have := congrArg (fun x => x.testBit n) hq
      simp only [Nat.testBit_and] at this
      rw [testBit_adiff]
      revert this
      cases s.testBit n <;> cases q.testBit n <;> simp <;> omega
  exact key 49
/-- A jump in the complement of what it leads to. -/
theorem flip_oth {s q f o t : Nat} (hq : q &&& s = q) (hf : s.testBit f = true) (ho : s.testBit o = true) (ht : s.testBit t = true) : flip (adiff s (flip q ⟨f, o, t⟩)) ⟨f, o, t⟩ = adiff s q := by
  apply Nat.eq_of_testBit_eq
  intro i
  simp only [flip, Nat.testBit_xor, testBit_adiff, testBit_lbits]
  by_cases e1 : f = i
  · subst e1; simp [hf]
  · by_cases e2 : o = i
    · subst e2; simp [ho]
    · by_cases e3 : t = i
      · subst e3; simp [ht]
      · simp [e1, e2, e3]
theorem canJ_oth {s q f o t : Nat} (hf : s.testBit f = true) (ho : s.testBit o = true) (ht : s.testBit t = true) (hft : f ≠ t) (hot : o ≠ t) (hfo : f ≠ o) (h : canJ q ⟨f, o, t⟩ = true) : canJ (adiff s (flip q ⟨f, o, t⟩)) ⟨f, o, t⟩ = true := by
  simp only [canJ, Int.toNat_natCast, Bool.and_eq_true, Bool.not_eq_true'] at h ⊢
  obtain ⟨h1, h2, h3⟩ := h
  simp [flip, Nat.testBit_xor, testBit_adiff, testBit_lbits, hf, ho, ht, h1, h2, h3]
theorem do_oth {b l : Ln} {p : Int} (h : doB b p l = true) : doB b (othP b (doP b p l)) l = true ∧ doP b (othP b (doP b p l)) l = othP b p := by
  have h' := h
  simp only [doB, Bool.and_eq_true] at h'
  obtain ⟨hP, hL, hJ⟩ := h'
  have hD := doP_pos (l := l) hP
  have hO := oth_pos hD
  obtain ⟨w, hh, s, q, rfl, rfl, hb, hq⟩ := posB_open hP
  obtain ⟨f, o, t, hl⟩ := lineB_ok hb hL
  have e := hl.eq
  subst e
  rw [doP_yes h] at hD hO ⊢
  rw [oth_yes hD] at hO ⊢
  rw [Int.toNat_natCast] at hJ
  have hj := canJ_oth hl.fs hl.os hl.ts hl.ft hl.ot hl.fo hJ
  have hd : doB ⟨w, hh, s⟩ (adiff s (flip q ⟨f, o, t⟩) : Nat) ⟨f, o, t⟩ = true := by rw [doB_can hO hL]; exact hj
  refine ⟨hd, ?_⟩
  rw [doP_yes hd, flip_oth hq hl.fs hl.os hl.ts, oth_yes hP]
theorem play_oth {b : Ln} : ∀ (ls : List Ln) (p : Int), playsB b p ls = true → playsB b (othP b (playP b p ls)) ls.reverse = true ∧ playP b (othP b (playP b p ls)) ls.reverse = othP b p
  | [], p, _ => ⟨rfl, rfl⟩
  | l :: ls, p, h => by
    simp only [playsB, Bool.and_eq_true] at h
    obtain ⟨hd, hr⟩ := h
    obtain ⟨i1, i2⟩ := play_oth ls (doP b p l) hr
    have e : playP b p (l :: ls) = playP b (doP b p l) ls := rfl
    obtain ⟨j1, j2⟩ := do_oth hd
    rw [e, List.reverse_cons]
    exact ⟨playsB_snoc i1 (by rw [i2]; exact j1), by rw [playP_snoc, i2, j2]⟩
/-- The turned game leads from the complement of the end to the complement of the start. -/
theorem drop_one' {ls : List Ln} {k : Nat} {x : Ln} (h : ls[k]? = some x) : ls.drop k = x :: ls.drop (k + 1) := by
  obtain ⟨hk, rfl⟩ := List.getElem?_eq_some_iff.1 h
  exact List.drop_eq_getElem_cons hk
theorem sol_oth {b : Ln} {p : Int} {ls : List Ln} (hP : posB b p = true) (hn : ls.length ≤ 60) (h : playsB b p ls = true) :
    solB b (othP b (playP b p ls)) (othP b p) ls.reverse = true := by
  obtain ⟨i1, i2⟩ := play_oth ls p h
  have hO := oth_pos (playP_pos hP ls)
  have hB := playB_of hO (by simpa using hn) i1
  rw [solB, hB, playR, if_pos hB, i2]
  simp
end Go.Proofs.Ytbcgokpamhgabaa

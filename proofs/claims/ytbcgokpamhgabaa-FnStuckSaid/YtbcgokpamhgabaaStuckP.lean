/- Every game ends in a stuck position: the plain law of FnStuck. -/
import Derived.Test.YtbcgokpamhgabaaChecked
import Derived.Test.YtbcgokpamhgabaaMem
import Derived.Tactics
import Derived.Tactics2
import Derived.WalkKit
import Derived.WalkSpells
import Derived.WalkLawsBesides
import Derived.Deep.QuietTactic
import Derived.BigQuiet
import Derived.BigGuardPart
import Derived.Lib.QuietBelow
import Derived.OwnWalk
import Derived.KernelRfl
import Derived.Test.YtbcgokpamhgabaaLongG
import Derived.Test.YtbcgokpamhgabaaLeadP
import Derived.Test.YtbcgokpamhgabaaPlayP
import Derived.Test.YtbcgokpamhgabaaSmall
set_option linter.unusedVariables false
namespace Go.Proofs.Ytbcgokpamhgabaa
open Go.RowKit Go.Sort

theorem most_all (rs : List Nat) : (∀ q ∈ rs, ((popc q : Nat) : Int) ≤ mostL rs rs.length) ∧ (mostL rs rs.length = -1 ∨ ∃ q ∈ rs, ((popc q : Nat) : Int) = mostL rs rs.length) := by
  rw [mostL, List.take_length]
  have gen : ∀ (l : List Nat) (a : Int), a ≤ l.foldl (fun a q => if a < ((popc q : Nat) : Int) then ((popc q : Nat) : Int) else a) a ∧ (∀ q ∈ l, ((popc q : Nat) : Int) ≤ l.foldl (fun a q => if a < ((popc q : Nat) : Int) then ((popc q : Nat) : Int) else a) a) ∧
      (l.foldl (fun a q => if a < ((popc q : Nat) : Int) then ((popc q : Nat) : Int) else a) a = a ∨ ∃ q ∈ l, ((popc q : Nat) : Int) = l.foldl (fun a q => if a < ((popc q : Nat) : Int) then ((popc q : Nat) : Int) else a) a) := by
    intro l
    induction l with
    | nil => intro a; exact ⟨Int.le_refl _, by simp, .inl rfl⟩
    | cons x l ih =>
      intro a
      obtain ⟨h1, h2, h3⟩ := ih (if a < ((popc x : Nat) : Int) then ((popc x : Nat) : Int) else a)
      simp only [List.foldl_cons]
      refine ⟨Int.le_trans (by split <;> omega) h1, ?_, ?_⟩
      · intro q hq
        rcases List.mem_cons.1 hq with rfl | hq
        · exact Int.le_trans (by split <;> omega) h1
        · exact h2 q hq
      · rcases h3 with h3 | ⟨q, hq, h3⟩
        · rw [h3]
          split
          · exact .inr ⟨x, by simp, rfl⟩
          · exact .inl rfl
        · exact .inr ⟨q, by simp [hq], h3⟩
  exact ⟨(gen rs _).2.1, (gen rs _).2.2⟩
theorem few_all (rs : List Nat) : (∀ q ∈ rs, fewL rs rs.length ≤ ((popc q : Nat) : Int)) ∧ (rs ≠ [] → 0 ≤ fewL rs rs.length) := by
  rw [fewL, List.take_length]
  have gen : ∀ (l : List Nat) (a : Int), (0 ≤ a → 0 ≤ l.foldl (fun a q => if a < 0 ∨ ((popc q : Nat) : Int) < a then ((popc q : Nat) : Int) else a) a ∧ l.foldl (fun a q => if a < 0 ∨ ((popc q : Nat) : Int) < a then ((popc q : Nat) : Int) else a) a ≤ a) ∧
      (∀ q ∈ l, l.foldl (fun a q => if a < 0 ∨ ((popc q : Nat) : Int) < a then ((popc q : Nat) : Int) else a) a ≤ ((popc q : Nat) : Int)) ∧ (l ≠ [] → 0 ≤ l.foldl (fun a q => if a < 0 ∨ ((popc q : Nat) : Int) < a then ((popc q : Nat) : Int) else a) a) := by
    intro l
    induction l with
    | nil => intro a; exact ⟨fun h => ⟨h, Int.le_refl _⟩, by simp, by simp⟩
    | cons x l ih =>
      intro a
      obtain ⟨h1, h2, h3⟩ := ih (if a < 0 ∨ ((popc x : Nat) : Int) < a then ((popc x : Nat) : Int) else a)
      have h0 : (0 : Int) ≤ (if a < 0 ∨ ((popc x : Nat) : Int) < a then ((popc x : Nat) : Int) else a) := by split <;> omega
      have hx : (if a < 0 ∨ ((popc x : Nat) : Int) < a then ((popc x : Nat) : Int) else a) ≤ ((popc x : Nat) : Int) := by split <;> omega
      obtain ⟨h4, h5⟩ := h1 h0
      simp only [List.foldl_cons]
      refine ⟨fun ha => ⟨h4, Int.le_trans h5 (by split <;> omega)⟩, ?_, fun _ => h4⟩
      intro q hq
      rcases List.mem_cons.1 hq with rfl | hq
      · exact Int.le_trans h5 hx
      · exact h2 q hq
  exact ⟨(gen rs _).2.1, (gen rs _).2.2⟩

theorem ln49s {w h s : Nat} (hb : BdOk w h s) : ∀ l ∈ linesL ⟨w, h, s⟩, Ln49 l := fun l hl => by
  obtain ⟨f, o, t, hl⟩ := linesL_ok hb hl
  have := hb.area
  exact ⟨f, o, t, hl.1, by have := hl.f1; omega, by have := hl.o1; omega, by have := hl.t1; omega, hl.ft, hl.ot, hl.fo⟩
theorem small_of {w h s : Nat} (hb : BdOk w h s) (h16 : w * h ≤ 16) : smallB ⟨w, h, s⟩ = true := by
  have hB := posB_board (posB_of hb (q := 0) (by simp))
  have h2 : (w : Int) * h ≤ 16 := by rw [← Int.natCast_mul]; omega
  simp only [smallB, hB, Bool.true_and, decide_eq_true_eq]
  exact h2
theorem stuckL_no {ls : List Ln} {p : Nat} (h : stuckL ls p = false) : ∃ l ∈ ls, canJ p l = true := by
  simpa [stuckL] using h
/-- From every position a stuck one can be reached. -/
theorem stuck_leads {ls : List Ln} (h49 : ∀ l ∈ ls, Ln49 l) : ∀ (n p : Nat), popc p ≤ n → ∃ q, Leads ls p q ∧ stuckL ls q = true
  | n, p, hn => by
    rcases Bool.eq_false_or_eq_true (stuckL ls p) with h | h
    · exact ⟨p, .refl p, h⟩
    · obtain ⟨l, hl, hc⟩ := stuckL_no h
      have hp := popc_jump (h49 l hl) hc
      match n, hn with
      | 0, hn => omega
      | n + 1, hn =>
        obtain ⟨q, h1, h2⟩ := stuck_leads h49 n (flip p l) (by omega)
        exact ⟨q, .head l hl hc h1, h2⟩
theorem leads_eq {ls : List Ln} (h49 : ∀ l ∈ ls, Ln49 l) {p q : Nat} (h : Leads ls p q) (e : popc p ≤ popc q) : p = q := by
  cases h with
  | refl => rfl
  | head l hl hc h =>
    have h1 := popc_jump (h49 l hl) hc
    have h2 := Leads.pop h49 h
    omega
section
variable {w h s : Nat} {p : Nat} (hb : BdOk w h s) (h16 : w * h ≤ 16) (hP : posB ⟨w, h, s⟩ p = true)
include hb h16 hP
theorem reach_leads (x : Nat) : x ∈ reachL ⟨w, h, s⟩ p false ↔ Leads (linesL ⟨w, h, s⟩) p x := by
  obtain ⟨q, hq, hs⟩ := posB_nat hP
  obtain rfl : p = q := by omega
  rw [reachL_mem (small_of hb h16) hP, bfs_fwd (posB_lt hb hs) (stays_of hb)]
theorem stuck_mem (x : Nat) : x ∈ stuckR ⟨w, h, s⟩ p ↔ Leads (linesL ⟨w, h, s⟩) p x ∧ stuckL (linesL ⟨w, h, s⟩) x = true := by
  rw [stuckR, stk, List.take_length, List.mem_filter, reach_leads hb h16 hP]
theorem stuck_some : stuckR ⟨w, h, s⟩ p ≠ [] := by
  obtain ⟨q, h1, h2⟩ := stuck_leads (ln49s hb) (popc p) p (Nat.le_refl _)
  exact List.ne_nil_of_mem ((stuck_mem hb h16 hP q).2 ⟨h1, h2⟩)
theorem most_ge (x : Nat) (h1 : Leads (linesL ⟨w, h, s⟩) p x) (h2 : stuckL (linesL ⟨w, h, s⟩) x = true) : ((popc x : Nat) : Int) ≤ mostR ⟨w, h, s⟩ p :=
  (most_all _).1 x ((stuck_mem hb h16 hP x).2 ⟨h1, h2⟩)
theorem most_at : ∃ x, Leads (linesL ⟨w, h, s⟩) p x ∧ stuckL (linesL ⟨w, h, s⟩) x = true ∧ ((popc x : Nat) : Int) = mostR ⟨w, h, s⟩ p := by
  obtain ⟨q, h1, h2⟩ := stuck_leads (ln49s hb) (popc p) p (Nat.le_refl _)
  have h3 := most_ge hb h16 hP q h1 h2
  rcases (most_all (stuckR ⟨w, h, s⟩ p)).2 with h4 | ⟨x, hx, h4⟩
  · have h4' : mostR ⟨w, h, s⟩ p = -1 := h4
    omega
  · have := (stuck_mem hb h16 hP x).1 hx
    exact ⟨x, this.1, this.2, h4⟩
theorem few_most : 0 ≤ fewR ⟨w, h, s⟩ p ∧ fewR ⟨w, h, s⟩ p ≤ mostR ⟨w, h, s⟩ p ∧ mostR ⟨w, h, s⟩ p ≤ (popc p : Nat) := by
  obtain ⟨x, h1, h2, h3⟩ := most_at hb h16 hP
  have hx := (reach_leads hb h16 hP x).2 h1
  have h4 := (few_all (reachL ⟨w, h, s⟩ p false)).1 x hx
  have h5 := (few_all (reachL ⟨w, h, s⟩ p false)).2 (List.ne_nil_of_mem hx)
  have h6 := Leads.pop (ln49s hb) h1
  have h4' : fewR ⟨w, h, s⟩ p ≤ ((popc x : Nat) : Int) := h4
  exact ⟨h5, by omega, by omega⟩
theorem short_zero : decide ((popc p : Nat) - mostR ⟨w, h, s⟩ p = 0) = stuckB ⟨w, h, s⟩ p := by
  have e := stuck_jumps hP
  rw [stuckB, hP, Bool.true_and, ← e]
  obtain ⟨x, h1, h2, h3⟩ := most_at hb h16 hP
  have h6 := Leads.pop (ln49s hb) h1
  rw [Bool.eq_iff_iff, decide_eq_true_eq]
  constructor
  · intro hz
    have := leads_eq (ln49s hb) h1 (by omega)
    rw [this]; exact h2
  · intro hz
    have := most_ge hb h16 hP p (.refl p) hz
    omega
end
theorem jump_on {w h s : Nat} {p q : Nat} {l : Ln} (hb : BdOk w h s) (hQ : posB ⟨w, h, s⟩ q = true) (hl : l ∈ jumpsL ⟨w, h, s⟩ q) (hp : Leads (linesL ⟨w, h, s⟩) p q) :
    doP ⟨w, h, s⟩ q l = (flip q l : Nat) ∧ Leads (linesL ⟨w, h, s⟩) p (flip q l) ∧ popc (flip q l) + 1 = popc q ∧ posB ⟨w, h, s⟩ (flip q l : Nat) = true := by
  have hd := jumps_do hl
  have e := doP_yes hd
  have hl' : l ∈ linesL ⟨w, h, s⟩ ∧ canJ q l = true := by
    rw [jumpsL, if_pos hQ, List.mem_filter, Int.toNat_natCast] at hl
    exact hl
  have := doP_pos (l := l) hQ
  rw [e] at this
  exact ⟨e, hp.tail hl'.1 hl'.2, popc_jump (ln49s hb l hl'.1) hl'.2, this⟩
theorem none_stuck {w h s : Nat} {q : Nat} (hb : BdOk w h s) (h0 : popc q = 0) : stuckL (linesL ⟨w, h, s⟩) q = true :=
  stuck_all (no_jump (ln49s hb) h0)
theorem pop16 {w h s : Nat} {p : Nat} (hb : BdOk w h s) (h16 : w * h ≤ 16) (hP : posB ⟨w, h, s⟩ p = true) : popc p ≤ 16 := by
  obtain ⟨q, hq, hs⟩ := posB_nat hP
  obtain rfl : p = q := by omega
  exact Nat.le_trans (popc_le p (posB_lt hb hs) (by have := hb.area; omega)) h16
theorem stuckB_of {w h s : Nat} {q : Nat} (hQ : posB ⟨w, h, s⟩ q = true) (hs : stuckL (linesL ⟨w, h, s⟩) q = true) : stuckB ⟨w, h, s⟩ q = true := by
  rw [stuckB, hQ, Bool.true_and, ← stuck_jumps hQ]; exact hs
theorem count_three : countStuckF ⟨3, 1, 7⟩ = 6 := by decide +kernel
end Go.Proofs.Ytbcgokpamhgabaa

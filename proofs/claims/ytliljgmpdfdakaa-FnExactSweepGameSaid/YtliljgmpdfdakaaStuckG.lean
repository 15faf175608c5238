/- The contracts of StuckOf. -/
import Derived.Test.YtliljgmpdfdakaaChecked
import Derived.Test.YtliljgmpdfdakaaMem
import Derived.Tactics
import Derived.Tactics2
import Derived.WalkKit
import Derived.WalkSpells
import Derived.WalkLawsBesides
import Derived.Deep.QuietTactic
import Derived.BigQuiet
import Derived.BigGuardPart
import Derived.Lib.QuietBelow
import Derived.OwnWalk
import Derived.KernelRfl
import Derived.Test.YtliljgmpdfdakaaReachF
set_option linter.unusedVariables false
set_option maxRecDepth 20000
namespace Go.Proofs.Ytliljgmpdfdakaa
open Go.RowKit Go.Sort

theorem rd_nat {w : World} {B : Nat} {A : Option Addr} {xs : List Nat} (h : Rd w B A (ints (natL xs))) {k x : Nat} (hx : xs[k]? = some x) :
    ∃ b off, A = some ⟨b, off, none⟩ ∧ b < B ∧ w.cell? ⟨b, off + k, none⟩ = some (.int .i64 x) := by
  obtain ⟨b, off, y, hA, hb, hy, hc⟩ := h.int (k := k) (by rw [natL_length]; exact (List.getElem?_eq_some_iff.1 hx).1)
  rw [natL_get hx] at hy
  injection hy with hy
  subst hy
  exact ⟨b, off, hA, hb, hc⟩
/-- Those of the first k at which no line can be jumped. -/
def stk (ls : List Ln) (rs : List Nat) (k : Nat) : List Nat := (rs.take k).filter (stuckL ls)
theorem stk_le (ls : List Ln) (rs : List Nat) (k : Nat) : (stk ls rs k).length ≤ rs.length :=
  Nat.le_trans (List.length_filter_le _ _) (by rw [List.length_take]; omega)
theorem stk_yes {ls : List Ln} {rs : List Nat} {k q : Nat} (hq : rs[k]? = some q) (h : stuckL ls q = true) : stk ls rs (k + 1) = stk ls rs k ++ [q] := by
  obtain ⟨hk, e⟩ := List.getElem?_eq_some_iff.1 hq
  rw [stk, List.take_succ_eq_append_getElem hk, e]
  simp [stk, h]
theorem stk_no {ls : List Ln} {rs : List Nat} {k q : Nat} (hq : rs[k]? = some q) (h : stuckL ls q = false) : stk ls rs (k + 1) = stk ls rs k := by
  obtain ⟨hk, e⟩ := List.getElem?_eq_some_iff.1 hq
  rw [stk, List.take_succ_eq_append_getElem hk, e]
  simp [stk, h]
def stuckR (b : Ln) (p : Int) : List Nat := stk (linesL b) (reachL b p false) (reachL b p false).length
theorem stuckR_mem {b : Ln} {p : Int} {q : Nat} (h : q ∈ stuckR b p) : q ∈ reachL b p false := by
  rw [stuckR, stk, List.take_length] at h
  exact (List.mem_filter.1 h).1
theorem stuckR_le (b : Ln) (p : Int) : (stuckR b p).length ≤ 65536 := Nat.le_trans (stk_le _ _ _) (reachL_le b p false)
theorem step_sub {s p : Nat} {back : Bool} {st : St} {l : Ln} (hf : flip p l &&& s = flip p l) (h1 : ∀ q : Nat, st.1[q]? = some true → q &&& s = q) (h2 : ∀ q ∈ st.2, q &&& s = q) :
    (∀ q : Nat, (stepS back p st l).1[q]? = some true → q &&& s = q) ∧ (∀ q ∈ (stepS back p st l).2, q &&& s = q) := by
  unfold stepS
  split
  · refine ⟨fun q hq => ?_, fun q hq => ?_⟩
    · rw [List.getElem?_set] at hq
      split at hq
      · rename_i e; rw [← e]; exact hf
      · exact h1 q hq
    · rcases List.mem_append.1 hq with h | h
      · exact h2 q h
      · simp at h; subst h; exact hf
  · exact ⟨h1, h2⟩
theorem row_sub {s p : Nat} {back : Bool} (ls : List Ln) : ∀ (st : St), (∀ l ∈ ls, flip p l &&& s = flip p l) → (∀ q : Nat, st.1[q]? = some true → q &&& s = q) → (∀ q ∈ st.2, q &&& s = q) →
    (∀ q : Nat, (rowS back ls p st).1[q]? = some true → q &&& s = q) ∧ (∀ q ∈ (rowS back ls p st).2, q &&& s = q) := by
  induction ls with
  | nil => intro st _ h1 h2; exact ⟨h1, h2⟩
  | cons x ls ih =>
    intro st hs h1 h2
    have := step_sub (back := back) (hs x (by simp)) h1 h2
    exact ih _ (fun l hl => hs l (by simp [hl])) this.1 this.2
theorem bst_sub {s n p : Nat} {back : Bool} {ls : List Ln} (hp : p &&& s = p) (hs : ∀ l ∈ ls, ∀ q, q &&& s = q → flip q l &&& s = flip q l) (k : Nat) :
    (∀ q : Nat, (bst back ls n p k).1[q]? = some true → q &&& s = q) ∧ (∀ q ∈ (bst back ls n p k).2, q &&& s = q) := by
  induction k with
  | zero =>
    refine ⟨fun q hq => ?_, fun q hq => ?_⟩
    · simp only [bst] at hq
      rw [List.getElem?_set] at hq
      split at hq
      · rename_i e; rw [← e]; exact hp
      · simp [List.getElem?_replicate] at hq
    · simp [bst] at hq; subst hq; exact hp
  | succ k ih =>
    simp only [bst]
    split
    · rename_i q hq
      have hq' := ih.2 q (List.mem_of_getElem? hq)
      exact row_sub ls _ (fun l hl => hs l hl q hq') ih.1 ih.2
    · exact ih
theorem reach_pos {b : Ln} {p : Int} {back : Bool} {q : Nat} (h : q ∈ reachL b p back) : posB b q = true := by
  rcases Bool.eq_false_or_eq_true (smallB b && posB b p) with hh | hh
  · rw [Bool.and_eq_true] at hh
    obtain ⟨hS, hP⟩ := hh
    obtain ⟨w, h', s, rfl, hb, h16, s16⟩ := smallB_nat hS
    obtain ⟨p, rfl, hp⟩ := posB_nat hP
    refine posB_of hb ?_
    have hm := (trues_mem.1 h).2
    rw [spreadL_yes hS hP] at hm
    have := (bst_sub (n := 2 ^ (w * h')) (back := back) hp (fun l hl q hq => by
      obtain ⟨f, o, t, k⟩ := linesL_ok hb hl
      exact flip_sub k hq) (2 ^ (w * h'))).1 q
    refine this ?_
    unfold bfs at hm
    rw [List.getD_eq_getElem?_getD] at hm
    cases hc : (bst back (linesL ⟨w, h', s⟩) (2 ^ (w * h')) p (2 ^ (w * h'))).1[q]? with
    | none => rw [hc] at hm; simp at hm
    | some v => rw [hc] at hm; simp at hm; rw [hm]
  · rw [reachL_no hh] at h; simp at h
end Go.Proofs.Ytliljgmpdfdakaa

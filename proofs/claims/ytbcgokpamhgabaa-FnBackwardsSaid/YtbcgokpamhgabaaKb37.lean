/- What leads where: the search finds just what jumps lead to, forwards and backwards. No program in sight. Small facts about small boards: lines below 49, what is reached, a jump from a position. No program in sight. The contract of the reference's l15Ok: a small board and two positions on it. -/
import Derived.Test.YtbcgokpamhgabaaKb36
import Derived.Test.YtbcgokpamhgabaaKb25
import Derived.Test.YtbcgokpamhgabaaChecked
import Derived.Test.YtbcgokpamhgabaaKb01
import Derived.Tactics
import Derived.Tactics2
import Derived.WalkKit
import Derived.WalkSpells
import Derived.WalkLawsBesides
import Derived.Deep.QuietTactic
import Derived.BigQuiet
import Derived.BigGuardPart
import Derived.Lib.QuietBelow
import Derived.OwnWalk
import Derived.KernelRfl
import Derived.Test.YtbcgokpamhgabaaKb19
namespace Go.Proofs.Ytbcgokpamhgabaa
set_option linter.unusedVariables false

/-- A game leads from the one to the other. -/
inductive Leads (ls : List Ln) : Nat → Nat → Prop
  | refl (p : Nat) : Leads ls p p
  | head {p q : Nat} (l : Ln) (hl : l ∈ ls) (hc : canJ p l = true) (h : Leads ls (flip p l) q) : Leads ls p q
theorem Leads.trans {ls : List Ln} {a b c : Nat} (h : Leads ls a b) (k : Leads ls b c) : Leads ls a c := by
  induction h with
  | refl => exact k
  | head l hl hc _ ih => exact .head l hl hc (ih k)
theorem Leads.one {ls : List Ln} {p : Nat} {l : Ln} (hl : l ∈ ls) (hc : canJ p l = true) : Leads ls p (flip p l) := .head l hl hc (.refl _)
theorem Leads.tail {ls : List Ln} {a p : Nat} {l : Ln} (h : Leads ls a p) (hl : l ∈ ls) (hc : canJ p l = true) : Leads ls a (flip p l) := h.trans (.one hl hc)
theorem Leads.pop {ls : List Ln} (h49 : ∀ l ∈ ls, Ln49 l) {a b : Nat} (h : Leads ls a b) : popc b ≤ popc a := by
  induction h with
  | refl => exact Nat.le_refl _
  | head l hl hc _ ih => have := popc_jump (h49 l hl) hc; omega
theorem Leads.lt {ls : List Ln} {n : Nat} (hs : Stays n ls) {a b : Nat} (h : Leads ls a b) : a < n → b < n := by
  induction h with
  | refl => exact id
  | head l hl hc _ ih => exact fun ha => ih (hs l hl _ ha)
theorem bit_flip {p f o t i : Nat} : (flip p ⟨f, o, t⟩).testBit i = (p.testBit i ^^ (decide (f = i) || decide (o = i) || decide (t = i))) := by
  rw [flip, Nat.testBit_xor, testBit_lbits]
/-- A jump can be undone, and what is undone can be jumped. -/
theorem canU_flip {p : Nat} {l : Ln} (h49 : Ln49 l) (h : canJ p l = true) : canU (flip p l) l = true := by
  obtain ⟨f, o, t, rfl, _, _, _, hft, hot, hfo⟩ := h49
  simp only [canJ, canU, Int.toNat_natCast, bit_flip, Bool.and_eq_true, Bool.not_eq_true'] at h ⊢
  obtain ⟨h1, h2, h3⟩ := h
  simp [h1, h2, h3]
theorem canJ_flip {p : Nat} {l : Ln} (h49 : Ln49 l) (h : canU p l = true) : canJ (flip p l) l = true := by
  obtain ⟨f, o, t, rfl, _, _, _, hft, hot, hfo⟩ := h49
  simp only [canJ, canU, Int.toNat_natCast, bit_flip, Bool.and_eq_true, Bool.not_eq_true'] at h ⊢
  obtain ⟨h1, h2, h3⟩ := h
  simp [h1, h2, h3]
theorem step_P {P : Nat → Prop} {back : Bool} {p : Nat} {st : St} {l : Ln} (hl : canD back p l = true → P (flip p l)) (h : ∀ q ∈ st.2, P q) : ∀ q ∈ (stepS back p st l).2, P q := fun q hq => by
  unfold stepS at hq
  split at hq
  · rename_i hc
    rw [Bool.and_eq_true] at hc
    rcases List.mem_append.1 hq with hq | hq
    · exact h q hq
    · simp at hq; subst hq; exact hl hc.1
  · exact h q hq
theorem row_P {P : Nat → Prop} {back : Bool} {p : Nat} : ∀ (ls : List Ln) (st : St), (∀ l ∈ ls, canD back p l = true → P (flip p l)) → (∀ q ∈ st.2, P q) → ∀ q ∈ (rowS back ls p st).2, P q
  | [], _, _, h => h
  | x :: ls, st, hl, h => row_P ls (stepS back p st x) (fun l hm => hl l (by simp [hm])) (step_P (hl x (by simp)) h)
theorem bst_P {P : Nat → Prop} {back : Bool} {ls : List Ln} {n p : Nat} (hp : P p) (hs : ∀ q, P q → ∀ l ∈ ls, canD back q l = true → P (flip q l)) (k : Nat) : ∀ q ∈ (bst back ls n p k).2, P q := by
  induction k with
  | zero => intro q hq; simp [bst] at hq; subst hq; exact hp
  | succ k ih =>
    simp only [bst]
    split
    · rename_i q hq
      exact row_P ls _ (hs q (ih q (List.mem_of_getElem? hq))) ih
    · exact ih
theorem bfs_fwd {ls : List Ln} {n p : Nat} (hp : p < n) (hs : Stays n ls) (x : Nat) : (bfs false ls n p)[x]? = some true ↔ Leads ls p x := by
  constructor
  · intro h
    have hm := (bst_mem (back := false) hp hs n x).1 h
    exact bst_P (P := Leads ls p) (.refl p) (fun q hq l hl hc => hq.tail hl (by simpa [canD] using hc)) n x hm
  · intro h
    have key : ∀ {a b : Nat}, Leads ls a b → (bfs false ls n p)[a]? = some true → (bfs false ls n p)[b]? = some true := by
      intro a b h
      induction h with
      | refl => exact id
      | head l hl hc _ ih => exact fun ha => ih (bfs_closed (back := false) hp hs ha hl (by simpa [canD] using hc))
    exact key h (bfs_self hp hs)
theorem bfs_bwd {ls : List Ln} {n g : Nat} (h49 : ∀ l ∈ ls, Ln49 l) (hg : g < n) (hs : Stays n ls) (x : Nat) : (bfs true ls n g)[x]? = some true ↔ Leads ls x g := by
  constructor
  · intro h
    have hm := (bst_mem (back := true) hg hs n x).1 h
    refine bst_P (P := fun q => Leads ls q g) (.refl g) (fun q hq l hl hc => ?_) n x hm
    refine .head l hl (canJ_flip (h49 l hl) (by simpa [canD] using hc)) ?_
    rw [flip_flip]
    exact hq
  · intro h
    induction h with
    | refl => exact bfs_self hg hs
    | head l hl hc _ ih =>
      have := bfs_closed (back := true) hg hs (ih hg) hl (by simpa [canD] using canU_flip (h49 l hl) hc)
      rwa [flip_flip] at this
end Go.Proofs.Ytbcgokpamhgabaa
namespace Go.Proofs.Ytbcgokpamhgabaa
set_option linter.unusedVariables false
open Go.RowKit

theorem ln49s {w h s : Nat} (hb : BdOk w h s) : ∀ l ∈ linesL ⟨w, h, s⟩, Ln49 l := fun l hl => by
  obtain ⟨f, o, t, hl⟩ := linesL_ok hb hl
  have := hb.area
  exact ⟨f, o, t, hl.1, by have := hl.f1; omega, by have := hl.o1; omega, by have := hl.t1; omega, hl.ft, hl.ot, hl.fo⟩
theorem small_of {w h s : Nat} (hb : BdOk w h s) (h16 : w * h ≤ 16) : smallB ⟨w, h, s⟩ = true := by
  have hB := posB_board (posB_of hb (q := 0) (by simp))
  have h2 : (w : Int) * h ≤ 16 := by rw [← Int.natCast_mul]; omega
  simp only [smallB, hB, Bool.true_and, decide_eq_true_eq]
  exact h2
theorem reach_leads {w h s : Nat} {p : Nat} (hb : BdOk w h s) (h16 : w * h ≤ 16) (hP : posB ⟨w, h, s⟩ p = true) (x : Nat) : x ∈ reachL ⟨w, h, s⟩ p false ↔ Leads (linesL ⟨w, h, s⟩) p x := by
  obtain ⟨q, hq, hs⟩ := posB_nat hP
  obtain rfl : p = q := by omega
  rw [reachL_mem (small_of hb h16) hP, bfs_fwd (posB_lt hb hs) (stays_of hb)]
theorem jump_on {w h s : Nat} {p q : Nat} {l : Ln} (hb : BdOk w h s) (hQ : posB ⟨w, h, s⟩ q = true) (hl : l ∈ jumpsL ⟨w, h, s⟩ q) (hp : Leads (linesL ⟨w, h, s⟩) p q) :
    doP ⟨w, h, s⟩ q l = (flip q l : Nat) ∧ Leads (linesL ⟨w, h, s⟩) p (flip q l) ∧ popc (flip q l) + 1 = popc q ∧ posB ⟨w, h, s⟩ (flip q l : Nat) = true := by
  have hd := jumps_do hl
  have e := doP_yes hd
  have hl' : l ∈ linesL ⟨w, h, s⟩ ∧ canJ q l = true := by
    rw [jumpsL, if_pos hQ, List.mem_filter, Int.toNat_natCast] at hl
    exact hl
  have := doP_pos (l := l) hQ
  rw [e] at this
  exact ⟨e, hp.tail hl'.1 hl'.2, popc_jump (ln49s hb l hl'.1) hl'.2, this⟩
theorem pop16 {w h s : Nat} {p : Nat} (hb : BdOk w h s) (h16 : w * h ≤ 16) (hP : posB ⟨w, h, s⟩ p = true) : popc p ≤ 16 := by
  obtain ⟨q, hq, hs⟩ := posB_nat hP
  obtain rfl : p = q := by omega
  exact Nat.le_trans (popc_le p (posB_lt hb hs) (by have := hb.area; omega)) h16
end Go.Proofs.Ytbcgokpamhgabaa
namespace Go.Proofs.Ytbcgokpamhgabaa
set_option linter.unusedVariables false
set_option maxRecDepth 20000
open Go.RowKit Go.Sort

/-- Two positions of a small board. -/
def pairB (b : Ln) (p g : Int) : Bool := smallB b && posB b p && posB b g
end Go.Proofs.Ytbcgokpamhgabaa

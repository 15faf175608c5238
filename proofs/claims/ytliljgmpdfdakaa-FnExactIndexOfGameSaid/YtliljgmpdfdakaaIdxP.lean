/- The index of a game, in plain terms. No program in sight. -/
import Derived.Test.YtliljgmpdfdakaaWayQ
set_option linter.unusedVariables false
namespace Go.Proofs.Ytliljgmpdfdakaa
open Go.RowKit

def istep (F : Nat → Int) (x : Nat) (s : Int) (l : Ln) : Int := if canJ x l then wrap64 (s + F (flip x l)) else s
def jstep (F : Nat → Int) (x : Nat) (s : Int) (l : Ln) : Int := wrap64 (s + F (flip x l))
/-- The program's sum over the lines ahead of j, and the reference's over the jumps ahead of j. -/
def idxA (F : Nat → Int) (ls : List Ln) (x : Nat) (j : Ln) (s : Int) : Int := (ls.takeWhile (fun l => !eqL l j)).foldl (istep F x) s
def idxB (F : Nat → Int) (ls : List Ln) (x : Nat) (j : Ln) (s : Int) : Int := ((ls.filter (canJ x)).takeWhile (fun l => !eqL l j)).foldl (jstep F x) s
theorem idxAB {F : Nat → Int} {x : Nat} {j : Ln} (hj : canJ x j = true) : ∀ (ls : List Ln) (s : Int), idxA F ls x j s = idxB F ls x j s
  | [], s => rfl
  | l :: ls, s => by
    by_cases e : l = j
    · subst e
      have he : eqL l l = true := by simp [eqL]
      simp [idxA, idxB, List.filter, hj, List.takeWhile, he]
    · have he : eqL l j = false := by simp [eqL, e]
      cases hc : canJ x l with
      | true =>
        have := idxAB (F := F) hj ls (jstep F x s l)
        simp only [idxA, idxB] at this ⊢
        simp only [List.takeWhile, he, Bool.not_false, List.foldl_cons, List.filter, hc]
        rw [← this]
        simp [istep, jstep, hc]
      | false =>
        have := idxAB (F := F) hj ls s
        simp only [idxA, idxB] at this ⊢
        simp only [List.takeWhile, he, Bool.not_false, List.foldl_cons, List.filter, hc]
        rw [← this]
        simp [istep, hc]
/-- None of the first i is j. -/
def noneB (ls : List Ln) (i : Nat) (j : Ln) : Prop := ∀ l ∈ ls.take i, eqL l j = false
theorem noneB_zero (ls : List Ln) (j : Ln) : noneB ls 0 j := fun l hl => by simp at hl
theorem noneB_next {ls : List Ln} {i : Nat} {j l : Ln} (h : noneB ls i j) (hl : ls[i]? = some l) (hn : eqL l j = false) : noneB ls (i + 1) j := fun x hx => by
  rw [List.take_add_one, hl] at hx
  rcases List.mem_append.1 hx with hx | hx
  · exact h x hx
  · simp at hx; subst hx; exact hn
theorem take_while : ∀ (ls : List Ln) (i : Nat) (j : Ln), noneB ls i j → (∀ l, ls[i]? = some l → eqL l j = true) → ls.takeWhile (fun l => !eqL l j) = ls.take i
  | [], i, j, _, _ => by simp
  | x :: ls, 0, j, _, h => by
    have := h x rfl
    simp [List.takeWhile, this]
  | x :: ls, i + 1, j, h, hh => by
    have h0 : eqL x j = false := h x (by simp)
    rw [List.take_succ_cons, List.takeWhile]
    simp only [h0, Bool.not_false]
    rw [take_while ls i j (fun l hl => h l (by simp [hl])) (fun l hl => hh l (by simpa using hl))]
theorem fold_take1 {α : Type} (f : Int → α → Int) {ls : List α} {i : Nat} {l : α} (s : Int) (hl : ls[i]? = some l) : (ls.take (i + 1)).foldl f s = f ((ls.take i).foldl f s) l := by
  rw [List.take_add_one, hl]
  simp [List.foldl_append]
/-- Where the game stands before its i-th jump, and the index so far. -/
def posn (q : Nat) (js : List Ln) (i : Nat) : Nat := (js.take i).foldl flip q
def accI (F : Nat → Int) (ls : List Ln) (q : Nat) (js : List Ln) : Nat → Int
  | 0 => 0
  | i + 1 => match js[i]? with
    | some j => idxA F ls (posn q js i) j (accI F ls q js i)
    | none => accI F ls q js i
theorem accI_next {F : Nat → Int} {ls : List Ln} {q : Nat} {js : List Ln} {i : Nat} {j : Ln} (h : js[i]? = some j) : accI F ls q js (i + 1) = idxA F ls (posn q js i) j (accI F ls q js i) := by
  rw [accI, h]
theorem posn_next {q : Nat} {js : List Ln} {i : Nat} {j : Ln} (h : js[i]? = some j) : posn q js (i + 1) = flip (posn q js i) j := by
  rw [posn, List.take_add_one, h]
  simp [posn, List.foldl_append]
/-- A game that can be played. -/
def Plays (ls : List Ln) : Nat → List Ln → Prop
  | _, [] => True
  | x, j :: js => j ∈ ls ∧ canJ x j = true ∧ Plays ls (flip x j) js
theorem Plays.at {ls : List Ln} : ∀ {q : Nat} {js : List Ln} {i : Nat} {j : Ln}, Plays ls q js → js[i]? = some j → j ∈ ls ∧ canJ (posn q js i) j = true
  | q, [], i, j, _, h => by simp at h
  | q, y :: js, 0, j, h, hj => by
    simp at hj; subst hj
    exact ⟨h.1, h.2.1⟩
  | q, y :: js, i + 1, j, h, hj => by
    have := Plays.at (q := flip q y) (js := js) (i := i) (j := j) h.2.2 (by simpa using hj)
    simpa [posn] using this
theorem Plays.mem {ls : List Ln} {R : List Nat} (hR : ∀ x ∈ R, ∀ l ∈ ls, canJ x l = true → flip x l ∈ R) : ∀ {q : Nat} {js : List Ln} (i : Nat), Plays ls q js → q ∈ R → posn q js i ∈ R
  | q, [], i, _, h => by simpa [posn] using h
  | q, y :: js, 0, _, h => by simpa [posn] using h
  | q, y :: js, i + 1, hp, h => by
    have := Plays.mem hR (q := flip q y) (js := js) i hp.2.2 (hR q h y hp.1 hp.2.1)
    simpa [posn] using this
theorem plays_of {w h s : Nat} (hb : BdOk w h s) : ∀ (js : List Ln) (x : Nat), x &&& s = x → playsB ⟨w, h, s⟩ x js = true → Plays (linesL ⟨w, h, s⟩) x js ∧ playP ⟨w, h, s⟩ x js = ((posn x js js.length : Nat) : Int)
  | [], x, _, _ => ⟨trivial, by simp [playP, posn]⟩
  | j :: js, x, hx, hp => by
    rw [playsB, Bool.and_eq_true] at hp
    obtain ⟨hd, hr⟩ := hp
    have hd' := hd
    rw [doB, Bool.and_eq_true, Bool.and_eq_true, Int.toNat_natCast] at hd'
    obtain ⟨h1, h2, h3⟩ := hd'
    have hm := lineB_mem h2
    obtain ⟨f, o, t, k⟩ := linesL_ok hb hm
    rw [doP_yes hd] at hr
    have := plays_of hb js (flip x j) (flip_sub k hx) hr
    refine ⟨⟨hm, h3, this.1⟩, ?_⟩
    have e : playP ⟨w, h, s⟩ x (j :: js) = playP ⟨w, h, s⟩ (flip x j : Nat) js := by
      rw [playP, List.foldl_cons, doP_yes hd]
      rfl
    rw [e, this.2]
    simp [posn]
def solB (b : Ln) (p g : Int) (js : List Ln) : Bool := playB b p js && (playR b p js == g)
def indexI (b : Ln) (p g : Int) (js : List Ln) : Int := if smallB b && solB b p g js then accI (ways (linesL b) g (-1)) (linesL b) p.toNat js js.length else -1
theorem sol_pos {b : Ln} {p g : Int} {js : List Ln} (h : solB b p g js = true) : posB b p = true ∧ posB b g = true := by
  rw [solB, Bool.and_eq_true] at h
  have h1 := h.1
  rw [playB, Bool.and_eq_true] at h1
  refine ⟨h1.1, ?_⟩
  have h2 : playR b p js = g := by simpa using h.2
  rw [← h2, playR, if_pos h.1]
  exact playP_pos h1.1 js
theorem sol_plays {w h s q : Nat} {g : Int} {js : List Ln} (hb : BdOk w h s) (hq : q &&& s = q) (hs : solB ⟨w, h, s⟩ q g js = true) : Plays (linesL ⟨w, h, s⟩) q js := by
  rw [solB, Bool.and_eq_true] at hs
  have h1 := hs.1
  rw [playB, Bool.and_eq_true, Bool.and_eq_true] at h1
  exact (plays_of hb js q hq h1.2.2).1
end Go.Proofs.Ytliljgmpdfdakaa

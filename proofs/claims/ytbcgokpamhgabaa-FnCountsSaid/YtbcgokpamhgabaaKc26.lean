/- The table of the reference's counting, entry by entry. No program in sight. The index of a game, in plain terms. No program in sight. What leads where: the search finds just what jumps lead to, forwards and backwards. No program in sight. Small facts about small boards: lines below 49, what is reached, a jump from a position. No program in sight. -/
import Derived.Test.YtbcgokpamhgabaaKc24
import Derived.Test.YtbcgokpamhgabaaKc21
namespace Go.Proofs.Ytbcgokpamhgabaa
set_option linter.unusedVariables false
open Go.RowKit

/-- Which positions are done after i positions of the level of c pegs. -/
def dn (R : List Nat) (c i q : Nat) : Prop := q ∈ R ∧ (popc q < c ∨ popc q = c ∧ q ∈ R.take i)
def OutOk (R : List Nat) (f : Nat → Int) (N c i : Nat) (out : List Int) : Prop := out.length = N ∧ ∀ q, q < N → (dn R c i q → out[q]? = some (f q)) ∧ (¬ dn R c i q → out[q]? = some 0)
theorem ok_start (R : List Nat) (f : Nat → Int) (N : Nat) : OutOk R f N 0 0 (List.replicate N 0) := by
  refine ⟨by simp, fun q hq => ⟨fun h => ?_, fun _ => by simp [hq]⟩⟩
  obtain ⟨_, h | ⟨_, h⟩⟩ := h
  · omega
  · simp at h
theorem take_mem {R : List Nat} {i x q : Nat} (hx : R[i]? = some x) : q ∈ R.take (i + 1) ↔ q ∈ R.take i ∨ q = x := by
  rw [List.take_add_one, hx]; simp
theorem ok_skip {R : List Nat} {f : Nat → Int} {N c i x : Nat} {out : List Int} (h : OutOk R f N c i out) (hx : R[i]? = some x) (hc : popc x ≠ c) : OutOk R f N c (i + 1) out := by
  refine ⟨h.1, fun q hq => ?_⟩
  have e : dn R c (i + 1) q ↔ dn R c i q := by
    unfold dn
    rw [take_mem hx]
    constructor
    · rintro ⟨a, b | ⟨b, d | rfl⟩⟩
      · exact ⟨a, .inl b⟩
      · exact ⟨a, .inr ⟨b, d⟩⟩
      · exact absurd b hc
    · rintro ⟨a, b | ⟨b, d⟩⟩
      · exact ⟨a, .inl b⟩
      · exact ⟨a, .inr ⟨b, .inl d⟩⟩
  rw [e]
  exact h.2 q hq
theorem ok_set {R : List Nat} {f : Nat → Int} {N c i x : Nat} {out : List Int} (h : OutOk R f N c i out) (hx : R[i]? = some x) (hc : popc x = c) (hl : x < N) : OutOk R f N c (i + 1) (out.set x (f x)) := by
  refine ⟨by rw [List.length_set]; exact h.1, fun q hq => ?_⟩
  by_cases e : q = x
  · subst e
    refine ⟨fun _ => by rw [List.getElem?_set]; simp [h.1, hq], fun hn => absurd ⟨List.mem_of_getElem? hx, .inr ⟨hc, (take_mem hx).2 (.inr rfl)⟩⟩ hn⟩
  · have e' : dn R c (i + 1) q ↔ dn R c i q := by
      unfold dn
      rw [take_mem hx]
      simp [e]
    rw [e', List.getElem?_set, if_neg (fun h => e h.symm)]
    exact h.2 q hq
theorem ok_zero {R : List Nat} {f : Nat → Int} {N c i x : Nat} {out : List Int} (h : OutOk R f N c i out) (hn : R.Nodup) (hx : R[i]? = some x) (hc : popc x = c) (hl : x < N) : out[x]? = some 0 := by
  refine (h.2 x hl).2 ?_
  rintro ⟨_, a | ⟨_, a⟩⟩
  · omega
  · obtain ⟨j, hj⟩ := List.getElem?_of_mem a
    rw [List.getElem?_take] at hj
    split at hj
    · next hji =>
      have hi := (List.getElem?_eq_some_iff.1 hx).1
      obtain ⟨hj1, hj2⟩ := List.getElem?_eq_some_iff.1 hj
      obtain ⟨hi1, hi2⟩ := List.getElem?_eq_some_iff.1 hx
      have := (List.getElem_inj (h₀ := hj1) (h₁ := hi1) hn).1 (by rw [hj2, hi2])
      omega
    · cases hj
theorem ok_next {R : List Nat} {f : Nat → Int} {N c i y : Nat} {out : List Int} (h : OutOk R f N c i out) (hy : y ∈ R) (hc : popc y < c) (hl : y < N) : out[y]? = some (f y) := (h.2 y hl).1 ⟨hy, .inl hc⟩
theorem ok_level {R : List Nat} {f : Nat → Int} {N c : Nat} {out : List Int} (h : OutOk R f N c R.length out) : OutOk R f N (c + 1) 0 out := by
  refine ⟨h.1, fun q hq => ?_⟩
  have e : dn R (c + 1) 0 q ↔ dn R c R.length q := by
    unfold dn
    rw [List.take_length]
    constructor
    · rintro ⟨a, b | ⟨_, b⟩⟩
      · rcases Nat.lt_or_eq_of_le (Nat.le_of_lt_succ b) with b | b
        · exact ⟨a, .inl b⟩
        · exact ⟨a, .inr ⟨b, a⟩⟩
      · simp at b
    · rintro ⟨a, b | ⟨b, _⟩⟩
      · exact ⟨a, .inl (by omega)⟩
      · exact ⟨a, .inl (by omega)⟩
  rw [e]
  exact h.2 q hq
theorem ok_end {R : List Nat} {f : Nat → Int} {N c i y : Nat} {out : List Int} (h : OutOk R f N c i out) (hy : y ∈ R) (hc : popc y < c) (hl : y < N) : out[y]? = some (f y) := ok_next h hy hc hl
theorem set_other {out : List Int} {x y : Nat} {s v : Int} (h : out[y]? = some v) (hxy : y ≠ x) : (out.set x s)[y]? = some v := by
  rw [List.getElem?_set, if_neg (fun e => hxy e.symm)]; exact h
theorem set_here {out : List Int} {x : Nat} {s : Int} (h : x < out.length) : (out.set x s)[x]? = some s := by
  rw [List.getElem?_set]; simp [h]
theorem set_zero {out : List Int} {x : Nat} (h : out[x]? = some 0) : out.set x 0 = out := by
  obtain ⟨h1, h2⟩ := List.getElem?_eq_some_iff.1 h
  apply List.ext_getElem?
  intro k
  rw [List.getElem?_set]
  split
  · next e => subst e; simp [h1, h2]
  · rfl
end Go.Proofs.Ytbcgokpamhgabaa
namespace Go.Proofs.Ytbcgokpamhgabaa
set_option linter.unusedVariables false
open Go.RowKit

def istep (F : Nat → Int) (x : Nat) (s : Int) (l : Ln) : Int := if canJ x l then wrap64 (s + F (flip x l)) else s
def jstep (F : Nat → Int) (x : Nat) (s : Int) (l : Ln) : Int := wrap64 (s + F (flip x l))
/-- The program's sum over the lines ahead of j, and the reference's over the jumps ahead of j. -/
def idxA (F : Nat → Int) (ls : List Ln) (x : Nat) (j : Ln) (s : Int) : Int := (ls.takeWhile (fun l => !eqL l j)).foldl (istep F x) s
def idxB (F : Nat → Int) (ls : List Ln) (x : Nat) (j : Ln) (s : Int) : Int := ((ls.filter (canJ x)).takeWhile (fun l => !eqL l j)).foldl (jstep F x) s
theorem idxAB {F : Nat → Int} {x : Nat} {j : Ln} (hj : canJ x j = true) : ∀ (ls : List Ln) (s : Int), idxA F ls x j s = idxB F ls x j s
  | [], s => rfl
  | l :: ls, s => by
    by_cases e : l = j
    · subst e
      have he : eqL l l = true := by simp [eqL]
      simp [idxA, idxB, List.filter, hj, List.takeWhile, he]
    · have he : eqL l j = false := by simp [eqL, e]
      cases hc : canJ x l with
      | true =>
        have := idxAB (F := F) hj ls (jstep F x s l)
        simp only [idxA, idxB] at this ⊢
        simp only [List.takeWhile, he, Bool.not_false, List.foldl_cons, List.filter, hc]
        rw [← this]
        simp [istep, jstep, hc]
      | false =>
        have := idxAB (F := F) hj ls s
        simp only [idxA, idxB] at this ⊢
        simp only [List.takeWhile, he, Bool.not_false, List.foldl_cons, List.filter, hc]
        rw [← this]
        simp [istep, hc]
/-- None of the first i is j. -/
def noneB (ls : List Ln) (i : Nat) (j : Ln) : Prop := ∀ l ∈ ls.take i, eqL l j = false
theorem noneB_zero (ls : List Ln) (j : Ln) : noneB ls 0 j := fun l hl => by simp at hl
theorem noneB_next {ls : List Ln} {i : Nat} {j l : Ln} (h : noneB ls i j) (hl : ls[i]? = some l) (hn : eqL l j = false) : noneB ls (i + 1) j := fun x hx => by
  rw [List.take_add_one, hl] at hx
  rcases List.mem_append.1 hx with hx | hx
  · exact h x hx
  · simp at hx; subst hx; exact hn
theorem take_while : ∀ (ls : List Ln) (i : Nat) (j : Ln), noneB ls i j → (∀ l, ls[i]? = some l → eqL l j = true) → ls.takeWhile (fun l => !eqL l j) = ls.take i
  | [], i, j, _, _ => by simp
  | x :: ls, 0, j, _, h => by
    have := h x rfl
    simp [List.takeWhile, this]
  | x :: ls, i + 1, j, h, hh => by
    have h0 : eqL x j = false := h x (by simp)
    rw [List.take_succ_cons, List.takeWhile]
    simp only [h0, Bool.not_false]
    rw [take_while ls i j (fun l hl => h l (by simp [hl])) (fun l hl => hh l (by simpa using hl))]
theorem fold_take1 {α : Type} (f : Int → α → Int) {ls : List α} {i : Nat} {l : α} (s : Int) (hl : ls[i]? = some l) : (ls.take (i + 1)).foldl f s = f ((ls.take i).foldl f s) l := by
  rw [List.take_add_one, hl]
  simp [List.foldl_append]
/-- Where the game stands before its i-th jump, and the index so far. -/
def posn (q : Nat) (js : List Ln) (i : Nat) : Nat := (js.take i).foldl flip q
def accI (F : Nat → Int) (ls : List Ln) (q : Nat) (js : List Ln) : Nat → Int
  | 0 => 0
  | i + 1 => match js[i]? with
    | some j => idxA F ls (posn q js i) j (accI F ls q js i)
    | none => accI F ls q js i
theorem accI_next {F : Nat → Int} {ls : List Ln} {q : Nat} {js : List Ln} {i : Nat} {j : Ln} (h : js[i]? = some j) : accI F ls q js (i + 1) = idxA F ls (posn q js i) j (accI F ls q js i) := by
  rw [accI, h]
theorem posn_next {q : Nat} {js : List Ln} {i : Nat} {j : Ln} (h : js[i]? = some j) : posn q js (i + 1) = flip (posn q js i) j := by
  rw [posn, List.take_add_one, h]
  simp [posn, List.foldl_append]
/-- A game that can be played. -/
def Plays (ls : List Ln) : Nat → List Ln → Prop
  | _, [] => True
  | x, j :: js => j ∈ ls ∧ canJ x j = true ∧ Plays ls (flip x j) js
theorem Plays.at {ls : List Ln} : ∀ {q : Nat} {js : List Ln} {i : Nat} {j : Ln}, Plays ls q js → js[i]? = some j → j ∈ ls ∧ canJ (posn q js i) j = true
  | q, [], i, j, _, h => by simp at h
  | q, y :: js, 0, j, h, hj => by
    simp at hj; subst hj
    exact ⟨h.1, h.2.1⟩
  | q, y :: js, i + 1, j, h, hj => by
    have := Plays.at (q := flip q y) (js := js) (i := i) (j := j) h.2.2 (by simpa using hj)
    simpa [posn] using this
theorem Plays.mem {ls : List Ln} {R : List Nat} (hR : ∀ x ∈ R, ∀ l ∈ ls, canJ x l = true → flip x l ∈ R) : ∀ {q : Nat} {js : List Ln} (i : Nat), Plays ls q js → q ∈ R → posn q js i ∈ R
  | q, [], i, _, h => by simpa [posn] using h
  | q, y :: js, 0, _, h => by simpa [posn] using h
  | q, y :: js, i + 1, hp, h => by
    have := Plays.mem hR (q := flip q y) (js := js) i hp.2.2 (hR q h y hp.1 hp.2.1)
    simpa [posn] using this
theorem plays_of {w h s : Nat} (hb : BdOk w h s) : ∀ (js : List Ln) (x : Nat), x &&& s = x → playsB ⟨w, h, s⟩ x js = true → Plays (linesL ⟨w, h, s⟩) x js ∧ playP ⟨w, h, s⟩ x js = ((posn x js js.length : Nat) : Int)
  | [], x, _, _ => ⟨trivial, by simp [playP, posn]⟩
  | j :: js, x, hx, hp => by
    rw [playsB, Bool.and_eq_true] at hp
    obtain ⟨hd, hr⟩ := hp
    have hd' := hd
    rw [doB, Bool.and_eq_true, Bool.and_eq_true, Int.toNat_natCast] at hd'
    obtain ⟨h1, h2, h3⟩ := hd'
    have hm := lineB_mem h2
    obtain ⟨f, o, t, k⟩ := linesL_ok hb hm
    rw [doP_yes hd] at hr
    have := plays_of hb js (flip x j) (flip_sub k hx) hr
    refine ⟨⟨hm, h3, this.1⟩, ?_⟩
    have e : playP ⟨w, h, s⟩ x (j :: js) = playP ⟨w, h, s⟩ (flip x j : Nat) js := by
      rw [playP, List.foldl_cons, doP_yes hd]
      rfl
    rw [e, this.2]
    simp [posn]
def indexI (b : Ln) (p g : Int) (js : List Ln) : Int := if smallB b && solB b p g js then accI (ways (linesL b) g (-1)) (linesL b) p.toNat js js.length else -1
theorem sol_pos {b : Ln} {p g : Int} {js : List Ln} (h : solB b p g js = true) : posB b p = true ∧ posB b g = true := by
  rw [solB, Bool.and_eq_true] at h
  have h1 := h.1
  rw [playB, Bool.and_eq_true] at h1
  refine ⟨h1.1, ?_⟩
  have h2 : playR b p js = g := by simpa using h.2
  rw [← h2, playR, if_pos h.1]
  exact playP_pos h1.1 js
theorem sol_plays {w h s q : Nat} {g : Int} {js : List Ln} (hb : BdOk w h s) (hq : q &&& s = q) (hs : solB ⟨w, h, s⟩ q g js = true) : Plays (linesL ⟨w, h, s⟩) q js := by
  rw [solB, Bool.and_eq_true] at hs
  have h1 := hs.1
  rw [playB, Bool.and_eq_true, Bool.and_eq_true] at h1
  exact (plays_of hb js q hq h1.2.2).1
end Go.Proofs.Ytbcgokpamhgabaa
namespace Go.Proofs.Ytbcgokpamhgabaa
set_option linter.unusedVariables false

/-- A game leads from the one to the other. -/
inductive Leads (ls : List Ln) : Nat → Nat → Prop
  | refl (p : Nat) : Leads ls p p
  | head {p q : Nat} (l : Ln) (hl : l ∈ ls) (hc : canJ p l = true) (h : Leads ls (flip p l) q) : Leads ls p q
theorem Leads.trans {ls : List Ln} {a b c : Nat} (h : Leads ls a b) (k : Leads ls b c) : Leads ls a c := by
  induction h with
  | refl => exact k
  | head l hl hc _ ih => exact .head l hl hc (ih k)
theorem Leads.one {ls : List Ln} {p : Nat} {l : Ln} (hl : l ∈ ls) (hc : canJ p l = true) : Leads ls p (flip p l) := .head l hl hc (.refl _)
theorem Leads.tail {ls : List Ln} {a p : Nat} {l : Ln} (h : Leads ls a p) (hl : l ∈ ls) (hc : canJ p l = true) : Leads ls a (flip p l) := h.trans (.one hl hc)
theorem Leads.pop {ls : List Ln} (h49 : ∀ l ∈ ls, Ln49 l) {a b : Nat} (h : Leads ls a b) : popc b ≤ popc a := by
  induction h with
  | refl => exact Nat.le_refl _
  | head l hl hc _ ih => have := popc_jump (h49 l hl) hc; omega
theorem Leads.lt {ls : List Ln} {n : Nat} (hs : Stays n ls) {a b : Nat} (h : Leads ls a b) : a < n → b < n := by
  induction h with
  | refl => exact id
  | head l hl hc _ ih => exact fun ha => ih (hs l hl _ ha)
theorem bit_flip {p f o t i : Nat} : (flip p ⟨f, o, t⟩).testBit i = (p.testBit i ^^ (decide (f = i) || decide (o = i) || decide (t = i))) := by
  rw [flip, Nat.testBit_xor, testBit_lbits]
/-- A jump can be undone, and what is undone can be jumped. -/
theorem canU_flip {p : Nat} {l : Ln} (h49 : Ln49 l) (h : canJ p l = true) : canU (flip p l) l = true := by
  obtain ⟨f, o, t, rfl, _, _, _, hft, hot, hfo⟩ := h49
  simp only [canJ, canU, Int.toNat_natCast, bit_flip, Bool.and_eq_true, Bool.not_eq_true'] at h ⊢
  obtain ⟨h1, h2, h3⟩ := h
  simp [h1, h2, h3]
theorem canJ_flip {p : Nat} {l : Ln} (h49 : Ln49 l) (h : canU p l = true) : canJ (flip p l) l = true := by
  obtain ⟨f, o, t, rfl, _, _, _, hft, hot, hfo⟩ := h49
  simp only [canJ, canU, Int.toNat_natCast, bit_flip, Bool.and_eq_true, Bool.not_eq_true'] at h ⊢
  obtain ⟨h1, h2, h3⟩ := h
  simp [h1, h2, h3]
theorem step_P {P : Nat → Prop} {back : Bool} {p : Nat} {st : St} {l : Ln} (hl : canD back p l = true → P (flip p l)) (h : ∀ q ∈ st.2, P q) : ∀ q ∈ (stepS back p st l).2, P q := fun q hq => by
  unfold stepS at hq
  split at hq
  · rename_i hc
    rw [Bool.and_eq_true] at hc
    rcases List.mem_append.1 hq with hq | hq
    · exact h q hq
    · simp at hq; subst hq; exact hl hc.1
  · exact h q hq
theorem row_P {P : Nat → Prop} {back : Bool} {p : Nat} : ∀ (ls : List Ln) (st : St), (∀ l ∈ ls, canD back p l = true → P (flip p l)) → (∀ q ∈ st.2, P q) → ∀ q ∈ (rowS back ls p st).2, P q
  | [], _, _, h => h
  | x :: ls, st, hl, h => row_P ls (stepS back p st x) (fun l hm => hl l (by simp [hm])) (step_P (hl x (by simp)) h)
theorem bst_P {P : Nat → Prop} {back : Bool} {ls : List Ln} {n p : Nat} (hp : P p) (hs : ∀ q, P q → ∀ l ∈ ls, canD back q l = true → P (flip q l)) (k : Nat) : ∀ q ∈ (bst back ls n p k).2, P q := by
  induction k with
  | zero => intro q hq; simp [bst] at hq; subst hq; exact hp
  | succ k ih =>
    simp only [bst]
    split
    · rename_i q hq
      exact row_P ls _ (hs q (ih q (List.mem_of_getElem? hq))) ih
    · exact ih
theorem bfs_fwd {ls : List Ln} {n p : Nat} (hp : p < n) (hs : Stays n ls) (x : Nat) : (bfs false ls n p)[x]? = some true ↔ Leads ls p x := by
  constructor
  · intro h
    have hm := (bst_mem (back := false) hp hs n x).1 h
    exact bst_P (P := Leads ls p) (.refl p) (fun q hq l hl hc => hq.tail hl (by simpa [canD] using hc)) n x hm
  · intro h
    have key : ∀ {a b : Nat}, Leads ls a b → (bfs false ls n p)[a]? = some true → (bfs false ls n p)[b]? = some true := by
      intro a b h
      induction h with
      | refl => exact id
      | head l hl hc _ ih => exact fun ha => ih (bfs_closed (back := false) hp hs ha hl (by simpa [canD] using hc))
    exact key h (bfs_self hp hs)
theorem bfs_bwd {ls : List Ln} {n g : Nat} (h49 : ∀ l ∈ ls, Ln49 l) (hg : g < n) (hs : Stays n ls) (x : Nat) : (bfs true ls n g)[x]? = some true ↔ Leads ls x g := by
  constructor
  · intro h
    have hm := (bst_mem (back := true) hg hs n x).1 h
    refine bst_P (P := fun q => Leads ls q g) (.refl g) (fun q hq l hl hc => ?_) n x hm
    refine .head l hl (canJ_flip (h49 l hl) (by simpa [canD] using hc)) ?_
    rw [flip_flip]
    exact hq
  · intro h
    induction h with
    | refl => exact bfs_self hg hs
    | head l hl hc _ ih =>
      have := bfs_closed (back := true) hg hs (ih hg) hl (by simpa [canD] using canU_flip (h49 l hl) hc)
      rwa [flip_flip] at this
end Go.Proofs.Ytbcgokpamhgabaa
namespace Go.Proofs.Ytbcgokpamhgabaa
set_option linter.unusedVariables false
open Go.RowKit

theorem ln49s {w h s : Nat} (hb : BdOk w h s) : ∀ l ∈ linesL ⟨w, h, s⟩, Ln49 l := fun l hl => by
  obtain ⟨f, o, t, hl⟩ := linesL_ok hb hl
  have := hb.area
  exact ⟨f, o, t, hl.1, by have := hl.f1; omega, by have := hl.o1; omega, by have := hl.t1; omega, hl.ft, hl.ot, hl.fo⟩
theorem small_of {w h s : Nat} (hb : BdOk w h s) (h16 : w * h ≤ 16) : smallB ⟨w, h, s⟩ = true := by
  have hB := posB_board (posB_of hb (q := 0) (by simp))
  have h2 : (w : Int) * h ≤ 16 := by rw [← Int.natCast_mul]; omega
  simp only [smallB, hB, Bool.true_and, decide_eq_true_eq]
  exact h2
theorem reach_leads {w h s : Nat} {p : Nat} (hb : BdOk w h s) (h16 : w * h ≤ 16) (hP : posB ⟨w, h, s⟩ p = true) (x : Nat) : x ∈ reachL ⟨w, h, s⟩ p false ↔ Leads (linesL ⟨w, h, s⟩) p x := by
  obtain ⟨q, hq, hs⟩ := posB_nat hP
  obtain rfl : p = q := by omega
  rw [reachL_mem (small_of hb h16) hP, bfs_fwd (posB_lt hb hs) (stays_of hb)]
theorem jump_on {w h s : Nat} {p q : Nat} {l : Ln} (hb : BdOk w h s) (hQ : posB ⟨w, h, s⟩ q = true) (hl : l ∈ jumpsL ⟨w, h, s⟩ q) (hp : Leads (linesL ⟨w, h, s⟩) p q) :
    doP ⟨w, h, s⟩ q l = (flip q l : Nat) ∧ Leads (linesL ⟨w, h, s⟩) p (flip q l) ∧ popc (flip q l) + 1 = popc q ∧ posB ⟨w, h, s⟩ (flip q l : Nat) = true := by
  have hd := jumps_do hl
  have e := doP_yes hd
  have hl' : l ∈ linesL ⟨w, h, s⟩ ∧ canJ q l = true := by
    rw [jumpsL, if_pos hQ, List.mem_filter, Int.toNat_natCast] at hl
    exact hl
  have := doP_pos (l := l) hQ
  rw [e] at this
  exact ⟨e, hp.tail hl'.1 hl'.2, popc_jump (ln49s hb l hl'.1) hl'.2, this⟩
theorem pop16 {w h s : Nat} {p : Nat} (hb : BdOk w h s) (h16 : w * h ≤ 16) (hP : posB ⟨w, h, s⟩ p = true) : popc p ≤ 16 := by
  obtain ⟨q, hq, hs⟩ := posB_nat hP
  obtain rfl : p = q := by omega
  exact Nat.le_trans (popc_le p (posB_lt hb hs) (by have := hb.area; omega)) h16
end Go.Proofs.Ytbcgokpamhgabaa

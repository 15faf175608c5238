/- Counting games: the plain numbers of ways, and that what is reached is closed under jumps. No program in sight. -/
import Derived.Test.YtbcgokpamhgabaaKb22
import Derived.Tactics
namespace Go.Proofs.Ytbcgokpamhgabaa
set_option linter.unusedVariables false
open Go.RowKit

/-- The number of games from p, to the goal gs (or, where gs is negative, to stuck positions), with no jump into av; as the program adds it. -/
def wayc (ls : List Ln) (gs av : Int) : Nat → Nat → Int
  | 0, p => if (p : Int) = gs then 1 else if gs < 0 then 1 else 0
  | n + 1, p => if (p : Int) = gs then 1 else if gs < 0 ∧ stuckL ls p = true then 1 else
      ls.foldl (fun s l => if canJ p l && (l.t != av) then wrap64 (s + wayc ls gs av n (flip p l)) else s) 0
def ways (ls : List Ln) (gs av : Int) (p : Nat) : Int := wayc ls gs av (popc p) p
def wstep (f : Nat → Int) (av : Int) (p : Nat) (s : Int) (l : Ln) : Int := if canJ p l && (l.t != av) then wrap64 (s + f (flip p l)) else s
def wsum (f : Nat → Int) (av : Int) (ls : List Ln) (p : Nat) : Int := ls.foldl (wstep f av p) 0

theorem no_jump {ls : List Ln} {p : Nat} (h49 : ∀ l ∈ ls, Ln49 l) (h : popc p = 0) : ∀ l ∈ ls, canJ p l = false := fun l hl => by
  cases hc : canJ p l with
  | false => rfl
  | true => have := popc_jump (h49 l hl) hc; omega
theorem stuck_all {ls : List Ln} {p : Nat} (h : ∀ l ∈ ls, canJ p l = false) : stuckL ls p = true := by
  simp only [stuckL, Bool.not_eq_true', List.any_eq_false]
  intro l hl
  simp [h l hl]
theorem wsum_none {f : Nat → Int} {av : Int} {p : Nat} : ∀ (ls : List Ln), (∀ l ∈ ls, canJ p l = false) → ∀ s, ls.foldl (wstep f av p) s = s
  | [], _, _ => rfl
  | l :: ls, h, s => by
    rw [List.foldl_cons, show wstep f av p s l = s by simp [wstep, h l (by simp)]]
    exact wsum_none ls (fun x hx => h x (by simp [hx])) s
theorem fold_same {f g : Nat → Int} {av : Int} {p : Nat} : ∀ (ls : List Ln), (∀ l ∈ ls, canJ p l = true → f (flip p l) = g (flip p l)) → ∀ s, ls.foldl (wstep f av p) s = ls.foldl (wstep g av p) s
  | [], _, _ => rfl
  | l :: ls, h, s => by
    rw [List.foldl_cons, List.foldl_cons, show wstep f av p s l = wstep g av p s l by
      unfold wstep
      cases hc : canJ p l with
      | false => simp
      | true => simp [h l (by simp) hc]]
    exact fold_same ls (fun x hx => h x (by simp [hx])) _
theorem ways_eq {ls : List Ln} (h49 : ∀ l ∈ ls, Ln49 l) (gs av : Int) (p : Nat) :
    ways ls gs av p = if (p : Int) = gs then 1 else if gs < 0 ∧ stuckL ls p = true then 1 else wsum (ways ls gs av) av ls p := by
  cases hp : popc p with
  | zero =>
    have hn := no_jump h49 hp
    rw [ways, hp, wayc, wsum, wsum_none ls hn, stuck_all hn]
    simp
  | succ n =>
    rw [ways, hp, wayc, wsum]
    split
    · rfl
    · split
      · rfl
      · refine fold_same (f := wayc ls gs av n) ls (fun l hl hc => ?_) 0
        have := popc_jump (h49 l hl) hc
        rw [ways, show popc (flip p l) = n by omega]
theorem ways_goal {ls : List Ln} (h49 : ∀ l ∈ ls, Ln49 l) {gs av : Int} {p : Nat} (h : (p : Int) = gs) : ways ls gs av p = 1 := by rw [ways_eq h49, if_pos h]
theorem ways_stuck {ls : List Ln} (h49 : ∀ l ∈ ls, Ln49 l) {gs av : Int} {p : Nat} (h : gs < 0) (hs : stuckL ls p = true) : ways ls gs av p = 1 := by
  rw [ways_eq h49]
  split
  · rfl
  · rw [if_pos ⟨h, hs⟩]
theorem ways_sum {ls : List Ln} (h49 : ∀ l ∈ ls, Ln49 l) {gs av : Int} {p : Nat} (hg : (p : Int) ≠ gs) (h : (decide (gs < 0) && stuckL ls p) = false) : ways ls gs av p = wsum (ways ls gs av) av ls p := by
  rw [ways_eq h49, if_neg hg, if_neg]
  rintro ⟨a, b⟩
  simp [a, b] at h
theorem wsum_take {f : Nat → Int} {av : Int} {ls : List Ln} {p i : Nat} {l : Ln} (hl : ls[i]? = some l) : wsum f av (ls.take (i + 1)) p = wstep f av p (wsum f av (ls.take i) p) l := by
  rw [wsum, List.take_add_one, hl]
  simp [wsum, List.foldl_append]
theorem wstep_no {f : Nat → Int} {av : Int} {p : Nat} {s : Int} {l : Ln} (h : canJ p l = false) : wstep f av p s l = s := by simp [wstep, h]
theorem wstep_av {f : Nat → Int} {av : Int} {p : Nat} {s : Int} {l : Ln} (h : (l.t == av) = true) : wstep f av p s l = s := by
  have h : l.t = av := by simpa using h
  simp [wstep, h]
theorem wstep_yes {f : Nat → Int} {av : Int} {p : Nat} {s : Int} {l : Ln} (h : canJ p l = true) (h2 : (l.t == av) = false) : wstep f av p s l = wrap64 (s + f (flip p l)) := by
  have h2 : l.t ≠ av := by simpa using h2
  simp [wstep, h, h2]
theorem stuck_take {ls : List Ln} {p : Nat} {i : Nat} {l : Ln} (hl : ls[i]? = some l) : stuckL (ls.take (i + 1)) p = (stuckL (ls.take i) p && !canJ p l) := by
  simp only [stuckL]
  rw [List.take_add_one, hl]
  simp [List.any_append]
theorem wsum_stuck {f : Nat → Int} {av : Int} {ls : List Ln} {p : Nat} (h : stuckL ls p = true) : wsum f av ls p = 0 := by
  simp only [stuckL, Bool.not_eq_true', List.any_eq_false] at h
  exact wsum_none ls (fun l hl => by simpa using h l hl) 0
theorem ways_i64 {ls : List Ln} (h49 : ∀ l ∈ ls, Ln49 l) (gs av : Int) (p : Nat) : -9223372036854775808 ≤ ways ls gs av p ∧ ways ls gs av p ≤ 9223372036854775807 := by
  rw [ways_eq h49]
  split
  · omega
  · split
    · omega
    · have key : ∀ (ks : List Ln) (s : Int), (-9223372036854775808 ≤ s ∧ s ≤ 9223372036854775807) → -9223372036854775808 ≤ ks.foldl (wstep (ways ls gs av) av p) s ∧ ks.foldl (wstep (ways ls gs av) av p) s ≤ 9223372036854775807 := by
        intro ks
        induction ks with
        | nil => intro s h; exact h
        | cons l ks ih =>
          intro s h
          refine ih _ ?_
          unfold wstep
          split
          · unfold wrap64; omega
          · exact h
      exact key ls 0 (by omega)

/-- What is reached is closed under jumps. -/
theorem step_tru {back : Bool} {p : Nat} {st : St} {l : Ln} {k : Nat} (h : st.1[k]? = some true) : (stepS back p st l).1[k]? = some true := by
  unfold stepS
  split
  · rw [List.getElem?_set]
    split
    · next e => subst e; have := (List.getElem?_eq_some_iff.1 h).1; simp [this]
    · exact h
  · exact h
theorem row_tru {back : Bool} {p k : Nat} : ∀ (ls : List Ln) (st : St), st.1[k]? = some true → (rowS back ls p st).1[k]? = some true
  | [], _, h => h
  | l :: ls, st, h => row_tru ls (stepS back p st l) (step_tru h)
theorem step_hit {back : Bool} {p : Nat} {st : St} {l : Ln} (h : canD back p l = true) (hl : flip p l < st.1.length) : (stepS back p st l).1[flip p l]? = some true := by
  unfold stepS
  cases hb : st.1[flip p l]? with
  | none => rw [List.getElem?_eq_none_iff] at hb; omega
  | some b =>
    cases b with
    | true =>
      have hg : st.1.getD (flip p l) true = true := by rw [List.getD, hb]; rfl
      rw [h, hg]
      simpa using hb
    | false =>
      have hg : st.1.getD (flip p l) true = false := by rw [List.getD, hb]; rfl
      rw [h, hg]
      simp [hl]
theorem row_hit {back : Bool} {p n : Nat} (hp : p < n) : ∀ (ls : List Ln) (st : St), Inv n st → Stays n ls → ∀ l ∈ ls, canD back p l = true → (rowS back ls p st).1[flip p l]? = some true
  | [], _, _, _, l, hl, _ => by simp at hl
  | x :: ls, st, hi, hs, l, hl, hc => by
    have hx := hs x (by simp) p hp
    rcases List.mem_cons.1 hl with rfl | hl
    · exact row_tru ls _ (step_hit hc (by rw [hi.len]; exact hx))
    · exact row_hit hp ls _ (step_inv hi hx) (fun y hy => hs y (by simp [hy])) l hl hc
theorem bst_old {back : Bool} {ls : List Ln} {n p k j q : Nat} (h : (bst back ls n p k).2[j]? = some q) (d : Nat) : (bst back ls n p (k + d)).2[j]? = some q := by
  induction d with
  | zero => exact h
  | succ d ih =>
    rw [← Nat.add_assoc, bst]
    cases hq : (bst back ls n p (k + d)).2[k + d]? with
    | none => exact ih
    | some x => exact row_pre ls _ ih
theorem bst_tru {back : Bool} {ls : List Ln} {n p k q : Nat} (h : (bst back ls n p k).1[q]? = some true) (d : Nat) : (bst back ls n p (k + d)).1[q]? = some true := by
  induction d with
  | zero => exact h
  | succ d ih =>
    rw [← Nat.add_assoc, bst]
    cases hq : (bst back ls n p (k + d)).2[k + d]? with
    | none => exact ih
    | some x => exact row_tru ls _ ih
/-- The marks are those of the list. -/
theorem step_mem {back : Bool} {p n : Nat} {st : St} {l : Ln} (hl : flip p l < n) (hn : st.1.length = n) (h : ∀ q, st.1[q]? = some true ↔ q ∈ st.2) : ∀ q, (stepS back p st l).1[q]? = some true ↔ q ∈ (stepS back p st l).2 := fun q => by
  unfold stepS
  split
  · rw [List.getElem?_set, List.mem_append, List.mem_singleton]
    split
    · next e => subst e; simp [hn, hl]
    · next e => rw [h q]; constructor
                · exact .inl
                · rintro (a | a)
                  · exact a
                  · exact absurd a.symm e
  · exact h q
theorem row_mem {back : Bool} {p n : Nat} (hp : p < n) : ∀ (ls : List Ln) (st : St), Inv n st → Stays n ls → (∀ q, st.1[q]? = some true ↔ q ∈ st.2) → ∀ q, (rowS back ls p st).1[q]? = some true ↔ q ∈ (rowS back ls p st).2
  | [], _, _, _, h => h
  | l :: ls, st, hi, hs, h => row_mem hp ls (stepS back p st l) (step_inv hi (hs l (by simp) p hp)) (fun y hy => hs y (by simp [hy])) (step_mem (hs l (by simp) p hp) hi.len h)
theorem bst_mem {back : Bool} {ls : List Ln} {n p : Nat} (hp : p < n) (hs : Stays n ls) (k : Nat) : ∀ q, (bst back ls n p k).1[q]? = some true ↔ q ∈ (bst back ls n p k).2 := by
  induction k with
  | zero =>
    intro q
    simp only [bst, List.getElem?_set, List.mem_singleton, List.length_replicate]
    split
    · next e => subst e; simp
    · next e =>
      constructor
      · intro h
        rw [List.getElem?_replicate] at h
        split at h <;> simp at h
      · intro h; exact absurd h.symm e
  | succ k ih =>
    rw [bst]
    cases hq : (bst back ls n p k).2[k]? with
    | none => exact ih
    | some x =>
      have hi := bst_inv (back := back) hp hs k
      exact row_mem (hi.lt x (List.mem_of_getElem? hq)) ls _ hi hs ih
theorem bfs_closed {back : Bool} {ls : List Ln} {n p : Nat} (hp : p < n) (hs : Stays n ls) {x : Nat} (hx : (bfs back ls n p)[x]? = some true) {l : Ln} (hl : l ∈ ls) (hc : canD back x l = true) : (bfs back ls n p)[flip x l]? = some true := by
  have hi := bst_inv (back := back) hp hs n
  have hm := (bst_mem (back := back) hp hs n x).1 hx
  obtain ⟨j, hj⟩ := List.getElem?_of_mem hm
  have hjn : j < n := Nat.lt_of_lt_of_le (List.getElem?_eq_some_iff.1 hj).1 hi.le
  -- at step j the list has its j-th entry already, or it would never have grown
  have hjj : (bst back ls n p j).2[j]? = some x := by
    cases hq : (bst back ls n p j).2[j]? with
    | some y =>
      have := bst_old hq (n - j)
      rw [show j + (n - j) = n by omega, hj] at this
      exact this.symm
    | none =>
      have hle : (bst back ls n p j).2.length ≤ j := by rwa [List.getElem?_eq_none_iff] at hq
      have := bst_stop hle (n - j)
      rw [show j + (n - j) = n by omega] at this
      rw [this, hq] at hj
      cases hj
  have h1 := bst_next hjj
  have h2 : (bst back ls n p (j + 1)).1[flip x l]? = some true := by
    rw [h1]
    exact row_hit (hi.lt x hm) ls _ (bst_inv hp hs j) hs l hl hc
  have := bst_tru h2 (n - (j + 1))
  rw [show j + 1 + (n - (j + 1)) = n by omega] at this
  exact this
theorem bfs_self {back : Bool} {ls : List Ln} {n p : Nat} (hp : p < n) (hs : Stays n ls) : (bfs back ls n p)[p]? = some true := by
  have h0 : (bst back ls n p 0).1[p]? = some true := by simp [bst, hp]
  have := bst_tru h0 n
  rw [Nat.zero_add] at this
  exact this
theorem getD_true {l : List Bool} {k : Nat} : l.getD k false = true ↔ l[k]? = some true := by
  rw [List.getD]
  cases l[k]? with
  | none => simp
  | some b => cases b <;> simp
theorem reachL_mem {w h s q : Nat} {back : Bool} (hS : smallB ⟨w, h, s⟩ = true) (hP : posB ⟨w, h, s⟩ q = true) (x : Nat) : x ∈ reachL ⟨w, h, s⟩ q back ↔ (bfs back (linesL ⟨w, h, s⟩) (2 ^ (w * h)) q)[x]? = some true := by
  rw [reachL, trues_mem, spreadL_yes hS hP, getD_true]
  constructor
  · exact And.right
  · intro h
    exact ⟨(List.getElem?_eq_some_iff.1 h).1, h⟩
theorem trues_sorted (l : List Bool) (k : Nat) : (trues l k).Nodup := by
  unfold trues
  exact List.Nodup.sublist List.filter_sublist List.nodup_range
end Go.Proofs.Ytbcgokpamhgabaa

/- Games counted, picked by index, and their holes: the plain law of FnCounts. No program in sight. -/
import Derived.Test.YtbcgokpamhgabaaKc25
import Derived.Test.YtbcgokpamhgabaaKc26
namespace Go.Proofs.Ytbcgokpamhgabaa
set_option linter.unusedVariables false

section
variable {ls : List Ln} (h49 : ∀ l ∈ ls, Ln49 l) (g : Nat)
include h49
/-- Whatever can be reached, some game reaches. -/
theorem waysN_pos {p : Nat} (h : Leads ls p g) : 1 ≤ waysN ls g (-1) p := by
  induction h with
  | refl => rw [waysN_goal rfl]; exact Nat.le_refl _
  | head l hl hc h ih =>
    rename_i a b
    by_cases e : a = b
    · subst e; rw [waysN_goal rfl]; exact Nat.le_refl _
    · rw [waysN_sum h49 (by omega)]
      have := sum_mem (fun l => waysN ls b (-1) (flip a l)) (List.mem_filter.2 ⟨hl, hc⟩ : l ∈ ls.filter (canJ a))
      unfold sumG
      omega
theorem game_ne {p i : Nat} (hne : p ≠ g) (hi : i < waysN ls g (-1) p) :
    ∃ l j, pickG (waysN ls g (-1)) p ls i = some (l, j) ∧ l ∈ ls ∧ canJ p l = true ∧ j < waysN ls g (-1) (flip p l) ∧ gameG (waysN ls g (-1)) ls g p i = l :: gameG (waysN ls g (-1)) ls g (flip p l) j := by
  rw [waysN_sum h49 (by omega)] at hi
  obtain ⟨l, j, h1, h2, h3, h4⟩ := pick_some _ _ hi
  exact ⟨l, j, h1, h2, h3, h4, gameG_next h49 hne h1 h2 h3⟩
/-- A game has as many jumps as pegs are lost, at most. -/
theorem game_len : ∀ (n p i : Nat), popc p = n → i < waysN ls g (-1) p → (gameG (waysN ls g (-1)) ls g p i).length ≤ n := by
  intro n
  induction n using Nat.strongRecOn with
  | _ n ih =>
    intro p i hp hi
    by_cases e : p = g
    · subst e; rw [gameG_end]; simp
    · obtain ⟨l, j, -, h2, h3, h4, h5⟩ := game_ne h49 g e hi
      have hq := popc_jump (h49 l h2) h3
      rw [h5, List.length_cons]
      have := ih (popc (flip p l)) (by omega) (flip p l) j rfl h4
      omega
/-- The index of the i-th game is i. -/
def accS (F : Nat → Int) (ls : List Ln) : Nat → List Ln → Int → Int
  | _, [], s => s
  | q, j :: js, s => accS F ls (flip q j) js (idxA F ls q j s)
omit h49 in
theorem accS_snoc (F : Nat → Int) (ls : List Ln) (j : Ln) : ∀ (js : List Ln) (q : Nat) (s : Int), accS F ls q (js ++ [j]) s = idxA F ls (js.foldl flip q) j (accS F ls q js s)
  | [], q, s => rfl
  | x :: js, q, s => by rw [List.cons_append, accS, accS_snoc F ls j js, List.foldl_cons, accS]
omit h49 in
theorem accI_accS (F : Nat → Int) (ls : List Ln) (q : Nat) (js : List Ln) : ∀ m, m ≤ js.length → accI F ls q js m = accS F ls q (js.take m) 0
  | 0, _ => by simp [accI, accS]
  | m + 1, h => by
    have hj : js[m]? = some js[m] := List.getElem?_eq_getElem (by omega)
    rw [accI_next hj, accI_accS F ls q js m (by omega), List.take_add_one, hj, Option.toList_some, accS_snoc, posn]
omit h49 in
theorem idx_sum {F : Nat → Int} {W : Nat → Nat} (x : Nat) : ∀ (ts : List Ln) (s : Nat), (∀ l ∈ ts, canJ x l = true → F (flip x l) = (W (flip x l) : Nat)) → s + sumG W x ts ≤ 9223372036854775807 → ts.foldl (istep F x) (s : Int) = ((s + sumG W x ts : Nat) : Int)
  | [], s, _, _ => by simp [sumG]
  | l :: ts, s, hF, hb => by
    rw [List.foldl_cons, istep]
    cases hc : canJ x l with
    | true =>
      rw [sumG_yes hc] at hb ⊢
      simp only [if_true]
      rw [hF l (by simp) hc, wrap_in (by omega) (by omega), show (s : Int) + (W (flip x l) : Nat) = ((s + W (flip x l) : Nat) : Int) by omega, idx_sum x ts (s + W (flip x l)) (fun y hy => hF y (by simp [hy])) (by omega)]
      congr 1
      omega
    | false =>
      rw [sumG_no hc] at hb ⊢
      simp only [Bool.false_eq_true, if_false]
      exact idx_sum x ts s (fun y hy => hF y (by simp [hy])) hb
omit h49 in
theorem pick_mem {W : Nat → Nat} {p j : Nat} {l : Ln} : ∀ (ts : List Ln) (i : Nat), pickG W p ts i = some (l, j) → l ∈ ts
  | [], i, h => by simp [pickG] at h
  | x :: ts, i, h => by
    rw [pickG] at h
    split at h
    · split at h
      · obtain ⟨rfl, rfl⟩ : x = l ∧ i = j := by simpa using h
        simp
      · exact List.mem_cons_of_mem _ (pick_mem ts _ h)
    · exact List.mem_cons_of_mem _ (pick_mem ts _ h)
omit h49 in
theorem pick_idx {W : Nat → Nat} {p j : Nat} {l : Ln} : ∀ (ts : List Ln) (i : Nat), ts.Nodup → pickG W p ts i = some (l, j) → sumG W p (ts.takeWhile fun x => !eqL x l) + j = i
  | [], i, _, h => by simp [pickG] at h
  | x :: ts, i, hn, h => by
    rw [List.nodup_cons] at hn
    rw [pickG] at h
    cases hc : canJ p x with
    | true =>
      rw [hc, if_pos rfl] at h
      split at h
      · obtain ⟨rfl, rfl⟩ : x = l ∧ i = j := by simpa using h
        simp [List.takeWhile, eqL, sumG]
      · rename_i hi
        have h2 := pick_idx ts _ hn.2 h
        have hm : l ∈ ts := pick_mem ts _ h
        have hne : eqL x l = false := by
          have : x ≠ l := fun e => hn.1 (e ▸ hm)
          simpa [eqL] using this
        rw [List.takeWhile_cons, hne]
        simp only [Bool.not_false, if_true]
        rw [sumG_yes hc]
        omega
    | false =>
      rw [hc] at h
      simp only [Bool.false_eq_true, if_false] at h
      have h2 := pick_idx ts _ hn.2 h
      have hm : l ∈ ts := pick_mem ts _ h
      have hne : eqL x l = false := by
        have : x ≠ l := fun e => hn.1 (e ▸ hm)
        simpa [eqL] using this
      rw [List.takeWhile_cons, hne]
      simp only [Bool.not_false, if_true]
      rw [sumG_no hc]
      exact h2
theorem idx_game (hnd : ls.Nodup) {F : Nat → Int} (hF : ∀ x, popc x ≤ 16 → F x = (waysN ls g (-1) x : Nat)) : ∀ (n p i s : Nat), popc p = n → n ≤ 16 → i < waysN ls g (-1) p → s + i ≤ 9223372036854775807 →
    accS F ls p (gameG (waysN ls g (-1)) ls g p i) (s : Int) = ((s + i : Nat) : Int) := by
  intro n
  induction n using Nat.strongRecOn with
  | _ n ih =>
    intro p i s hp hn hi hs
    by_cases e : p = g
    · subst e
      rw [waysN_goal rfl] at hi
      rw [gameG_end, accS, show i = 0 by omega]
      rfl
    · obtain ⟨l, j, h1, h2, h3, h4, h5⟩ := game_ne h49 g e hi
      have hq := popc_jump (h49 l h2) h3
      have hk := pick_idx ls i hnd h1
      rw [h5, accS, idxA, idx_sum (W := waysN ls g (-1)) p _ s (fun y hy hc => by
        have hy' : y ∈ ls := (List.takeWhile_sublist _).subset hy
        have := popc_jump (h49 y hy') hc
        exact hF _ (by omega)) (by omega)]
      rw [ih (popc (flip p l)) (by omega) (flip p l) j _ rfl (by omega) h4 (by omega)]
      congr 1
      omega
/-- Games that avoid a hole are fewer. -/
theorem waysA_sum (k : Int) {p : Nat} (h : p ≠ g) : waysN ls g k p = ((ls.filter fun l => canJ p l && (l.t != k)).map fun l => waysN ls g k (flip p l)).sum := by
  rw [waysN]
  cases hp : popc p with
  | zero =>
    rw [wayN, if_neg (by omega), if_neg (by omega)]
    have hn := no_jump h49 hp
    rw [List.filter_eq_nil_iff.2 (fun l hl => by simp [hn l hl])]
    rfl
  | succ n =>
    rw [wayN, if_neg (by omega), if_neg (by omega)]
    congr 1
    refine List.map_congr_left fun l hl => ?_
    obtain ⟨hl1, hl2⟩ := List.mem_filter.1 hl
    rw [Bool.and_eq_true] at hl2
    have := popc_jump (h49 l hl1) hl2.1
    rw [waysN, show popc (flip p l) = n by omega]
omit h49 in
theorem sum_avoid {f W : Nat → Nat} (k : Int) (p : Nat) : ∀ (ts : List Ln), (∀ y ∈ ts, canJ p y = true → f (flip p y) ≤ W (flip p y)) →
    ((ts.filter fun l => canJ p l && (l.t != k)).map fun l => f (flip p l)).sum ≤ sumG W p ts ∧
      (∀ l ∈ ts, canJ p l = true → (l.t = k ∧ 1 ≤ W (flip p l)) ∨ f (flip p l) < W (flip p l) → ((ts.filter fun l => canJ p l && (l.t != k)).map fun l => f (flip p l)).sum < sumG W p ts)
  | [], _ => ⟨by simp, by simp⟩
  | y :: ts, h => by
    obtain ⟨i1, i2⟩ := sum_avoid (f := f) (W := W) k p ts fun z hz => h z (by simp [hz])
    have hy := h y (by simp)
    cases hc : canJ p y with
    | false =>
      rw [sumG_no hc, List.filter_cons_of_neg (by simp [hc])]
      refine ⟨i1, fun l hl hcl => ?_⟩
      rcases List.mem_cons.1 hl with rfl | hl
      · rw [hc] at hcl; cases hcl
      · exact i2 l hl hcl
    | true =>
      have hy := hy hc
      rw [sumG_yes hc]
      by_cases hk : y.t = k
      · rw [List.filter_cons_of_neg (by simp [hk])]
        refine ⟨by omega, fun l hl hcl hs => ?_⟩
        rcases List.mem_cons.1 hl with rfl | hl
        · rcases hs with hs | hs <;> omega
        · have := i2 l hl hcl hs; omega
      · rw [List.filter_cons_of_pos (by simp [hc, hk]), List.map_cons, List.sum_cons]
        refine ⟨by omega, fun l hl hcl hs => ?_⟩
        rcases List.mem_cons.1 hl with rfl | hl
        · rcases hs with hs | hs
          · exact absurd hs.1 hk
          · omega
        · have := i2 l hl hcl hs; omega
theorem waysA_le (k : Int) : ∀ (n p : Nat), popc p = n → waysN ls g k p ≤ waysN ls g (-1) p := by
  intro n
  induction n using Nat.strongRecOn with
  | _ n ih =>
    intro p hp
    by_cases e : p = g
    · subst e; rw [waysN_goal rfl, waysN_goal rfl]; exact Nat.le_refl _
    · rw [waysA_sum h49 g k e, waysN_sum h49 (by omega)]
      exact (sum_avoid (f := waysN ls g k) (W := waysN ls g (-1)) k p ls fun y hy hc => ih (popc (flip p y)) (by have := popc_jump (h49 y hy) hc; omega) _ rfl).1
theorem waysA_lt (k : Int) : ∀ (n p i : Nat), popc p = n → i < waysN ls g (-1) p → (∃ j ∈ gameG (waysN ls g (-1)) ls g p i, j.t = k) → waysN ls g k p < waysN ls g (-1) p := by
  intro n
  induction n using Nat.strongRecOn with
  | _ n ih =>
    intro p i hp hi hex
    by_cases e : p = g
    · subst e
      rw [gameG_end] at hex
      obtain ⟨j, hj, -⟩ := hex
      cases hj
    · obtain ⟨l, j, h1, h2, h3, h4, h5⟩ := game_ne h49 g e hi
      have hq := popc_jump (h49 l h2) h3
      rw [h5] at hex
      rw [waysA_sum h49 g k e, waysN_sum h49 (by omega)]
      refine (sum_avoid (f := waysN ls g k) (W := waysN ls g (-1)) k p ls fun y hy hc => waysA_le h49 g k _ _ rfl).2 l h2 h3 ?_
      obtain ⟨y, hy, ht⟩ := hex
      rcases List.mem_cons.1 hy with rfl | hy
      · exact .inl ⟨ht, by omega⟩
      · exact .inr (ih (popc (flip p l)) (by omega) (flip p l) j rfl h4 ⟨y, hy, ht⟩)
theorem sumG_le (hf : Few ls) (p : Nat) (hp : popc p ≤ 16) : sumG (waysN ls g (-1)) p ls ≤ 4611686018427387904 := by
  cases h : popc p with
  | zero =>
    have hn := no_jump h49 h
    rw [sumG, List.filter_eq_nil_iff.2 (fun l hl => by simp [hn l hl])]
    simp
  | succ n =>
    have h1 := bw_16 (n + 1) (by omega)
    refine Nat.le_trans (Nat.le_trans (sum_le _ (bw n) _ ?_) ?_) h1
    · intro l hl
      obtain ⟨hl1, hl2⟩ := List.mem_filter.1 hl
      have := popc_jump (h49 l hl1) hl2
      exact wayN_le hf h49 g (-1) n _ (by omega) |> fun h => by rw [waysN, show popc (flip p l) = n by omega]; exact h
    · rw [bw]
      refine Nat.mul_le_mul_right _ ?_
      have b := hf p
      rw [h] at b
      exact b
end
/-- Every position is the start of some game that goes on till it is stuck. -/
theorem all_pos {ls : List Ln} (h49 : ∀ l ∈ ls, Ln49 l) : ∀ (n p : Nat), popc p = n → 1 ≤ waysN ls (-1) (-1) p := by
  intro n
  induction n with
  | zero =>
    intro p hp
    rw [waysN, hp, wayN, if_neg (by omega), if_pos (by omega)]
    exact Nat.le_refl _
  | succ n ih =>
    intro p hp
    rw [waysN, hp, wayN, if_neg (by omega)]
    split
    · omega
    · rename_i h
      have hst : stuckL ls p = false := by
        rw [Bool.eq_false_iff]; intro hs; exact h ⟨by omega, hs⟩
      obtain ⟨l, hl, hc⟩ : ∃ l ∈ ls, canJ p l = true := by simpa [stuckL] using hst
      have ht : (l.t != (-1 : Int)) = true := by
        obtain ⟨f, o, t, rfl, _⟩ := h49 l hl
        simp
      have hq := popc_jump (h49 l hl) hc
      have h1 := ih (flip p l) (by omega)
      have h2 := sum_mem (fun l => wayN ls (-1) (-1) n (flip p l)) (List.mem_filter.2 ⟨hl, by rw [hc, ht]; rfl⟩ : l ∈ ls.filter fun l => canJ p l && (l.t != (-1 : Int)))
      rw [waysN, show popc (flip p l) = n by omega] at h1
      omega
/-- The i-th game is played to the goal. -/
theorem game_plays {w h s : Nat} (hb : BdOk w h s) (g : Nat) : ∀ (n p i : Nat), popc p = n → posB ⟨w, h, s⟩ p = true → i < waysN (linesL ⟨w, h, s⟩) g (-1) p →
    playsB ⟨w, h, s⟩ p (gameG (waysN (linesL ⟨w, h, s⟩) g (-1)) (linesL ⟨w, h, s⟩) g p i) = true ∧ playP ⟨w, h, s⟩ p (gameG (waysN (linesL ⟨w, h, s⟩) g (-1)) (linesL ⟨w, h, s⟩) g p i) = g := by
  have h49 := ln49s hb
  intro n
  induction n using Nat.strongRecOn with
  | _ n ih =>
    intro p i hp hP hi
    by_cases e : p = g
    · subst e; rw [gameG_end]; exact ⟨rfl, rfl⟩
    · obtain ⟨l, j, h1, h2, h3, h4, h5⟩ := game_ne h49 g e hi
      have hq := popc_jump (h49 l h2) h3
      have hj : l ∈ jumpsL ⟨w, h, s⟩ p := by
        rw [jumpsL, if_pos hP, List.mem_filter, Int.toNat_natCast]; exact ⟨h2, h3⟩
      obtain ⟨k1, -, -, k4⟩ := jump_on hb hP hj (.refl p)
      obtain ⟨r1, r2⟩ := ih (popc (flip p l)) (by omega) (flip p l) j rfl k4 h4
      rw [h5]
      refine ⟨?_, ?_⟩
      · rw [playsB, jumps_do hj, k1, r1]; rfl
      · rw [playP, List.foldl_cons, k1]; exact r2
theorem game_sol {w h s g : Nat} (hb : BdOk w h s) {p i : Nat} (h60 : popc p ≤ 60) (hP : posB ⟨w, h, s⟩ p = true) (hi : i < waysN (linesL ⟨w, h, s⟩) g (-1) p) :
    solB ⟨w, h, s⟩ p g (gameG (waysN (linesL ⟨w, h, s⟩) g (-1)) (linesL ⟨w, h, s⟩) g p i) = true := by
  obtain ⟨h1, h2⟩ := game_plays hb g _ p i rfl hP hi
  have hl := game_len (ln49s hb) g _ p i rfl hi
  have hpl := playB_of hP (by omega) h1
  rw [solB, hpl, playR, if_pos hpl, h2]
  simp
/-- What is played is reached. -/
theorem leads_of_play {w h s : Nat} (hb : BdOk w h s) : ∀ (js : List Ln) (p : Nat), p &&& s = p → playsB ⟨w, h, s⟩ p js = true → Leads (linesL ⟨w, h, s⟩) p (posn p js js.length) := by
  intro js
  induction js with
  | nil => intro p _ _; simpa [posn] using Leads.refl p
  | cons j js ih =>
    intro p hp hpl
    have hP := (plays_of hb (j :: js) p hp hpl).1
    obtain ⟨f, o, t, k⟩ := linesL_ok hb hP.1
    rw [playsB, Bool.and_eq_true] at hpl
    have := hpl.2
    rw [doP_yes hpl.1] at this
    have := ih (flip p j) (flip_sub k hp) this
    refine .head j hP.1 hP.2.1 ?_
    simpa [posn] using this
end Go.Proofs.Ytbcgokpamhgabaa

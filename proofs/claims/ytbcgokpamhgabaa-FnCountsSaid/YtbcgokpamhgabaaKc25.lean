/- How many games there are: a number that fits in an int. Which game is the i-th. No program in sight. -/
import Derived.Test.YtbcgokpamhgabaaKc24
namespace Go.Proofs.Ytbcgokpamhgabaa
set_option linter.unusedVariables false
open Go.RowKit

theorem nodup_sub_len {α : Type} [DecidableEq α] : ∀ (a m : List α), a.Nodup → (∀ x ∈ a, x ∈ m) → a.length ≤ m.length
  | [], m, _, _ => by simp
  | x :: a, m, hn, hs => by
    have hx := hs x (by simp)
    obtain ⟨hn1, hn2⟩ := List.nodup_cons.1 hn
    have h1 := nodup_sub_len a (m.erase x) hn2 (fun y hy => by
      have hne : y ≠ x := by rintro rfl; exact hn1 hy
      exact (List.mem_erase_of_ne hne).2 (hs y (by simp [hy])))
    rw [List.length_erase_of_mem hx] at h1
    have := List.length_pos_of_mem hx
    simp only [List.length_cons]
    omega
theorem nodup_map {α β : Type} {f : α → β} {l : List α} (hn : l.Nodup) (hi : ∀ a ∈ l, ∀ c ∈ l, f a = f c → a = c) : (l.map f).Nodup := by
  rw [List.Nodup, List.pairwise_map]
  exact List.Pairwise.imp_of_mem (fun ha hb h e => h (hi _ ha _ hb e)) hn

/-- The direction of a line is told by its middle. -/
theorem lineAt_mid {w h s k way : Nat} {l : Ln} (hb : BdOk w h s) (hl : lineAt w h s k way = some l) :
    l.f = (k : Int) ∧ ∃ m : Nat, l.o = m ∧ (m : Int) = k + dy way * w + dx way ∧ ((m % w : Nat) : Int) = (k % w : Nat) + dx way ∧ ((m / w : Nat) : Int) = (k / w : Nat) + dy way := by
  unfold lineAt at hl
  split at hl
  · cases hl
  · rename_i h1
    obtain ⟨m, e1, m1, m2, m3, m4, m5⟩ := bes_hole (way := way) hb (show 0 ≤ bes w h s k way by omega)
    rw [e1, Int.toNat_natCast] at hl
    split at hl
    · cases hl
    · injection hl with hl
      subst hl
      exact ⟨rfl, m, rfl, m3, m4, m5⟩
theorem way_inj {a c : Nat} (ha : a < 4) (hc : c < 4) (hx : dx a = dx c) (hy : dy a = dy c) : a = c := by
  obtain rfl | rfl | rfl | rfl : a = 0 ∨ a = 1 ∨ a = 2 ∨ a = 3 := by omega
  all_goals
    obtain rfl | rfl | rfl | rfl : c = 0 ∨ c = 1 ∨ c = 2 ∨ c = 3 := by omega
    all_goals first | rfl | (simp [dx, dy] at hx hy)
theorem waysL_mem {w h s k n : Nat} {l : Ln} : l ∈ waysL w h s k n → ∃ m, m < n ∧ lineAt w h s k m = some l := by
  induction n with
  | zero => intro hl; simp [waysL] at hl
  | succ n ih =>
    intro hl
    simp only [waysL, List.mem_append, Option.mem_toList] at hl
    rcases hl with hl | hl
    · obtain ⟨m, a, b⟩ := ih hl
      exact ⟨m, by omega, b⟩
    · exact ⟨n, by omega, hl⟩
theorem waysL_nodup {w h s k n : Nat} (hb : BdOk w h s) (hn : n ≤ 4) : (waysL w h s k n).Nodup := by
  induction n with
  | zero => simp [waysL]
  | succ n ih =>
    rw [waysL, List.nodup_append]
    refine ⟨ih (by omega), by cases lineAt w h s k n <;> simp, ?_⟩
    intro a ha c hc e
    subst e
    obtain ⟨m, hm, h1⟩ := waysL_mem ha
    have h2 : lineAt w h s k n = some a := by simpa [Option.mem_toList] using hc
    obtain ⟨_, x, ex, _, x1, x2⟩ := lineAt_mid hb h1
    obtain ⟨_, y, ey, _, y1, y2⟩ := lineAt_mid hb h2
    have hxy : x = y := by omega
    subst hxy
    have := way_inj (a := m) (c := n) (by omega) (by omega) (by omega) (by omega)
    omega
theorem linesN_f {w h s : Nat} {L : List Nat} {l : Ln} (hb : BdOk w h s) (hl : l ∈ linesN w h s L) : ∃ k ∈ L, ∃ m, m < 4 ∧ lineAt w h s k m = some l := by
  induction L with
  | nil => simp [linesN] at hl
  | cons x L ih =>
    simp only [linesN, List.mem_append] at hl
    rcases hl with hl | hl
    · obtain ⟨m, a, b⟩ := waysL_mem hl
      exact ⟨x, by simp, m, a, b⟩
    · obtain ⟨k, a, b⟩ := ih hl
      exact ⟨k, by simp [a], b⟩
theorem linesN_nodup {w h s : Nat} (hb : BdOk w h s) : ∀ (L : List Nat), L.Nodup → (linesN w h s L).Nodup
  | [], _ => by simp [linesN]
  | x :: L, hn => by
    obtain ⟨h1, h2⟩ := List.nodup_cons.1 hn
    rw [linesN, List.nodup_append]
    refine ⟨waysL_nodup hb (Nat.le_refl _), linesN_nodup hb L h2, ?_⟩
    intro a ha c hc e
    subst e
    obtain ⟨m, hm, e1⟩ := waysL_mem ha
    obtain ⟨k, hk, m', hm', e2⟩ := linesN_f hb hc
    have f1 := (lineAt_mid hb e1).1
    have f2 := (lineAt_mid hb e2).1
    have : k = x := by omega
    subst this
    exact h1 hk
theorem bits_nodup (s n : Nat) : (bitsOf s n).Nodup := (List.nodup_range).filter _
theorem linesL_nodup {w h s : Nat} (hb : BdOk w h s) : (linesL ⟨w, h, s⟩).Nodup := by
  rw [linesL_yes hb]
  exact linesN_nodup hb _ (bits_nodup _ _)
/-- How far a jump goes. -/
def far (l : Ln) : Nat := (l.o - l.f).natAbs
theorem far_of {w h s : Nat} {l : Ln} (hb : BdOk w h s) (hl : l ∈ linesL ⟨w, h, s⟩) : far l = 1 ∨ far l = w := by
  rw [linesL_yes hb] at hl
  obtain ⟨k, _, m, hm, e⟩ := linesN_f hb hl
  obtain ⟨f, o, eo, m3, _, _⟩ := lineAt_mid hb e
  unfold far
  rw [f, eo]
  obtain rfl | rfl | rfl | rfl : m = 0 ∨ m = 1 ∨ m = 2 ∨ m = 3 := by omega
  · left; simp [dx, dy] at m3; omega
  · right; simp [dx, dy] at m3; omega
  · left; simp [dx, dy] at m3; omega
  · right; simp [dx, dy] at m3; omega
theorem pairs_len (w : Nat) (L : List Nat) : (L.flatMap fun o => [(o, 1), (o, w)]).length = 2 * L.length := by
  induction L with
  | nil => rfl
  | cons x L ih => simp [List.flatMap_cons, ih]; omega
/-- There are at most two jumps over each peg. -/
theorem jumps_le {w h s : Nat} (hb : BdOk w h s) (p : Nat) : ((linesL ⟨w, h, s⟩).filter (canJ p)).length ≤ 2 * popc p := by
  have h49 := hb.area.2
  rw [popc, ← pairs_len w (bitsOf p 49), ← List.length_map (f := fun l : Ln => (l.o.toNat, far l))]
  refine nodup_sub_len _ _ (nodup_map ((linesL_nodup hb).filter _) ?_) ?_
  · intro a ha c hc e
    obtain ⟨ha1, ha2⟩ := List.mem_filter.1 ha
    obtain ⟨hc1, hc2⟩ := List.mem_filter.1 hc
    obtain ⟨f, o, t, ka⟩ := linesL_ok hb ha1
    obtain ⟨f', o', t', kc⟩ := linesL_ok hb hc1
    have e1 := ka.eq
    have e2 := kc.eq
    subst e1 e2
    simp only [Prod.mk.injEq, Int.toNat_natCast, far] at e
    obtain ⟨eo, ed⟩ := e
    subst eo
    have m1 := ka.mid
    have m2 := kc.mid
    simp only [canJ, Int.toNat_natCast, Bool.and_eq_true, Bool.not_eq_true'] at ha2 hc2
    by_cases ef : f = f'
    · subst ef
      have : t = t' := by omega
      subst this
      rfl
    · have : f = t' := by omega
      subst this
      rw [ha2.1] at hc2
      exact absurd hc2.2.2 (by simp)
  · intro x hx
    obtain ⟨l, hl, rfl⟩ := List.mem_map.1 hx
    obtain ⟨hl1, hl2⟩ := List.mem_filter.1 hl
    obtain ⟨f, o, t, k⟩ := linesL_ok hb hl1
    have hf := far_of hb hl1
    have e1 := k.eq
    subst e1
    simp only [canJ, Int.toNat_natCast, Bool.and_eq_true] at hl2
    rw [List.mem_flatMap]
    refine ⟨o, ?_, ?_⟩
    · exact bits_mem.2 ⟨by have := k.o1; omega, hl2.2.1⟩
    · rcases hf with hf | hf
      · rw [hf]; simp
      · rw [hf]; simp

def bw : Nat → Nat
  | 0 => 1
  | n + 1 => 2 * (n + 1) * bw n
theorem bw_pos (n : Nat) : 1 ≤ bw n := by
  induction n with
  | zero => exact Nat.le_refl _
  | succ n ih =>
    rw [bw]
    exact Nat.mul_pos (by omega) ih
theorem bw_next (n : Nat) : bw n ≤ bw (n + 1) := by
  rw [bw]
  exact Nat.le_mul_of_pos_left _ (by omega)
theorem bw_16 : ∀ n, n ≤ 16 → bw n ≤ 4611686018427387904 := by
  have key : ∀ d n, n + d = 16 → bw n ≤ bw 16 := by
    intro d
    induction d with
    | zero => intro n e; have : n = 16 := by omega
              subst this; exact Nat.le_refl _
    | succ d ih => intro n e; exact Nat.le_trans (bw_next n) (ih (n + 1) (by omega))
  intro n hn
  exact Nat.le_trans (key (16 - n) n (by omega)) (by decide)

theorem sum_le {α : Type} (f : α → Nat) (M : Nat) : ∀ (l : List α), (∀ x ∈ l, f x ≤ M) → (l.map f).sum ≤ l.length * M
  | [], _ => by simp
  | x :: l, h => by
    have h1 := sum_le f M l fun y hy => h y (by simp [hy])
    have h2 := h x (by simp)
    simp only [List.map_cons, List.sum_cons, List.length_cons, Nat.add_mul, Nat.one_mul]
    omega
theorem sum_mem {α : Type} (f : α → Nat) {l : List α} {x : α} (hx : x ∈ l) : f x ≤ (l.map f).sum := by
  induction l with
  | nil => simp at hx
  | cons y l ih =>
    rcases List.mem_cons.1 hx with rfl | hx
    · simp
    · have := ih hx; simp; omega

/-- The number of games, as a plain number. -/
def wayN (ls : List Ln) (gs av : Int) : Nat → Nat → Nat
  | 0, p => if (p : Int) = gs then 1 else if gs < 0 then 1 else 0
  | n + 1, p => if (p : Int) = gs then 1 else if gs < 0 ∧ stuckL ls p = true then 1 else
      ((ls.filter fun l => canJ p l && (l.t != av)).map fun l => wayN ls gs av n (flip p l)).sum
def waysN (ls : List Ln) (gs av : Int) (p : Nat) : Nat := wayN ls gs av (popc p) p
/-- Few jumps at each position. -/
def Few (ls : List Ln) : Prop := ∀ p, (ls.filter (canJ p)).length ≤ 2 * popc p
theorem few_of {w h s : Nat} (hb : BdOk w h s) : Few (linesL ⟨w, h, s⟩) := fun p => jumps_le hb p
theorem filter_and_le {α : Type} (f g : α → Bool) (l : List α) : (l.filter fun x => f x && g x).length ≤ (l.filter f).length := by
  induction l with
  | nil => simp
  | cons x l ih =>
    simp only [List.filter_cons]
    cases hf : f x <;> cases hg : g x <;> simp <;> omega
theorem wayN_le {ls : List Ln} (hf : Few ls) (h49 : ∀ l ∈ ls, Ln49 l) (gs av : Int) : ∀ n p, popc p = n → wayN ls gs av n p ≤ bw n
  | 0, p, _ => by
    rw [wayN]
    have := bw_pos 0
    (repeat' split) <;> omega
  | n + 1, p, hp => by
    rw [wayN]
    have h1 := bw_pos (n + 1)
    split
    · omega
    · split
      · omega
      · refine Nat.le_trans (sum_le _ (bw n) _ ?_) ?_
        · intro l hl
          obtain ⟨hl1, hl2⟩ := List.mem_filter.1 hl
          rw [Bool.and_eq_true] at hl2
          have := popc_jump (h49 l hl1) hl2.1
          exact wayN_le hf h49 gs av n _ (by omega)
        · rw [bw]
          refine Nat.mul_le_mul_right _ ?_
          have a := filter_and_le (canJ p) (fun l => l.t != av) ls
          have b := hf p
          rw [hp] at b
          omega
theorem wrap_in {x : Int} (h0 : 0 ≤ x) (h1 : x ≤ 9223372036854775807) : wrap64 x = x := IntWalk.wrap64_in x (by omega)
theorem fold_sum {f : Nat → Int} {g : Nat → Nat} {av : Int} {p : Nat} : ∀ (ls : List Ln) (s : Nat), (∀ l ∈ ls, canJ p l = true → f (flip p l) = (g (flip p l) : Nat)) →
    s + ((ls.filter fun l => canJ p l && (l.t != av)).map fun l => g (flip p l)).sum ≤ 9223372036854775807 →
    ls.foldl (fun (s : Int) l => if canJ p l && (l.t != av) then wrap64 (s + f (flip p l)) else s) (s : Int) = ((s + ((ls.filter fun l => canJ p l && (l.t != av)).map fun l => g (flip p l)).sum : Nat) : Int)
  | [], s, _, _ => by simp
  | l :: ls, s, hfg, hb => by
    rw [List.foldl_cons]
    cases hc : (canJ p l && (l.t != av)) with
    | false =>
      have e : ((l :: ls).filter fun l => canJ p l && (l.t != av)) = (ls.filter fun l => canJ p l && (l.t != av)) := by simp [hc]
      rw [e] at hb ⊢
      simp only [Bool.false_eq_true, if_false]
      exact fold_sum ls s (fun x hx => hfg x (by simp [hx])) hb
    | true =>
      have e : ((l :: ls).filter fun l => canJ p l && (l.t != av)) = l :: (ls.filter fun l => canJ p l && (l.t != av)) := by simp [hc]
      rw [e] at hb ⊢
      simp only [List.map_cons, List.sum_cons] at hb ⊢
      have hcj : canJ p l = true := by rw [Bool.and_eq_true] at hc; exact hc.1
      simp only [if_true]
      rw [hfg l (by simp) hcj]
      have e2 : wrap64 ((s : Int) + (g (flip p l) : Nat)) = ((s + g (flip p l) : Nat) : Int) := by rw [wrap_in (by omega) (by omega)]; omega
      rw [e2, fold_sum ls (s + g (flip p l)) (fun x hx => hfg x (by simp [hx])) (by omega)]
      congr 1
      omega
theorem wayc_is {ls : List Ln} (hf : Few ls) (h49 : ∀ l ∈ ls, Ln49 l) (gs av : Int) : ∀ n p, popc p = n → n ≤ 16 → wayc ls gs av n p = (wayN ls gs av n p : Nat)
  | 0, p, _, _ => by rw [wayc, wayN]; (repeat' split) <;> simp
  | n + 1, p, hp, hn => by
    have hb := wayN_le hf h49 gs av (n + 1) p hp
    have hb2 := bw_16 (n + 1) hn
    rw [wayc, wayN]
    rw [wayN] at hb
    split
    · rfl
    · rename_i h1
      rw [if_neg h1] at hb
      split
      · rfl
      · rename_i h2
        rw [if_neg h2] at hb
        have := fold_sum (f := wayc ls gs av n) (g := wayN ls gs av n) (av := av) (p := p) ls 0 (fun l hl hc => by
          have := popc_jump (h49 l hl) hc
          exact wayc_is hf h49 gs av n _ (by omega) (by omega)) (by omega)
        simpa using this
theorem ways_nat {ls : List Ln} (hf : Few ls) (h49 : ∀ l ∈ ls, Ln49 l) (gs av : Int) {p : Nat} (hp : popc p ≤ 16) : ways ls gs av p = (waysN ls gs av p : Nat) := wayc_is hf h49 gs av _ p rfl hp
theorem waysN_le {ls : List Ln} (hf : Few ls) (h49 : ∀ l ∈ ls, Ln49 l) (gs av : Int) {p : Nat} (hp : popc p ≤ 16) : waysN ls gs av p ≤ 4611686018427387904 :=
  Nat.le_trans (wayN_le hf h49 gs av _ p rfl) (bw_16 _ hp)
theorem waysN_goal {ls : List Ln} {gs av : Int} {p : Nat} (h : (p : Int) = gs) : waysN ls gs av p = 1 := by
  rw [waysN]
  cases popc p <;> rw [wayN, if_pos h]
/-- The games that begin with one of ls. -/
def sumG (W : Nat → Nat) (p : Nat) (ls : List Ln) : Nat := ((ls.filter (canJ p)).map fun l => W (flip p l)).sum
theorem sumG_yes {W : Nat → Nat} {p : Nat} {l : Ln} {ls : List Ln} (h : canJ p l = true) : sumG W p (l :: ls) = W (flip p l) + sumG W p ls := by
  simp [sumG, h]
theorem sumG_no {W : Nat → Nat} {p : Nat} {l : Ln} {ls : List Ln} (h : canJ p l = false) : sumG W p (l :: ls) = sumG W p ls := by
  simp [sumG, h]
theorem waysN_sum {ls : List Ln} (h49 : ∀ l ∈ ls, Ln49 l) {g : Nat} {p : Nat} (h : (p : Int) ≠ g) : waysN ls g (-1) p = sumG (waysN ls g (-1)) p ls := by
  have hall : ∀ l ∈ ls, (l.t != (-1 : Int)) = true := fun l hl => by
    obtain ⟨f, o, t, rfl, _⟩ := h49 l hl
    simp
  rw [waysN, sumG]
  cases hp : popc p with
  | zero =>
    rw [wayN, if_neg h, if_neg (by omega)]
    have hn := no_jump h49 hp
    rw [List.filter_eq_nil_iff.2 (fun l hl => by simp [hn l hl])]
    rfl
  | succ n =>
    rw [wayN, if_neg h, if_neg (by omega)]
    have e : (ls.filter fun l => canJ p l && (l.t != (-1 : Int))) = ls.filter (canJ p) := List.filter_congr fun l hl => by rw [hall l hl, Bool.and_true]
    rw [e]
    congr 1
    refine List.map_congr_left fun l hl => ?_
    obtain ⟨hl1, hl2⟩ := List.mem_filter.1 hl
    have := popc_jump (h49 l hl1) hl2
    rw [waysN, show popc (flip p l) = n by omega]

/-- Which jump the i-th game from p begins with, and its index among the games behind that jump. -/
def pickG (W : Nat → Nat) (p : Nat) : List Ln → Nat → Option (Ln × Nat)
  | [], _ => none
  | l :: ls, i => if canJ p l then (if i < W (flip p l) then some (l, i) else pickG W p ls (i - W (flip p l))) else pickG W p ls i
theorem pick_some {W : Nat → Nat} {p : Nat} : ∀ (ls : List Ln) (i : Nat), i < sumG W p ls → ∃ l j, pickG W p ls i = some (l, j) ∧ l ∈ ls ∧ canJ p l = true ∧ j < W (flip p l)
  | [], i, h => by simp [sumG] at h
  | l :: ls, i, h => by
    rw [pickG]
    cases hc : canJ p l with
    | true =>
      rw [sumG_yes hc] at h
      rw [if_pos rfl]
      split
      · rename_i hi; exact ⟨l, i, rfl, by simp, hc, hi⟩
      · obtain ⟨x, j, a, b, c, d⟩ := pick_some (W := W) (p := p) ls (i - W (flip p l)) (by omega)
        exact ⟨x, j, a, by simp [b], c, d⟩
    | false =>
      rw [sumG_no hc] at h
      simp only [Bool.false_eq_true, if_false]
      obtain ⟨x, j, a, b, c, d⟩ := pick_some (W := W) (p := p) ls i h
      exact ⟨x, j, a, by simp [b], c, d⟩
theorem pick_filter {W : Nat → Nat} {p : Nat} : ∀ (ls : List Ln) (i : Nat), pickG W p (ls.filter (canJ p)) i = pickG W p ls i
  | [], i => rfl
  | l :: ls, i => by
    cases hc : canJ p l with
    | true =>
      rw [List.filter_cons_of_pos hc, pickG, pickG, hc, if_pos rfl, if_pos rfl, pick_filter ls]
    | false =>
      rw [List.filter_cons_of_neg (by simp [hc]), pickG, hc, pick_filter ls]
      simp
theorem sumG_filter (W : Nat → Nat) (p : Nat) (ls : List Ln) : sumG W p (ls.filter (canJ p)) = sumG W p ls := by
  rw [sumG, sumG, List.filter_filter]
  congr 3
  funext l
  simp
/-- At the k-th line, with i left. -/
theorem pick_hit {W : Nat → Nat} {p k i : Nat} {ls : List Ln} {l : Ln} (hl : ls[k]? = some l) (hc : canJ p l = true) (hi : i < W (flip p l)) : pickG W p (ls.drop k) i = some (l, i) := by
  obtain ⟨hk, e⟩ := List.getElem?_eq_some_iff.1 hl
  rw [List.drop_eq_getElem_cons hk, e, pickG, if_pos hc, if_pos hi]
theorem pick_over {W : Nat → Nat} {p k i : Nat} {ls : List Ln} {l : Ln} (hl : ls[k]? = some l) (hc : canJ p l = true) (hi : ¬ i < W (flip p l)) :
    pickG W p (ls.drop k) i = pickG W p (ls.drop (k + 1)) (i - W (flip p l)) ∧ (i < sumG W p (ls.drop k) → i - W (flip p l) < sumG W p (ls.drop (k + 1))) := by
  obtain ⟨hk, e⟩ := List.getElem?_eq_some_iff.1 hl
  rw [List.drop_eq_getElem_cons hk, e]
  refine ⟨by rw [pickG, if_pos hc, if_neg hi], fun h => ?_⟩
  rw [sumG_yes hc] at h
  omega
theorem pick_past {W : Nat → Nat} {p k i : Nat} {ls : List Ln} {l : Ln} (hl : ls[k]? = some l) (hc : canJ p l = false) :
    pickG W p (ls.drop k) i = pickG W p (ls.drop (k + 1)) i ∧ (i < sumG W p (ls.drop k) → i < sumG W p (ls.drop (k + 1))) := by
  obtain ⟨hk, e⟩ := List.getElem?_eq_some_iff.1 hl
  rw [List.drop_eq_getElem_cons hk, e]
  refine ⟨by rw [pickG, hc]; simp, fun h => ?_⟩
  rwa [sumG_no hc] at h
theorem sumG_end (W : Nat → Nat) (p : Nat) (ls : List Ln) : sumG W p (ls.drop ls.length) = 0 := by simp [sumG]

/-- The i-th game from p to g. -/
def gameN (W : Nat → Nat) (ls : List Ln) (g : Nat) : Nat → Nat → Nat → List Ln
  | 0, _, _ => []
  | n + 1, p, i => if p = g then [] else match pickG W p ls i with
    | some (l, j) => l :: gameN W ls g n (flip p l) j
    | none => []
def gameG (W : Nat → Nat) (ls : List Ln) (g p i : Nat) : List Ln := gameN W ls g (popc p + 1) p i
theorem gameG_end {W : Nat → Nat} {ls : List Ln} {g i : Nat} : gameG W ls g g i = [] := by simp [gameG, gameN]
theorem gameG_next {W : Nat → Nat} {ls : List Ln} (h49 : ∀ l ∈ ls, Ln49 l) {g p i j : Nat} {l : Ln} (hne : p ≠ g) (hp : pickG W p ls i = some (l, j)) (hl : l ∈ ls) (hc : canJ p l = true) :
    gameG W ls g p i = l :: gameG W ls g (flip p l) j := by
  have := popc_jump (h49 l hl) hc
  rw [gameG, gameN, if_neg hne, hp, gameG, ← this]
theorem gameN_le (W : Nat → Nat) (ls : List Ln) (g : Nat) : ∀ n p i, (gameN W ls g n p i).length ≤ n
  | 0, _, _ => by simp [gameN]
  | n + 1, p, i => by
    rw [gameN]
    split
    · simp
    · split
      · rename_i l j _
        have := gameN_le W ls g n (flip p l) j
        simp only [List.length_cons]
        omega
      · simp
end Go.Proofs.Ytbcgokpamhgabaa

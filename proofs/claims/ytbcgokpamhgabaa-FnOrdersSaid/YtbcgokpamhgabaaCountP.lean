/- CountOrders as a plain table over sets of jumps, filled from below (the reference) or from above (the program). No program in sight. -/
import Derived.Test.YtbcgokpamhgabaaMustP
import Derived.IntWalk
set_option linter.unusedVariables false
namespace Go.Proofs.Ytbcgokpamhgabaa
open Go.RowKit

def wr (x : Int) : Int := IntKind.i64.wrap x
theorem wr_64 (x : Int) : wr x = wrap64 x := by unfold wr wrap64; rw [IntKind.wrap_i64]
theorem wr_add (a b : Int) : wr (wr a + b) = wr (a + b) := by
  simp only [wr, IntKind.wrap_i64]
  omega
theorem wr_add' (a b : Int) : wr (a + wr b) = wr (a + b) := by
  rw [Int.add_comm, wr_add, Int.add_comm]
theorem wr_wr (a : Int) : wr (wr a) = wr a := by
  have := wr_add a 0
  simpa using this

/-- All earlier jumps that disturb jump k are in the set s. -/
def okB (ls : List Ln) (k s : Nat) : Nat → Bool
  | 0 => true
  | i + 1 => okB ls k s i && (s.testBit i || !disturbB (ls.getD i default) (ls.getD k default))
theorem ok_next {ls : List Ln} {k s i : Nat} {x y : Ln} (hx : ls[i]? = some x) (hy : ls[k]? = some y) : okB ls k s (i + 1) = (okB ls k s i && (s.testBit i || !disturbB x y)) := by
  simp [okB, List.getD_eq_getElem?_getD, hx, hy]
theorem ok_down {ls : List Ln} {k s i j : Nat} (h : i ≤ j) (hf : okB ls k s i = false) : okB ls k s j = false := by
  induction j with
  | zero => rw [Nat.le_zero.1 h] at hf; exact hf
  | succ j ih =>
    rcases Nat.lt_or_ge i (j + 1) with h1 | h1
    · rw [okB, ih (by omega)]; rfl
    · rw [show j + 1 = i by omega]; exact hf
theorem ok_same {ls : List Ln} {k s t : Nat} (i : Nat) (h : ∀ j, j < i → s.testBit j = t.testBit j) : okB ls k s i = okB ls k t i := by
  induction i with
  | zero => rfl
  | succ i ih => rw [okB, okB, ih (fun j hj => h j (by omega)), h i (by omega)]

def sumTo (f : Nat → Int) : Nat → Int
  | 0 => 0
  | n + 1 => sumTo f n + f n
theorem sum_same {f g : Nat → Int} {n : Nat} (h : ∀ k, k < n → f k = g k) : sumTo f n = sumTo g n := by
  induction n with
  | zero => rfl
  | succ n ih => rw [sumTo, sumTo, ih (fun k hk => h k (by omega)), h n (by omega)]
theorem sum_upd {f g : Nat → Int} {n j : Nat} (hj : j < n) (h : ∀ k, k < n → k ≠ j → f k = g k) : sumTo g n = sumTo f n + (g j - f j) := by
  induction n with
  | zero => omega
  | succ n ih =>
    rw [sumTo, sumTo]
    by_cases e : j = n
    · subst e
      rw [sum_same (f := g) (g := f) (fun k hk => (h k (by omega) (by omega)).symm)]
      omega
    · rw [ih (by omega) (fun k hk hne => h k (by omega) hne), h n (by omega) (by omega)]
      omega

/-- The table: entry s is the number of orders of the set s. -/
def condB (ls : List Ln) (s k : Nat) : Bool := s.testBit k && okB ls k s k
def accW (L : List Int) (ls : List Ln) (s : Nat) : Nat → Int
  | 0 => 0
  | k + 1 => if condB ls s k then wr (accW L ls s k + L.getD (s - 2 ^ k) 0) else accW L ls s k
def wl (ls : List Ln) : Nat → List Int
  | 0 => []
  | s + 1 => wl ls s ++ [if s = 0 then 1 else accW (wl ls s) ls s ls.length]
theorem wl_length (ls : List Ln) (s : Nat) : (wl ls s).length = s := by
  induction s with
  | zero => rfl
  | succ s ih => simp [wl, ih]
def val (ls : List Ln) (s : Nat) : Int := (wl ls (s + 1)).getD s 0
theorem wl_get {ls : List Ln} {s m : Nat} (h : s < m) : (wl ls m)[s]? = some (val ls s) := by
  have key : ∀ d, (wl ls (s + 1 + d))[s]? = some (val ls s) := by
    intro d
    induction d with
    | zero =>
      have hlt : s < (wl ls (s + 1)).length := by rw [wl_length]; omega
      rw [Nat.add_zero, val, List.getD_eq_getElem?_getD, List.getElem?_eq_getElem hlt]
      rfl
    | succ d ih =>
      rw [show s + 1 + (d + 1) = (s + 1 + d) + 1 from rfl, wl, List.getElem?_append_left (by rw [wl_length]; omega)]
      exact ih
  have := key (m - (s + 1))
  rwa [show s + 1 + (m - (s + 1)) = m by omega] at this
theorem wl_getD {ls : List Ln} {s m : Nat} (h : s < m) : (wl ls m).getD s 0 = val ls s := by
  rw [List.getD_eq_getElem?_getD, wl_get h]; rfl
theorem val_zero (ls : List Ln) : val ls 0 = 1 := by simp [val, wl]
theorem val_pos {ls : List Ln} {s : Nat} (h : 0 < s) : val ls s = accW (wl ls s) ls s ls.length := by
  rw [val, wl, List.getD_eq_getElem?_getD, List.getElem?_append_right (by rw [wl_length]; exact Nat.le_refl _), wl_length, Nat.sub_self, if_neg (by omega)]
  rfl
theorem bit_le {s k : Nat} (h : s.testBit k = true) : 2 ^ k ≤ s := by
  rcases Nat.lt_or_ge s (2 ^ k) with h1 | h1
  · rw [Nat.testBit_lt_two_pow h1] at h; cases h
  · exact h1
theorem bit_sub {s k : Nat} (h : s.testBit k = true) : s - 2 ^ k < s := by
  have h1 := bit_le h
  have h2 : 0 < 2 ^ k := Nat.two_pow_pos k
  omega
/-- What the last jump k adds to set s. -/
def addW (ls : List Ln) (s k : Nat) : Int := if condB ls s k then val ls (s - 2 ^ k) else 0
theorem acc_sum (ls : List Ln) (s k : Nat) : wr (accW (wl ls s) ls s k) = wr (sumTo (addW ls s) k) := by
  induction k with
  | zero => rfl
  | succ k ih =>
    rw [accW, sumTo, addW]
    by_cases h : condB ls s k = true
    · have hb : s.testBit k = true := by simp only [condB, Bool.and_eq_true] at h; exact h.1
      rw [if_pos h, if_pos h, wl_getD (bit_sub hb), wr_wr, ← wr_add, ih, wr_add]
    · rw [if_neg h, if_neg h, Int.add_zero, ih]
theorem acc_wr (L : List Int) (ls : List Ln) (s k : Nat) : wr (accW L ls s k) = accW L ls s k := by
  induction k with
  | zero => rfl
  | succ k ih =>
    rw [accW]
    split
    · exact wr_wr _
    · exact ih
theorem val_sum {ls : List Ln} {s : Nat} (h : 0 < s) : val ls s = wr (sumTo (addW ls s) ls.length) := by
  rw [val_pos h, ← acc_wr, acc_sum]
def oneAt (s : Nat) : Int := if s = 0 then 1 else 0
theorem val_all (ls : List Ln) (s : Nat) : val ls s = wr (oneAt s + sumTo (addW ls s) ls.length) := by
  rcases Nat.eq_zero_or_pos s with rfl | h
  · have : sumTo (addW ls 0) ls.length = 0 := by
      rw [sum_same (g := fun _ => 0) (fun k _ => by simp [addW, condB])]
      generalize ls.length = n
      induction n with
      | zero => rfl
      | succ n ih => rw [sumTo, ih]; rfl
    rw [this, val_zero]
    rfl
  · rw [val_sum h, oneAt, if_neg (by omega), Int.zero_add]

/-- What has been added to set s when the sets below d have been passed on, and of d the jumps below j. -/
def partW (ls : List Ln) (d j s k : Nat) : Int := if s - 2 ^ k < d ∨ s - 2 ^ k = d ∧ k < j then addW ls s k else 0
def pushW (ls : List Ln) (d j s : Nat) : Int := wr (oneAt s + sumTo (partW ls d j s) ls.length)
theorem add_none {ls : List Ln} {s k : Nat} (h : s.testBit k = false) : addW ls s k = 0 := by simp [addW, condB, h]
theorem push_start (ls : List Ln) (s : Nat) : pushW ls 0 0 s = oneAt s := by
  rw [pushW, sum_same (g := fun _ => 0) (fun k _ => by simp [partW])]
  have : sumTo (fun _ => 0) ls.length = 0 := by
    generalize ls.length = n
    induction n with
    | zero => rfl
    | succ n ih => rw [sumTo, ih]; rfl
  rw [this, Int.add_zero]
  unfold oneAt
  split <;> rfl
theorem push_row (ls : List Ln) (d s : Nat) : pushW ls d ls.length s = pushW ls (d + 1) 0 s := by
  rw [pushW, pushW]
  congr 2
  refine sum_same fun k hk => ?_
  unfold partW
  by_cases h : s - 2 ^ k < d ∨ s - 2 ^ k = d ∧ k < ls.length
  · rw [if_pos h, if_pos (by omega)]
  · rw [if_neg h, if_neg (by omega)]
theorem push_at (ls : List Ln) (d j : Nat) : pushW ls d j d = val ls d := by
  rw [pushW, val_all]
  congr 2
  refine sum_same fun k hk => ?_
  unfold partW
  cases h : d.testBit k with
  | true => rw [if_pos (.inl (bit_sub h))]
  | false => rw [add_none h]; split <;> rfl
theorem push_end (ls : List Ln) (s N : Nat) (h : s < N) : pushW ls N 0 s = val ls s := by
  rw [pushW, val_all]
  congr 2
  refine sum_same fun k hk => ?_
  unfold partW
  rw [if_pos (.inl (Nat.lt_of_le_of_lt (Nat.sub_le _ _) h))]
theorem down_bit {s j : Nat} (h : s.testBit j = true) : (s - 2 ^ j).testBit j = false ∧ ∀ i, i < j → (s - 2 ^ j).testBit i = s.testBit i := by
  have e : s = 2 ^ j + (s - 2 ^ j) := by have := bit_le h; omega
  constructor
  · rw [e, Nat.testBit_two_pow_add_eq] at h
    simpa using h
  · intro i hi
    conv => rhs; rw [e, Nat.testBit_two_pow_add_gt hi]
theorem up_bit {d j : Nat} (h : d.testBit j = false) : (2 ^ j + d).testBit j = true := by rw [Nat.testBit_two_pow_add_eq, h]; rfl
theorem push_move {ls : List Ln} {d j s : Nat} (hj : j < ls.length) : pushW ls d (j + 1) s = wr (pushW ls d j s + (if s - 2 ^ j = d then addW ls s j else 0)) := by
  rw [pushW, pushW, wr_add, sum_upd (f := partW ls d j s) hj (fun k hk hne => by
    unfold partW
    by_cases h : s - 2 ^ k < d ∨ s - 2 ^ k = d ∧ k < j
    · rw [if_pos h, if_pos (by omega)]
    · rw [if_neg h, if_neg (by omega)])]
  congr 1
  have : partW ls d (j + 1) s j - partW ls d j s j = if s - 2 ^ j = d then addW ls s j else 0 := by
    unfold partW
    by_cases h1 : s - 2 ^ j = d
    · rw [if_pos (.inr ⟨h1, by omega⟩), if_neg (by omega), if_pos h1]; omega
    · rw [if_neg h1]
      by_cases h2 : s - 2 ^ j < d
      · rw [if_pos (.inl h2), if_pos (.inl h2)]; omega
      · rw [if_neg (by omega), if_neg (by omega)]; rfl
  rw [this]
  omega
theorem push_wr (ls : List Ln) (d j s : Nat) : wr (pushW ls d j s) = pushW ls d j s := wr_wr _
theorem push_no {ls : List Ln} {d j : Nat} (hj : j < ls.length) (h : d.testBit j = true ∨ okB ls j d j = false) (s : Nat) : pushW ls d (j + 1) s = pushW ls d j s := by
  rw [push_move hj]
  have : (if s - 2 ^ j = d then addW ls s j else 0) = 0 := by
    split
    · rename_i e
      cases hb : s.testBit j with
      | false => exact add_none hb
      | true =>
        obtain ⟨h1, h2⟩ := down_bit hb
        rw [e] at h1 h2
        rcases h with h | h
        · rw [h1] at h; cases h
        · rw [addW, condB, ok_same j (fun i hi => (h2 i hi).symm), h]; simp
    · rfl
  rw [this, Int.add_zero, push_wr]
theorem push_else {ls : List Ln} {d j s : Nat} (hj : j < ls.length) (h : s ≠ 2 ^ j + d) : pushW ls d (j + 1) s = pushW ls d j s := by
  rw [push_move hj]
  have : (if s - 2 ^ j = d then addW ls s j else 0) = 0 := by
    split
    · rename_i e
      cases hb : s.testBit j with
      | false => exact add_none hb
      | true => have := bit_le hb; omega
    · rfl
  rw [this, Int.add_zero, push_wr]
theorem push_yes {ls : List Ln} {d j : Nat} (hj : j < ls.length) (hb : d.testBit j = false) (ho : okB ls j d j = true) : pushW ls d (j + 1) (2 ^ j + d) = wr (pushW ls d j (2 ^ j + d) + val ls d) := by
  rw [push_move hj, if_pos (by omega), addW, condB, up_bit hb, ok_same (t := d) j (fun i hi => Nat.testBit_two_pow_add_gt hi d), ho, if_pos (by rfl), show 2 ^ j + d - 2 ^ j = d by omega]

/-- The table as the program has it. -/
def pl (ls : List Ln) (N d j : Nat) : List Int := (List.range N).map (pushW ls d j)
theorem pl_length (ls : List Ln) (N d j : Nat) : (pl ls N d j).length = N := by simp [pl]
theorem pl_get {ls : List Ln} {N d j s : Nat} (h : s < N) : (pl ls N d j)[s]? = some (pushW ls d j s) := by simp [pl, h]
theorem pl_row (ls : List Ln) (N d : Nat) : pl ls N d ls.length = pl ls N (d + 1) 0 := by
  unfold pl
  exact List.map_congr_left fun s _ => push_row ls d s
theorem pl_no {ls : List Ln} {N d j : Nat} (hj : j < ls.length) (h : d.testBit j = true ∨ okB ls j d j = false) : pl ls N d (j + 1) = pl ls N d j := by
  unfold pl
  exact List.map_congr_left fun s _ => push_no hj h s
theorem pl_yes {ls : List Ln} {N d j : Nat} (hj : j < ls.length) (hb : d.testBit j = false) (ho : okB ls j d j = true) :
    pl ls N d (j + 1) = (pl ls N d j).set (2 ^ j + d) (wr (pushW ls d j (2 ^ j + d) + val ls d)) := by
  apply List.ext_getElem?
  intro s
  by_cases hs : s < N
  · rw [pl_get hs, List.getElem?_set]
    by_cases e : 2 ^ j + d = s
    · subst e
      rw [if_pos rfl, pl_length, if_pos hs, push_yes hj hb ho]
    · rw [if_neg e, pl_get hs, push_else hj (fun h => e h.symm)]
  · rw [List.getElem?_eq_none (by rw [pl_length]; omega), List.getElem?_eq_none (by rw [List.length_set, pl_length]; omega)]
theorem pl_start (ls : List Ln) (N : Nat) (h : 0 < N) : (List.replicate N (0 : Int)).set 0 1 = pl ls N 0 0 := by
  apply List.ext_getElem?
  intro s
  by_cases hs : s < N
  · rw [pl_get hs, push_start, List.getElem?_set]
    by_cases e : 0 = s
    · subst e; simp [oneAt, h]
    · have e' : s ≠ 0 := fun h => e h.symm
      rw [if_neg e, List.getElem?_replicate, if_pos hs, oneAt, if_neg e']
  · rw [List.getElem?_eq_none (by simp; omega), List.getElem?_eq_none (by rw [pl_length]; omega)]
theorem or_add {d j : Nat} (h : d.testBit j = false) : d ||| 2 ^ j = 2 ^ j + d := by
  rw [Nat.testBit_eq_decide_div_mod_eq] at h
  have h1 : ¬ d / 2 ^ j % 2 = 1 := of_decide_eq_false h
  obtain ⟨q, hq⟩ : ∃ q, d / 2 ^ j = 2 * q := ⟨d / 2 ^ j / 2, by omega⟩
  have h2 := Nat.div_add_mod d (2 ^ j)
  have h3 : d % 2 ^ j < 2 ^ j := Nat.mod_lt _ (Nat.two_pow_pos j)
  generalize d % 2 ^ j = r at h2 h3
  rw [hq, ← Nat.mul_assoc, ← Nat.pow_succ] at h2
  have h4 : 2 ^ j + r < 2 ^ (j + 1) := by rw [Nat.pow_succ]; omega
  have e1 := Nat.two_pow_add_eq_or_of_lt (show r < 2 ^ (j + 1) by rw [Nat.pow_succ]; omega) q
  have e2 := Nat.two_pow_add_eq_or_of_lt h4 q
  have e3 := Nat.two_pow_add_eq_or_of_lt h3 1
  rw [Nat.mul_one] at e3
  rw [← h2, show 2 ^ j + (2 ^ (j + 1) * q + r) = 2 ^ (j + 1) * q + (2 ^ j + r) by omega, e2, e3, e1, Nat.or_assoc, Nat.or_comm r]
/-- The set of the earlier jumps that disturb jump k. -/
def needN (ls : List Ln) (k : Nat) : Nat → Nat
  | 0 => 0
  | i + 1 => if disturbB (ls.getD i default) (ls.getD k default) then needN ls k i ||| 2 ^ i else needN ls k i
theorem need_bit (ls : List Ln) (k m i : Nat) : (needN ls k m).testBit i = (decide (i < m) && disturbB (ls.getD i default) (ls.getD k default)) := by
  induction m with
  | zero => simp [needN]
  | succ m ih =>
    rw [needN]
    by_cases h : disturbB (ls.getD m default) (ls.getD k default) = true
    · rw [if_pos h, Nat.testBit_or, ih, Nat.testBit_two_pow]
      by_cases e : m = i
      · subst e; rw [h]; simp
      · have e2 : decide (i < m + 1) = decide (i < m) := decide_eq_decide.2 (by omega)
        rw [e2]; simp [e]
    · rw [if_neg h, ih]
      by_cases e : i = m
      · subst e; rw [Bool.not_eq_true] at h; rw [h]; simp
      · have e2 : decide (i < m + 1) = decide (i < m) := decide_eq_decide.2 (by omega)
        rw [e2]
theorem need_lt (ls : List Ln) (k m : Nat) : needN ls k m < 2 ^ m := by
  induction m with
  | zero => simp [needN]
  | succ m ih =>
    rw [needN]
    have h1 : 2 ^ m < 2 ^ (m + 1) := Nat.pow_lt_pow_right (by omega) (by omega)
    split
    · exact Nat.or_lt_two_pow (by omega) h1
    · omega
theorem ok_all (ls : List Ln) (k s m : Nat) : okB ls k s m = true ↔ ∀ i, i < m → s.testBit i = true ∨ disturbB (ls.getD i default) (ls.getD k default) = false := by
  induction m with
  | zero => simp [okB]
  | succ m ih =>
    rw [okB, Bool.and_eq_true, ih]
    constructor
    · rintro ⟨h1, h2⟩ i hi
      by_cases e : i = m
      · subst e; simpa using h2
      · exact h1 i (by omega)
    · intro h
      exact ⟨fun i hi => h i (by omega), by simpa using h m (by omega)⟩
theorem need_ok (ls : List Ln) (k s : Nat) : (needN ls k k &&& s = needN ls k k) ↔ okB ls k s k = true := by
  rw [ok_all]
  constructor
  · intro h i hi
    cases hd : disturbB (ls.getD i default) (ls.getD k default) with
    | false => exact .inr rfl
    | true =>
      left
      have hb : (needN ls k k).testBit i = true := by rw [need_bit, hd]; simp [hi]
      rw [← h, Nat.testBit_and, Bool.and_eq_true] at hb
      exact hb.2
  · intro h
    apply Nat.eq_of_testBit_eq
    intro i
    rw [Nat.testBit_and, need_bit]
    by_cases hi : i < k
    · rcases h i hi with h1 | h1
      · rw [h1]; simp
      · rw [h1]; simp
    · simp [hi]
def needL (ls : List Ln) (n : Nat) : List Int := (List.range n).map fun k => ((needN ls k k : Nat) : Int)
theorem needL_length (ls : List Ln) (n : Nat) : (needL ls n).length = n := by simp [needL]
theorem needL_next (ls : List Ln) (n : Nat) : needL ls (n + 1) = needL ls n ++ [((needN ls n n : Nat) : Int)] := by simp [needL, List.range_succ]
theorem needL_get {ls : List Ln} {n k : Nat} (h : k < n) : (needL ls n)[k]? = some ((needN ls k k : Nat) : Int) := by simp [needL, h]
theorem need_yes {ls : List Ln} {k i : Nat} {x y : Ln} (hx : ls[i]? = some x) (hy : ls[k]? = some y) (h : disturbB x y = true) : needN ls k (i + 1) = needN ls k i ||| 2 ^ i := by
  simp [needN, List.getD_eq_getElem?_getD, hx, hy, h]
theorem need_no {ls : List Ln} {k i : Nat} {x y : Ln} (hx : ls[i]? = some x) (hy : ls[k]? = some y) (h : disturbB x y = false) : needN ls k (i + 1) = needN ls k i := by
  simp [needN, List.getD_eq_getElem?_getD, hx, hy, h]
theorem wl_start (ls : List Ln) {N : Nat} (h : 0 < N) : (List.replicate N (0 : Int)).set 0 1 = wl ls 1 ++ List.replicate (N - 1) 0 := by
  obtain ⟨M, rfl⟩ : ∃ M, N = M + 1 := ⟨N - 1, by omega⟩
  simp [wl, List.replicate_succ]
theorem wl_mid (ls : List Ln) {s N : Nat} (h : s < N) : wl ls s ++ List.replicate (N - s) (0 : Int) = wl ls s ++ [accW (wl ls s) ls s 0] ++ List.replicate (N - (s + 1)) 0 := by
  rw [show N - s = (N - (s + 1)) + 1 by omega, List.replicate_succ, accW]
  simp
theorem wl_end (ls : List Ln) {s : Nat} (h : 0 < s) (R : List Int) : wl ls s ++ [accW (wl ls s) ls s ls.length] ++ R = wl ls (s + 1) ++ R := by
  rw [wl, if_neg (by omega)]
theorem acc_yes {L : List Int} {ls : List Ln} {s k : Nat} {x : Int} (h : condB ls s k = true) (hx : L[s - 2 ^ k]? = some x) : accW L ls s (k + 1) = wr (accW L ls s k + x) := by
  rw [accW, if_pos h, List.getD_eq_getElem?_getD, hx]; rfl
theorem acc_no {L : List Int} {ls : List Ln} {s k : Nat} (h : condB ls s k = false) : accW L ls s (k + 1) = accW L ls s k := by
  rw [accW, if_neg (by rw [h]; simp)]
end Go.Proofs.Ytbcgokpamhgabaa

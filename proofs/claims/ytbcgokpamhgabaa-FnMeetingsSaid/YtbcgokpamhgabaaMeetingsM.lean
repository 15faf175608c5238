/- Layers and meetings: the plain law of FnMeetings. No program in sight. What MeetingOf's rows hold: the plain facts for the walk of FnMeetings. The plain law of FnMeetings: what meetings, layers and the widest layer say of each other. -/
import Derived.Test.YtbcgokpamhgabaaLeadP
import Derived.Test.YtbcgokpamhgabaaComP
import Derived.Test.YtbcgokpamhgabaaChecked
import Derived.Test.YtbcgokpamhgabaaMem
import Derived.Tactics
import Derived.Tactics2
import Derived.WalkKit
import Derived.WalkSpells
import Derived.WalkLawsBesides
import Derived.Deep.QuietTactic
import Derived.BigQuiet
import Derived.BigGuardPart
import Derived.Lib.QuietBelow
import Derived.OwnWalk
import Derived.KernelRfl
import Derived.Test.YtbcgokpamhgabaaMeetM
import Derived.Test.YtbcgokpamhgabaaCanR
import Derived.Test.YtbcgokpamhgabaaStartP
set_option linter.unusedVariables false
set_option maxRecDepth 20000
namespace Go.Proofs.Ytbcgokpamhgabaa
open Go.RowKit Go.Sort

theorem Leads.last {ls : List Ln} {p q : Nat} (h : Leads ls p q) : p = q ∨ ∃ r, ∃ l ∈ ls, Leads ls p r ∧ canJ r l = true ∧ q = flip r l := by
  induction h with
  | refl => exact .inl rfl
  | head l hl hc h ih =>
    rename_i a b
    rcases ih with rfl | ⟨r, l', hl', h1, h2, h3⟩
    · exact .inr ⟨a, l, hl, .refl a, hc, rfl⟩
    · exact .inr ⟨r, l', hl', .head l hl hc h1, h2, h3⟩
theorem lay_fwd {ls : List Ln} {n p : Nat} (h49 : ∀ l ∈ ls, Ln49 l) (hp : p < n) (hs : Stays n ls) (k : Nat) : ∀ q, q ∈ layL false ls n p k ↔ Leads ls p q ∧ popc q + k = popc p := by
  induction k with
  | zero =>
    intro q
    rw [layL, List.mem_singleton]
    constructor
    · rintro rfl; exact ⟨.refl _, rfl⟩
    · rintro ⟨h, e⟩
      rcases h.last with h | ⟨r, l, hl, h1, h2, h3⟩
      · exact h.symm
      · have := popc_jump (h49 l hl) h2
        have := Leads.pop h49 h1
        rw [← h3] at *
        omega
  | succ k ih =>
    intro q
    rw [layL, nextL_mem hs (layL_lt hp k)]
    constructor
    · rintro ⟨r, hr, l, hl, hc, rfl⟩
      obtain ⟨h1, h2⟩ := (ih r).1 hr
      have hc' : canJ r l = true := by simpa [canD] using hc
      have := popc_jump (h49 l hl) hc'
      exact ⟨h1.tail hl hc', by omega⟩
    · rintro ⟨h, e⟩
      rcases h.last with h | ⟨r, l, hl, h1, h2, h3⟩
      · subst h; omega
      · have := popc_jump (h49 l hl) h2
        rw [← h3] at this
        exact ⟨r, (ih r).2 ⟨h1, by omega⟩, l, hl, by simpa [canD] using h2, h3.symm⟩
theorem lay_bwd {ls : List Ln} {n g : Nat} (h49 : ∀ l ∈ ls, Ln49 l) (hg : g < n) (hs : Stays n ls) (k : Nat) : ∀ q, q ∈ layL true ls n g k ↔ Leads ls q g ∧ popc q = popc g + k := by
  induction k with
  | zero =>
    intro q
    rw [layL, List.mem_singleton]
    constructor
    · rintro rfl; exact ⟨.refl _, rfl⟩
    · rintro ⟨h, e⟩
      cases h with
      | refl => rfl
      | head l hl hc h =>
        have := popc_jump (h49 l hl) hc
        have := Leads.pop h49 h
        omega
  | succ k ih =>
    intro q
    rw [layL, nextL_mem hs (layL_lt hg k)]
    constructor
    · rintro ⟨r, hr, l, hl, hc, rfl⟩
      obtain ⟨h1, h2⟩ := (ih r).1 hr
      have hc' : canU r l = true := by simpa [canD] using hc
      have hj := canJ_flip (h49 l hl) hc'
      have := popc_undo (h49 l hl) hc'
      refine ⟨.head l hl hj ?_, by omega⟩
      rw [flip_flip]; exact h1
    · rintro ⟨h, e⟩
      cases h with
      | refl => omega
      | head l hl hc h =>
        have := popc_jump (h49 l hl) hc
        exact ⟨flip q l, (ih _).2 ⟨h, by omega⟩, l, hl, by simpa [canD] using canU_flip (h49 l hl) hc, flip_flip _ _⟩
theorem addNew_mem (acc : List Int) (y x : Int) : x ∈ addNew acc y ↔ x ∈ acc ∨ x = y := by
  unfold addNew
  split
  · rename_i h
    have := List.mem_of_getLast? h
    constructor
    · exact .inl
    · rintro (h | rfl)
      · exact h
      · exact this
  · simp
theorem asc_drop {a : List Int} (ha : a.Pairwise (· < ·)) {i : Nat} {x : Int} (hx : a[i]? = some x) : a.drop i = x :: a.drop (i + 1) ∧ ∀ z ∈ a.drop (i + 1), x < z := by
  obtain ⟨hi, e⟩ := List.getElem?_eq_some_iff.1 hx
  have h1 : a.drop i = x :: a.drop (i + 1) := by rw [List.drop_eq_getElem_cons hi, e]
  refine ⟨h1, ?_⟩
  have h2 := ha.sublist (List.drop_sublist i a)
  rw [h1, List.pairwise_cons] at h2
  exact h2.1
theorem comF_mem {a c : List Int} (ha : a.Pairwise (· < ·)) (hc : c.Pairwise (· < ·)) (x : Int) : ∀ (n i k : Nat) (acc : List Int), (a.length - i) + (c.length - k) ≤ n → (x ∈ comF a c n i k acc ↔ x ∈ acc ∨ x ∈ a.drop i ∧ x ∈ c.drop k) := by
  intro n
  induction n with
  | zero =>
    intro i k acc h
    rw [comF_end (by omega), List.drop_eq_nil_of_le (by omega)]
    simp
  | succ n ih =>
    intro i k acc h
    by_cases hh : i < a.length ∧ k < c.length
    · have hx : a[i]? = some a[i] := List.getElem?_eq_getElem hh.1
      have hy : c[k]? = some c[k] := List.getElem?_eq_getElem hh.2
      generalize a[i] = u at hx
      generalize c[k] = v at hy
      obtain ⟨d1, e1⟩ := asc_drop ha hx
      obtain ⟨d2, e2⟩ := asc_drop hc hy
      rcases Int.lt_trichotomy u v with hl | hl | hl
      · rw [comF_lt hx hy hl, ih _ _ _ (by omega), d1, d2]
        simp only [List.mem_cons]
        constructor
        · rintro (h | ⟨h1, h2⟩)
          · exact .inl h
          · exact .inr ⟨.inr h1, h2⟩
        · rintro (h | ⟨h1 | h1, h2⟩)
          · exact .inl h
          · subst h1
            rcases h2 with h2 | h2
            · omega
            · have := e2 _ h2; omega
          · exact .inr ⟨h1, h2⟩
      · subst hl
        rw [comF_eq hx hy, ih _ _ _ (by omega), d1, d2, addNew_mem]
        simp only [List.mem_cons]
        constructor
        · rintro ((h | h) | ⟨h1, h2⟩)
          · exact .inl h
          · exact .inr ⟨.inl h, .inl h⟩
          · exact .inr ⟨.inr h1, .inr h2⟩
        · rintro (h | ⟨h1 | h1, h2 | h2⟩)
          · exact .inl (.inl h)
          · exact .inl (.inr h1)
          · exact .inl (.inr h1)
          · exact .inl (.inr h2)
          · exact .inr ⟨h1, h2⟩
      · rw [comF_gt hx hy hl, ih _ _ _ (by omega), d1, d2]
        simp only [List.mem_cons]
        constructor
        · rintro (h | ⟨h1, h2⟩)
          · exact .inl h
          · exact .inr ⟨h1, .inr h2⟩
        · rintro (h | ⟨h1, h2 | h2⟩)
          · exact .inl h
          · subst h2
            rcases h1 with h1 | h1
            · omega
            · have := e1 _ h1; omega
          · exact .inr ⟨h1, h2⟩
    · rw [comF_end hh]
      by_cases hi : i < a.length
      · rw [show c.drop k = [] from List.drop_eq_nil_of_le (by omega)]; simp
      · rw [show a.drop i = [] from List.drop_eq_nil_of_le (by omega)]; simp
theorem common_mem {a c : List Int} (ha : a.Pairwise (· < ·)) (hc : c.Pairwise (· < ·)) (x : Int) : x ∈ common a c ↔ x ∈ a ∧ x ∈ c := by
  rw [common, comF_mem ha hc x _ 0 0 [] (by omega)]
  simp
/-- The layers, added up: the total and the most. -/
def totL (ln : Nat → Nat) : Nat → Nat
  | 0 => 0
  | k + 1 => totL ln k + ln k
def mxL (ln : Nat → Nat) : Nat → Nat
  | 0 => 0
  | k + 1 => max (mxL ln k) (ln k)
theorem tot_split (xs : List Nat) (f : Nat → Nat) : ∀ m, (∀ x ∈ xs, f x < m) → totL (fun k => (xs.filter fun x => f x == k).length) m = xs.length := by
  have gen : ∀ (xs : List Nat) (m : Nat), totL (fun k => (xs.filter fun x => f x == k).length) m = (xs.filter fun x => decide (f x < m)).length := by
    intro xs m
    induction m with
    | zero =>
      rw [totL, List.filter_eq_nil_iff.2 (by simp)]; rfl
    | succ m ih =>
      rw [totL, ih]
      clear ih
      induction xs with
      | nil => rfl
      | cons x xs ih =>
        simp only [List.filter_cons]
        by_cases h1 : f x < m
        · have h2 : ¬ f x = m := by omega
          have h3 : f x < m + 1 := by omega
          simp only [h1, h2, h3, decide_true, if_true, List.length_cons, beq_iff_eq, if_false]
          omega
        · by_cases h2 : f x = m
          · have h3 : f x < m + 1 := by omega
            simp only [h2, decide_true, if_true, List.length_cons, beq_self_eq_true, Nat.lt_irrefl, decide_false, Nat.lt_succ_self] at ih ⊢
            simp at ih ⊢
            omega
          · have h3 : ¬ f x < m + 1 := by omega
            simp only [h1, h2, h3, decide_false, beq_iff_eq, if_false]
            simpa using ih
  intro m h
  rw [gen]
  congr 1
  rw [List.filter_eq_self]
  intro x hx
  simpa using h x hx
theorem wide_max (ln : Nat → Nat) (h0 : ln 0 = 1) (k : Nat) : (wstL ln k).2 = mxL ln (k + 1) ∧ ln (wstL ln k).1 = (wstL ln k).2 := by
  induction k with
  | zero => simp [wstL, mxL, h0]
  | succ k ih =>
    rw [mxL, ← ih.1]
    by_cases h : (wstL ln k).2 < ln (k + 1)
    · rw [wstL_yes h]
      exact ⟨by show ln (k + 1) = _; omega, rfl⟩
    · rw [wstL_no h]
      exact ⟨by omega, ih.2⟩
theorem Leads.mid {ls : List Ln} {p g : Nat} (h49 : ∀ l ∈ ls, Ln49 l) (h : Leads ls p g) : ∀ n, popc g + n ≤ popc p → ∃ x, Leads ls p x ∧ Leads ls x g ∧ popc x + n = popc p := by
  induction h with
  | refl p => intro n hn; exact ⟨p, .refl p, .refl p, by omega⟩
  | head l hl hc h ih =>
    intro n hn
    rename_i a b
    have hp := popc_jump (h49 l hl) hc
    cases n with
    | zero => exact ⟨a, .refl a, .head l hl hc h, rfl⟩
    | succ n =>
      obtain ⟨x, h1, h2, h3⟩ := ih n (by omega)
      exact ⟨x, .head l hl hc h1, h2, by omega⟩
/-- A goal is reached just if the layers from both ends meet, wherever they meet. -/
theorem meet_iff {ls : List Ln} {N p g d n : Nat} (h49 : ∀ l ∈ ls, Ln49 l) (hp : p < N) (hg : g < N) (hs : Stays N ls) (hd : popc p = popc g + d) (hn : n ≤ d) :
    (∃ x, x ∈ layL false ls N p n ∧ x ∈ layL true ls N g (d - n)) ↔ Leads ls p g := by
  constructor
  · rintro ⟨x, h1, h2⟩
    exact ((lay_fwd h49 hp hs n x).1 h1).1.trans ((lay_bwd h49 hg hs (d - n) x).1 h2).1
  · intro h
    obtain ⟨x, h1, h2, h3⟩ := h.mid h49 n (by omega)
    exact ⟨x, (lay_fwd h49 hp hs n x).2 ⟨h1, h3⟩, (lay_bwd h49 hg hs (d - n) x).2 ⟨h2, by omega⟩⟩
theorem lay_nodup (back : Bool) (ls : List Ln) (n p : Nat) : ∀ k, (layL back ls n p k).Nodup
  | 0 => by simp [layL]
  | k + 1 => trues_sorted _ _
/-- A layer holds just those of the reached that have lost k pegs. -/
theorem lay_len {ls : List Ln} {N p : Nat} (h49 : ∀ l ∈ ls, Ln49 l) (hp : p < N) (hs : Stays N ls) (rs : List Nat) (hr : ∀ x, x ∈ rs ↔ Leads ls p x) (hnd : rs.Nodup) (k : Nat) :
    (layL false ls N p k).length = (rs.filter fun x => popc p - popc x == k).length := by
  refine (List.Perm.length_eq ((List.perm_ext_iff_of_nodup (lay_nodup _ _ _ _ k) (hnd.filter _)).2 fun x => ?_))
  rw [lay_fwd h49 hp hs, List.mem_filter, hr]
  constructor
  · rintro ⟨h1, h2⟩; exact ⟨h1, by simp; omega⟩
  · rintro ⟨h1, h2⟩
    have := Leads.pop h49 h1
    simp at h2
    exact ⟨h1, by omega⟩
/-- A position that is reached by a jump keeps a peg. -/
theorem lead_peg {ls : List Ln} {p q : Nat} (h49 : ∀ l ∈ ls, Ln49 l) (h : Leads ls p q) : p = q ∨ 1 ≤ popc q := by
  rcases h.last with h | ⟨r, l, hl, h1, h2, h3⟩
  · exact .inl h
  · right
    have hu := canU_flip (h49 l hl) h2
    rw [← h3] at hu
    obtain ⟨f, o, t, rfl, hf, ho, ht, hft, hot, hfo⟩ := h49 l hl
    have ht1 : q.testBit t = true := by
      simp only [canU, Int.toNat_natCast, Bool.and_eq_true, Bool.not_eq_true'] at hu
      first | exact hu.2 | exact hu.2.2 | exact hu.1.1 | exact hu.1 | exact hu.2.1
    have := popc_bit (p := q) (q := q ^^^ pow2 t) ht (fun i hi => by simp [Nat.testBit_xor, testBit_pow2, Ne.symm hi])
    rw [Nat.testBit_xor, testBit_pow2, ht1] at this
    simp at this
    omega
theorem tot_reach {ls : List Ln} {N p : Nat} (h49 : ∀ l ∈ ls, Ln49 l) (hp : p < N) (hs : Stays N ls) (rs : List Nat) (hr : ∀ x, x ∈ rs ↔ Leads ls p x) (hnd : rs.Nodup) (h16 : popc p ≤ 16) :
    totL (fun k => (layL false ls N p k).length) 16 = rs.length := by
  have e : (fun k => (layL false ls N p k).length) = fun k => (rs.filter fun x => popc p - popc x == k).length := funext fun k => lay_len h49 hp hs rs hr hnd k
  rw [e]
  refine tot_split rs (fun x => popc p - popc x) 16 fun x hx => ?_
  rcases lead_peg h49 ((hr x).1 hx) with h | h
  · subst h; omega
  · omega

theorem lay_asc (back : Bool) (ls : List Ln) (n p : Nat) : ∀ k, (natL (layL back ls n p k)).Pairwise (· < ·)
  | 0 => by simp [layL, natL]
  | k + 1 => trues_asc _ _
theorem natL_mem {xs : List Nat} {x : Int} : x ∈ natL xs ↔ ∃ y : Nat, x = y ∧ y ∈ xs := by
  rw [natL, List.mem_map]
  constructor
  · rintro ⟨y, h, rfl⟩; exact ⟨y, rfl, h⟩
  · rintro ⟨y, rfl, h⟩; exact ⟨y, h, rfl⟩
theorem meet_mem {w h s p g d n : Nat} (hb : BdOk w h s) (hS : smallB ⟨w, h, s⟩ = true) (hP : posB ⟨w, h, s⟩ p = true) (hG : posB ⟨w, h, s⟩ g = true) (hd : popc p = popc g + d) (hn : n ≤ d) (x : Int) :
    x ∈ meetL ⟨w, h, s⟩ p g n ↔ ∃ y : Nat, x = y ∧ y ∈ layL false (linesL ⟨w, h, s⟩) (2 ^ (w * h)) p n ∧ y ∈ layL true (linesL ⟨w, h, s⟩) (2 ^ (w * h)) g (d - n) := by
  have e : awayI ⟨w, h, s⟩ p g = (d : Nat) := by
    rw [awayI, pegsB_yes hP, pegsB_yes hG]; omega
  have e2 : ((d : Int) - n) = ((d - n : Nat) : Int) := by omega
  rw [meetL, e, if_pos (by simp [pairM, hS, hP, hG, inB]; omega), e2, layerL_yes hS hP, layerL_yes hS hG, common_mem (lay_asc _ _ _ _ _) (lay_asc _ _ _ _ _), natL_mem, natL_mem]
  constructor
  · rintro ⟨⟨y, rfl, h1⟩, z, h2, h3⟩
    obtain rfl : y = z := by omega
    exact ⟨y, rfl, h1, h3⟩
  · rintro ⟨y, rfl, h1, h2⟩
    exact ⟨⟨y, rfl, h1⟩, y, rfl, h2⟩
theorem meet_pos {w h s p g d n : Nat} (hb : BdOk w h s) (hS : smallB ⟨w, h, s⟩ = true) (hP : posB ⟨w, h, s⟩ p = true) (hG : posB ⟨w, h, s⟩ g = true) (h49 : ∀ l ∈ linesL ⟨w, h, s⟩, Ln49 l) (hp : p < 2 ^ (w * h)) (hg : g < 2 ^ (w * h)) (hd : popc p = popc g + d) (hn : n ≤ d) :
    decide (0 < (meetL ⟨w, h, s⟩ p g n).length) = leadsB ⟨w, h, s⟩ p g := by
  rw [Bool.eq_iff_iff, decide_eq_true_eq, leadsB_iff hb (by simp [pairB, hS, hP, hG]) hp, ← meet_iff h49 hp hg (stays_of hb) hd hn, List.length_pos_iff_exists_mem]
  constructor
  · rintro ⟨x, hx⟩
    obtain ⟨y, -, h1, h2⟩ := (meet_mem hb hS hP hG hd hn x).1 hx
    exact ⟨y, h1, h2⟩
  · rintro ⟨y, h1, h2⟩
    exact ⟨y, (meet_mem hb hS hP hG hd hn y).2 ⟨y, rfl, h1, h2⟩⟩

theorem leads_pos {w h s p q : Nat} (hb : BdOk w h s) (hl : Leads (linesL ⟨w, h, s⟩) p q) : posB ⟨w, h, s⟩ p = true → posB ⟨w, h, s⟩ q = true := by
  induction hl with
  | refl => exact id
  | head l hl hc h ih =>
    intro hP
    rename_i a b
    refine ih (jump_on hb hP ?_ (.refl a)).2.2.2
    rw [jumpsL, if_pos hP, List.mem_filter, Int.toNat_natCast]
    exact ⟨hl, hc⟩
theorem pos_lt16 {w h s p : Nat} (hb : BdOk w h s) (hP : posB ⟨w, h, s⟩ p = true) : p < 2 ^ (w * h) := by
  obtain ⟨q, hq, hs⟩ := posB_nat hP
  obtain rfl : p = q := by omega
  exact posB_lt hb hs
section
variable {w h s p g : Nat} (hb : BdOk w h s) (h16 : w * h ≤ 16) (hP : posB ⟨w, h, s⟩ p = true)
include hb h16 hP
theorem leads_b (hG : posB ⟨w, h, s⟩ g = true) : leadsB ⟨w, h, s⟩ p g = true ↔ Leads (linesL ⟨w, h, s⟩) p g :=
  leadsB_iff hb (by simp [pairB, small_of hb h16, hP, hG]) (pos_lt16 hb hP)
theorem meet_law (hG : posB ⟨w, h, s⟩ g = true) (n : Nat) (hn : (n : Int) ≤ (popc p : Nat) - (popc g : Nat)) :
    decide (0 < (meetL ⟨w, h, s⟩ p g n).length) = leadsB ⟨w, h, s⟩ p g ∧ ∀ x ∈ meetL ⟨w, h, s⟩ p g n, ∃ y : Nat, x = y ∧ posB ⟨w, h, s⟩ y = true ∧ popc y + n = popc p ∧ leadsB ⟨w, h, s⟩ p y = true ∧ leadsB ⟨w, h, s⟩ y g = true := by
  have h49 := ln49s hb
  have hS := small_of hb h16
  have hp := pos_lt16 hb hP
  have hg := pos_lt16 hb hG
  have hst := stays_of hb
  obtain ⟨d, hd⟩ : ∃ d, popc p = popc g + d := ⟨popc p - popc g, by omega⟩
  have hn' : n ≤ d := by omega
  refine ⟨meet_pos hb hS hP hG h49 hp hg hd hn', fun x hx => ?_⟩
  obtain ⟨y, rfl, h1, h2⟩ := (meet_mem hb hS hP hG hd hn' x).1 hx
  obtain ⟨l1, e1⟩ := (lay_fwd h49 hp hst n y).1 h1
  obtain ⟨l2, e2⟩ := (lay_bwd h49 hg hst (d - n) y).1 h2
  have hY := leads_pos hb l1 hP
  exact ⟨y, rfl, hY, e1, (leads_b hb h16 hP hY).2 l1, (leads_b hb h16 hY hG).2 l2⟩
theorem wide_law : ∃ v : Nat, v ≤ 16 ∧ wideI ⟨w, h, s⟩ p = v ∧ lenL ⟨w, h, s⟩ p v = mxL (lenL ⟨w, h, s⟩ p) 16 ∧ totL (lenL ⟨w, h, s⟩ p) 16 = (reachL ⟨w, h, s⟩ p false).length := by
  have h49 := ln49s hb
  have hS := small_of hb h16
  have hp := pos_lt16 hb hP
  have hst := stays_of hb
  have e : ∀ k : Nat, lenL ⟨w, h, s⟩ p k = (layL false (linesL ⟨w, h, s⟩) (2 ^ (w * h)) p k).length := fun k => by rw [lenL, layerL_yes hS hP]
  have h0 : lenL ⟨w, h, s⟩ p 0 = 1 := by rw [e, layL]; rfl
  have h16' : lenL ⟨w, h, s⟩ p 16 = 0 := by
    rw [e, List.length_eq_zero_iff, List.eq_nil_iff_forall_not_mem]
    intro x hx
    obtain ⟨l1, e1⟩ := (lay_fwd h49 hp hst 16 x).1 hx
    have := pop16 hb h16 hP
    rcases lead_peg h49 l1 with h | h
    · subst h; omega
    · omega
  obtain ⟨a1, a2⟩ := wide_max (lenL ⟨w, h, s⟩ p) h0 16
  have a3 : mxL (lenL ⟨w, h, s⟩ p) 17 = mxL (lenL ⟨w, h, s⟩ p) 16 := by
    rw [mxL, h16']; omega
  have a4 : 1 ≤ mxL (lenL ⟨w, h, s⟩ p) 16 := by
    have gen : ∀ k, 1 ≤ mxL (lenL ⟨w, h, s⟩ p) (k + 1) := by
      intro k
      induction k with
      | zero => rw [mxL, h0]; omega
      | succ k ih => rw [mxL]; omega
    exact gen 15
  refine ⟨(wstL (lenL ⟨w, h, s⟩ p) 16).1, ?_, ?_, ?_, ?_⟩
  · exact (wstL_le (lenL ⟨w, h, s⟩ p) (M := 65536) (lenL_le _ _) (by omega) 16).2
  · simp [wideI, hS, hP]
  · rw [a2, a1, a3]
  · have e' : lenL ⟨w, h, s⟩ p = fun k => (layL false (linesL ⟨w, h, s⟩) (2 ^ (w * h)) p k).length := funext e
    rw [e']
    exact tot_reach h49 hp hst _ (reach_leads hb h16 hP) (trues_sorted _ _) (pop16 hb h16 hP)
theorem back_law : (layerL ⟨w, h, s⟩ p 0 true).length = 1 := by
  have := layerL_yes (m := 0) (back := true) (small_of hb h16) hP
  rw [show ((0 : Nat) : Int) = 0 from rfl] at this
  rw [this]; rfl
end
theorem com_law : common [1, 3, 5] [3, 4, 5] = [3, 5] := by decide
end Go.Proofs.Ytbcgokpamhgabaa

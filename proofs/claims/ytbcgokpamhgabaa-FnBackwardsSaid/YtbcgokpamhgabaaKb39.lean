/- Backwards searches, holes that can be solved, pairs of holes: the plain law of FnBackwards. No program in sight. -/
import Derived.Test.YtbcgokpamhgabaaKb37
import Derived.Test.YtbcgokpamhgabaaKb38
namespace Go.Proofs.Ytbcgokpamhgabaa
set_option linter.unusedVariables false

/-- Is p marked? -/
def hasB (bs : List Bool) (p : Int) : Bool := decide (0 ≤ p) && (decide (p < bs.length) && bs.getD p.toNat false)
theorem hasB_iff {bs : List Bool} {q : Nat} : hasB bs q = true ↔ bs[q]? = some true := by
  rw [hasB, Int.toNat_natCast, Bool.and_eq_true, Bool.and_eq_true, getD_true, decide_eq_true_eq, decide_eq_true_eq]
  constructor
  · exact fun h => h.2.2
  · intro h
    have := (List.getElem?_eq_some_iff.1 h).1
    exact ⟨by omega, by omega, h⟩
/-- Those of the first k that P holds of. -/
def ftk (P : Nat → Bool) (rs : List Nat) (k : Nat) : List Nat := (rs.take k).filter P
theorem ftk_le (P : Nat → Bool) (rs : List Nat) (k : Nat) : (ftk P rs k).length ≤ rs.length :=
  Nat.le_trans (List.length_filter_le _ _) (by rw [List.length_take]; omega)
theorem ftk_yes {P : Nat → Bool} {rs : List Nat} {k q : Nat} (hq : rs[k]? = some q) (h : P q = true) : ftk P rs (k + 1) = ftk P rs k ++ [q] := by
  obtain ⟨hk, e⟩ := List.getElem?_eq_some_iff.1 hq
  rw [ftk, List.take_succ_eq_append_getElem hk, e]
  simp [ftk, h]
theorem ftk_no {P : Nat → Bool} {rs : List Nat} {k q : Nat} (hq : rs[k]? = some q) (h : P q = false) : ftk P rs (k + 1) = ftk P rs k := by
  obtain ⟨hk, e⟩ := List.getElem?_eq_some_iff.1 hq
  rw [ftk, List.take_succ_eq_append_getElem hk, e]
  simp [ftk, h]
theorem ftk_all (P : Nat → Bool) (rs : List Nat) : ftk P rs rs.length = rs.filter P := by rw [ftk, List.take_length]
/-- All pegs but one. -/
def fullB (s k : Nat) : Nat := adiff s (pow2 k)
def startF (b : Ln) (g : Int) (k : Nat) : Bool := hasB (spreadL b g true) (fullB b.t.toNat k)
def startsL (b : Ln) (g : Int) : List Nat := (holesL b).filter (startF b g)
def finalF (b : Ln) (p : Int) (m : Nat) : Bool := hasB (spreadL b p false) (pow2 m)
def finalsL (b : Ln) (p : Int) : List Nat := (holesL b).filter (finalF b p)
def finN (b : Ln) (k : Nat) : List Nat := finalsL b (fullB b.t.toNat k)
def someF (b : Ln) (k : Nat) : Bool := decide (0 < (finN b k).length)
def someL (b : Ln) : List Nat := (holesL b).filter (someF b)
/-- The pairs of the first k holes. -/
def pairsK (F : Nat → List Nat) (hs : List Nat) (k : Nat) : List (Nat × Nat) := (hs.take k).flatMap fun x => (F x).map fun y => (x, y)
theorem pairsK_next {F : Nat → List Nat} {hs : List Nat} {k x : Nat} (h : hs[k]? = some x) : pairsK F hs (k + 1) = pairsK F hs k ++ (F x).map fun y => (x, y) := by
  rw [pairsK, List.take_add_one, h, Option.toList_some, List.flatMap_append]
  simp [pairsK]
def pairsL (b : Ln) : List (Nat × Nat) := pairsK (finN b) (holesL b) (holesL b).length

section
variable {w h s : Nat} (hb : BdOk w h s)
include hb
theorem hole_bit {k : Nat} (hk : k ∈ holesL ⟨w, h, s⟩) : k < w * h ∧ s.testBit k = true := by
  rw [holesL_yes hb, bits_mem] at hk
  exact hk
omit hb in
theorem pow2_sub {k : Nat} (hk : s.testBit k = true) : pow2 k &&& s = pow2 k := by
  apply Nat.eq_of_testBit_eq
  intro i
  rw [Nat.testBit_and, testBit_pow2]
  by_cases hi : k = i
  · subst hi; simp [hk]
  · simp [hi]
theorem full_pos (k : Nat) : posB ⟨w, h, s⟩ (fullB s k) = true := posB_of hb (adiff_sub2 s _)
omit hb in
theorem full_full {k : Nat} (hk : s.testBit k = true) : adiff s (fullB s k) = pow2 k := adiff_adiff (pow2_sub hk)
/-- A game played backwards, between the complements. -/
theorem lead_oth {a c : Nat} (hl : Leads (linesL ⟨w, h, s⟩) a c) : a &&& s = a → Leads (linesL ⟨w, h, s⟩) (adiff s c) (adiff s a) := by
  induction hl with
  | refl => intro _; exact .refl _
  | @head p q l hl hc _ ih =>
    intro hp
    obtain ⟨f, o, t, k⟩ := linesL_ok hb hl
    have h1 := ih (flip_sub k hp)
    have e := k.eq
    subst e
    have h2 := canJ_oth k.fs k.os k.ts k.ft k.ot k.fo hc
    have h3 := h1.tail hl h2
    rwa [flip_oth hp k.fs k.os k.ts] at h3
variable (h16 : w * h ≤ 16)
include h16
theorem back_mem {g : Nat} (hG : posB ⟨w, h, s⟩ g = true) (x : Nat) : x ∈ reachL ⟨w, h, s⟩ g true ↔ Leads (linesL ⟨w, h, s⟩) x g := by
  obtain ⟨g', e, hg⟩ := posB_nat hG
  obtain rfl : g = g' := by omega
  rw [reachL_mem (small_of hb h16) hG]
  exact bfs_bwd (ln49s hb) (posB_lt hb hg) (stays_of hb) x
theorem has_mem {g : Nat} (hG : posB ⟨w, h, s⟩ g = true) (x : Nat) : hasB (spreadL ⟨w, h, s⟩ g true) x = true ↔ Leads (linesL ⟨w, h, s⟩) x g := by
  obtain ⟨g', e, hg⟩ := posB_nat hG
  obtain rfl : g = g' := by omega
  rw [hasB_iff, spreadL_yes (small_of hb h16) hG]
  exact bfs_bwd (ln49s hb) (posB_lt hb hg) (stays_of hb) x
theorem fin_mem {g : Nat} (hG : posB ⟨w, h, s⟩ g = true) (x : Nat) : hasB (spreadL ⟨w, h, s⟩ g false) x = true ↔ Leads (linesL ⟨w, h, s⟩) g x := by
  obtain ⟨g', e, hg⟩ := posB_nat hG
  obtain rfl : g = g' := by omega
  rw [hasB_iff, spreadL_yes (small_of hb h16) hG]
  exact bfs_fwd (posB_lt hb hg) (stays_of hb) x
/-- What leads to a goal. -/
theorem back_facts {p g : Nat} (hP : posB ⟨w, h, s⟩ p = true) (hG : posB ⟨w, h, s⟩ g = true) :
    decide (g ∈ reachL ⟨w, h, s⟩ g true) = true ∧ decide (p ∈ reachL ⟨w, h, s⟩ g true) = leadsB ⟨w, h, s⟩ p g ∧
      ∀ k ∈ holesL ⟨w, h, s⟩, decide (k ∈ startsL ⟨w, h, s⟩ g) = decide (fullB s k ∈ reachL ⟨w, h, s⟩ g true) := by
  have hS := small_of hb h16
  obtain ⟨p', e, hp⟩ := posB_nat hP
  obtain rfl : p = p' := by omega
  refine ⟨decide_eq_true ((back_mem hb h16 hG g).2 (.refl g)), ?_, fun k hk => ?_⟩
  · rw [Bool.eq_iff_iff, decide_eq_true_eq, back_mem hb h16 hG, leadsB_iff hb (by simp [pairB, hS, hP, hG]) (posB_lt hb hp)]
  · rw [Bool.eq_iff_iff, decide_eq_true_eq, decide_eq_true_eq, back_mem hb h16 hG, startsL, List.mem_filter, startF]
    simp only [Int.toNat_natCast]
    rw [has_mem hb h16 hG]
    exact ⟨fun k => k.2, fun j => ⟨hk, j⟩⟩
theorem pairs_mem (x : Nat × Nat) : x ∈ pairsL ⟨w, h, s⟩ ↔ x.1 ∈ holesL ⟨w, h, s⟩ ∧ x.2 ∈ holesL ⟨w, h, s⟩ ∧ Leads (linesL ⟨w, h, s⟩) (fullB s x.1) (pow2 x.2) := by
  obtain ⟨k, m⟩ := x
  rw [pairsL, pairsK, List.take_length, List.mem_flatMap]
  have key : ∀ k, m ∈ finN ⟨w, h, s⟩ k ↔ m ∈ holesL ⟨w, h, s⟩ ∧ Leads (linesL ⟨w, h, s⟩) (fullB s k) (pow2 m) := fun k => by
    rw [finN, finalsL, List.mem_filter, finalF]
    simp only [Int.toNat_natCast]
    rw [fin_mem hb h16 (full_pos hb k)]
  constructor
  · rintro ⟨a, ha, hm⟩
    obtain ⟨y, hy, e⟩ := List.mem_map.1 hm
    injection e with e1 e2
    subst e1 e2
    exact ⟨ha, (key a).1 hy⟩
  · rintro ⟨h1, h2⟩
    exact ⟨k, h1, List.mem_map.2 ⟨m, (key k).2 h2, rfl⟩⟩
theorem some_mem (k : Nat) : k ∈ someL ⟨w, h, s⟩ ↔ ∃ m, (k, m) ∈ pairsL ⟨w, h, s⟩ := by
  rw [someL, List.mem_filter, someF, decide_eq_true_eq]
  have key : ∀ k m, m ∈ finN ⟨w, h, s⟩ k ↔ m ∈ holesL ⟨w, h, s⟩ ∧ Leads (linesL ⟨w, h, s⟩) (fullB s k) (pow2 m) := fun k m => by
    rw [finN, finalsL, List.mem_filter, finalF]
    simp only [Int.toNat_natCast]
    rw [fin_mem hb h16 (full_pos hb k)]
  constructor
  · rintro ⟨h1, h2⟩
    obtain ⟨m, hm⟩ : ∃ m, m ∈ finN ⟨w, h, s⟩ k := ⟨_, List.getElem_mem h2⟩
    exact ⟨m, (pairs_mem hb h16 (k, m)).2 ⟨h1, (key k m).1 hm⟩⟩
  · rintro ⟨m, hm⟩
    obtain ⟨h1, h2⟩ := (pairs_mem hb h16 (k, m)).1 hm
    exact ⟨h1, List.length_pos_of_mem ((key k m).2 h2)⟩
/-- Pairs can be exchanged. -/
theorem pairs_facts : (∀ x ∈ pairsL ⟨w, h, s⟩, x.1 ∈ someL ⟨w, h, s⟩ ∧ (x.2, x.1) ∈ pairsL ⟨w, h, s⟩) ∧
    (decide (0 < (someL ⟨w, h, s⟩).length) = decide (0 < (pairsL ⟨w, h, s⟩).length)) ∧ (reachL ⟨w, h, s⟩ 0 true).length = 1 := by
  refine ⟨fun x hx => ?_, ?_, ?_⟩
  · obtain ⟨k, m⟩ := x
    obtain ⟨h1, h2, h3⟩ := (pairs_mem hb h16 (k, m)).1 hx
    refine ⟨(some_mem hb h16 k).2 ⟨m, hx⟩, (pairs_mem hb h16 (m, k)).2 ⟨h2, h1, ?_⟩⟩
    have h4 := lead_oth hb h3 (adiff_sub2 s _)
    rw [full_full (hole_bit hb h1).2] at h4
    exact h4
  · rw [Bool.eq_iff_iff, decide_eq_true_eq, decide_eq_true_eq]
    constructor
    · intro h0
      obtain ⟨m, hm⟩ := (some_mem hb h16 _).1 (List.getElem_mem h0)
      exact List.length_pos_of_mem hm
    · intro h0
      have hx := List.getElem_mem h0
      exact List.length_pos_of_mem ((some_mem hb h16 _).2 ⟨(pairsL ⟨w, h, s⟩)[0].2, hx⟩)
  · have hP : posB ⟨w, h, s⟩ ((0 : Nat) : Int) = true := posB_of hb (Nat.zero_and s)
    have hm := back_mem hb h16 hP
    have hnd : (reachL ⟨w, h, s⟩ ((0 : Nat) : Int) true).Nodup := List.Pairwise.filter _ List.nodup_range
    have h1 : ∀ x ∈ reachL ⟨w, h, s⟩ ((0 : Nat) : Int) true, x = 0 := fun x hx => by
      have hl := (hm x).1 hx
      have key : ∀ a c, Leads (linesL ⟨w, h, s⟩) a c → a = c ∨ 1 ≤ popc c := by
        intro a c hl
        induction hl with
        | refl => exact .inl rfl
        | @head p q l hl hc hq ih =>
          right
          rcases ih with e | e
          · subst e
            obtain ⟨f, o, t, k⟩ := linesL_ok hb hl
            have e := k.eq
            subst e
            have hbit : (flip p ⟨f, o, t⟩).testBit t = true := by
              simp only [canJ, Int.toNat_natCast, Bool.and_eq_true, Bool.not_eq_true'] at hc
              rw [bit_flip, hc.2.2]
              simp
            have ht : t < 49 := by have := k.t1; have := hb.area; omega
            unfold popc
            exact List.length_pos_of_mem (bits_mem.2 ⟨ht, hbit⟩)
          · exact e
      rcases key x 0 hl with e | e
      · exact e
      · exfalso
        have : popc 0 = 0 := by decide
        omega
    have h0 := (hm 0).2 (.refl 0)
    rw [show ((0 : Nat) : Int) = 0 from rfl] at *
    match hL : reachL ⟨w, h, s⟩ 0 true with
    | [] => rw [hL] at h0; simp at h0
    | [_] => rfl
    | a :: c :: r =>
      rw [hL] at hnd h1
      have := h1 a (by simp)
      have := h1 c (by simp)
      subst_vars
      simp at hnd
end
end Go.Proofs.Ytbcgokpamhgabaa

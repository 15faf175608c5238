/- Lines back and forth, and the row of three. No program in sight. -/
import Derived.Test.YtbcgokpamhgabaaPackP
set_option linter.unusedVariables false
namespace Go.Proofs.Ytbcgokpamhgabaa

theorem way_back {way : Nat} (h : way < 4) : (way + 2) % 4 < 4 ∧ dx ((way + 2) % 4) = - dx way ∧ dy ((way + 2) % 4) = - dy way := by
  rcases way_cases h with rfl | rfl | rfl | rfl <;> simp [dx, dy]
theorem at_self {w h s k : Nat} (hb : BdOk w h s) (hk : k < w * h) (hs : s.testBit k = true) : atB w h s ((k % w : Nat) : Int) ((k / w : Nat) : Int) = true ∧ ((k / w : Nat) : Int) * w + ((k % w : Nat) : Int) = k := by
  have w1 := hb.w1
  have r : k % w < w := Nat.mod_lt _ w1
  have q : k / w < h := Nat.div_lt_of_lt_mul hk
  have e : k / w * w + k % w = k := by rw [Nat.mul_comm]; exact Nat.div_add_mod k w
  have e2 : ((k / w : Nat) : Int) * w + ((k % w : Nat) : Int) = k := by rw [← Int.natCast_mul, ← Int.natCast_add, e]
  refine ⟨?_, e2⟩
  generalize k / w = y at *
  generalize k % w = x at *
  simp only [atB, e2, Int.toNat_natCast, hs, Bool.and_true, Bool.and_eq_true, decide_eq_true_eq]
  omega
/-- Back from the hole beside. -/
theorem bes_back {w h s k way m : Nat} (hb : BdOk w h s) (hw : way < 4) (hk : k < w * h) (hs : s.testBit k = true) (hm : bes w h s k way = m) : bes w h s m ((way + 2) % 4) = k := by
  obtain ⟨m', e, m1, m2, m3, m4, m5⟩ := bes_hole (way := way) hb (show 0 ≤ bes w h s k way by omega)
  have : m' = m := by omega
  subst this
  obtain ⟨_, x1, x2⟩ := way_back hw
  obtain ⟨a1, a2⟩ := at_self hb hk hs
  rw [bes_at w h s m' ((way + 2) % 4) (X := ((k % w : Nat) : Int)) (Y := ((k / w : Nat) : Int)) (by rw [m4, x1]; omega) (by rw [m5, x2]; omega), a1]
  exact a2
theorem way_mem {w h s k j : Nat} {l : Ln} (hl : lineAt w h s k j = some l) : ∀ n, j < n → l ∈ waysL w h s k n := by
  intro n
  induction n with
  | zero => intro h; omega
  | succ n ih =>
    intro hj
    simp only [waysL, List.mem_append, Option.mem_toList]
    by_cases e : j = n
    · subst e; exact .inr hl
    · exact .inl (ih (by omega))
theorem linesN_mem {w h s k j : Nat} {l : Ln} (hl : lineAt w h s k j = some l) (hj : j < 4) {L : List Nat} (hk : k ∈ L) : l ∈ linesN w h s L := by
  induction L with
  | nil => simp at hk
  | cons x L ih =>
    simp only [linesN, List.mem_append]
    rcases List.mem_cons.1 hk with rfl | hk
    · exact .inl (way_mem hl 4 hj)
    · exact .inr (ih hk)
theorem line_mem {w h s k j : Nat} {l : Ln} (hb : BdOk w h s) (hk : k < w * h) (hs : s.testBit k = true) (hj : j < 4) (hl : lineAt w h s k j = some l) : l ∈ linesL ⟨w, h, s⟩ := by
  rw [linesL_yes hb]
  exact linesN_mem hl hj (bits_mem.2 ⟨hk, hs⟩)
theorem line_is {w h s : Nat} {l : Ln} (hb : BdOk w h s) (hl : l ∈ linesL ⟨w, h, s⟩) : lineB ⟨w, h, s⟩ l = true := by
  have hsome : (findL (linesL ⟨w, h, s⟩) l.f l.t).isSome = true := by
    unfold findL
    rw [List.find?_isSome]
    exact ⟨l, hl, by simp⟩
  obtain ⟨m, hm⟩ := Option.isSome_iff_exists.1 hsome
  have hmem := List.mem_of_find?_eq_some hm
  have hp := List.find?_some hm
  simp only [Bool.and_eq_true, beq_iff_eq] at hp
  obtain ⟨f, o, t, k1⟩ := linesL_ok hb hl
  obtain ⟨f', o', t', k2⟩ := linesL_ok hb hmem
  have e1 := k1.eq
  have e2 := k2.eq
  subst e1 e2
  simp only at hp
  have h1 := k1.mid
  have h2 := k2.mid
  have : (⟨f', o', t'⟩ : Ln) = ⟨f, o, t⟩ := by rw [Ln.ext_iff']; simp only; omega
  simp only [lineB, btwB, btwL, hm, Option.isSome_some, Option.getD_some, Bool.true_and]
  simp [eqL, hp]
  omega

theorem test_flip (p f o t i : Nat) : (flip p ⟨f, o, t⟩).testBit i = (p.testBit i ^^ (decide (f = i) || decide (o = i) || decide (t = i))) := by
  rw [flip, Nat.testBit_xor, testBit_lbits]

/-- The row of three: a hole k with pegs at m, n beside it, u and v across. -/
structure Row (w h s k m n u v way : Nat) : Prop where
  hb : BdOk w h s
  hw : way < 4
  k1 : k < w * h
  ks : s.testBit k = true
  em : bes w h s k way = m
  en : bes w h s m way = n
  eu : bes w h s k ((way + 1) % 4) = u
  ev : bes w h s k ((way + 3) % 4) = v
def rowP (k m n u : Nat) : Nat := pow2 k ||| pow2 m ||| pow2 n ||| pow2 u
def rowJ (k m n u v : Nat) : List Ln := [⟨u, k, v⟩, ⟨n, m, k⟩, ⟨v, k, u⟩]
theorem hole_of {w h s k way m : Nat} (hb : BdOk w h s) (hm : bes w h s k way = m) : m < w * h ∧ s.testBit m = true ∧ ((m % w : Nat) : Int) = (k % w : Nat) + dx way ∧ ((m / w : Nat) : Int) = (k / w : Nat) + dy way := by
  obtain ⟨m', e, m1, m2, _, m4, m5⟩ := bes_hole (way := way) hb (show 0 ≤ bes w h s k way by omega)
  have : m' = m := by omega
  subst this
  exact ⟨m1, m2, m4, m5⟩
theorem row_diff {w h s k m n u v way : Nat} (r : Row w h s k m n u v way) : k ≠ m ∧ k ≠ n ∧ k ≠ u ∧ k ≠ v ∧ m ≠ n ∧ m ≠ u ∧ m ≠ v ∧ n ≠ u ∧ n ≠ v ∧ u ≠ v := by
  obtain ⟨_, _, m1, m2⟩ := hole_of r.hb r.em
  obtain ⟨_, _, n1, n2⟩ := hole_of r.hb r.en
  obtain ⟨_, _, u1, u2⟩ := hole_of r.hb r.eu
  obtain ⟨_, _, v1, v2⟩ := hole_of r.hb r.ev
  have key : ∀ a b : Nat, ((a % w : Nat) : Int) ≠ (b % w : Nat) ∨ ((a / w : Nat) : Int) ≠ (b / w : Nat) → a ≠ b := by
    rintro a b h rfl
    rcases h with h | h <;> exact h rfl
  rcases way_cases r.hw with rfl | rfl | rfl | rfl <;> simp [dx, dy] at m1 m2 n1 n2 u1 u2 v1 v2 <;>
    exact ⟨key _ _ (by omega), key _ _ (by omega), key _ _ (by omega), key _ _ (by omega), key _ _ (by omega), key _ _ (by omega), key _ _ (by omega), key _ _ (by omega), key _ _ (by omega), key _ _ (by omega)⟩
theorem row_lines {w h s k m n u v way : Nat} (r : Row w h s k m n u v way) : lineB ⟨w, h, s⟩ ⟨u, k, v⟩ = true ∧ lineB ⟨w, h, s⟩ ⟨n, m, k⟩ = true ∧ lineB ⟨w, h, s⟩ ⟨v, k, u⟩ = true := by
  have hb := r.hb
  have hw := r.hw
  obtain ⟨m1, ms, _⟩ := hole_of hb r.em
  obtain ⟨n1, ns, _⟩ := hole_of hb r.en
  obtain ⟨u1, us, _⟩ := hole_of hb r.eu
  obtain ⟨v1, vs, _⟩ := hole_of hb r.ev
  have bu := bes_back hb (show (way + 1) % 4 < 4 by omega) r.k1 r.ks r.eu
  have bv := bes_back hb (show (way + 3) % 4 < 4 by omega) r.k1 r.ks r.ev
  have bm := bes_back hb hw r.k1 r.ks r.em
  have bn := bes_back hb hw m1 ms r.en
  rw [show ((way + 1) % 4 + 2) % 4 = (way + 3) % 4 by omega] at bu
  rw [show ((way + 3) % 4 + 2) % 4 = (way + 1) % 4 by omega] at bv
  exact ⟨line_is hb (line_mem hb u1 us (by omega) (lineAt_yes bu r.ev)), line_is hb (line_mem hb n1 ns (by omega) (lineAt_yes bn bm)), line_is hb (line_mem hb v1 vs (by omega) (lineAt_yes bv r.eu))⟩
theorem test_rowP (k m n u i : Nat) : (rowP k m n u).testBit i = (decide (k = i) || decide (m = i) || decide (n = i) || decide (u = i)) := by
  simp only [rowP, Nat.testBit_or, testBit_pow2]
theorem rowP_sub {w h s k m n u v way : Nat} (r : Row w h s k m n u v way) : rowP k m n u &&& s = rowP k m n u := by
  have hb := r.hb
  obtain ⟨m1, ms, _⟩ := hole_of hb r.em
  obtain ⟨n1, ns, _⟩ := hole_of hb r.en
  obtain ⟨u1, us, _⟩ := hole_of hb r.eu
  have ks := r.ks
  apply Nat.eq_of_testBit_eq
  intro i
  rw [Nat.testBit_and, test_rowP]
  by_cases e1 : k = i
  · subst e1; simp [ks]
  · by_cases e2 : m = i
    · subst e2; simp [ms]
    · by_cases e3 : n = i
      · subst e3; simp [ns]
      · by_cases e4 : u = i
        · subst e4; simp [us]
        · simp [e1, e2, e3, e4]
theorem row_pack {w h s k m n u v way : Nat} (r : Row w h s k m n u v way) : packB ⟨w, h, s⟩ (rowP k m n u : Nat) (rowJ k m n u v) = true := by
  have hb := r.hb
  obtain ⟨d1, d2, d3, d4, d5, d6, d7, d8, d9, d10⟩ := row_diff r
  obtain ⟨l1, l2, l3⟩ := row_lines r
  have hs := rowP_sub r
  have d1' := Ne.symm d1
  have d2' := Ne.symm d2
  have d3' := Ne.symm d3
  have d4' := Ne.symm d4
  have d5' := Ne.symm d5
  have d6' := Ne.symm d6
  have d7' := Ne.symm d7
  have d8' := Ne.symm d8
  have d9' := Ne.symm d9
  have d10' := Ne.symm d10
  have tP := test_rowP k m n u
  generalize hP : rowP k m n u = P at hs tP
  have p0 := posB_of hb hs
  have b1 : doB ⟨w, h, s⟩ (P : Nat) ⟨u, k, v⟩ = true := by rw [doB_can p0 l1]; simp [canJ, *]
  have e1 := doP_yes b1
  have p1 := doP_pos (l := ⟨u, k, v⟩) p0
  rw [e1] at p1
  have tQ := test_flip P u k v
  generalize flip P ⟨u, k, v⟩ = Q at e1 p1 tQ
  have b2 : doB ⟨w, h, s⟩ (Q : Nat) ⟨n, m, k⟩ = true := by rw [doB_can p1 l2]; simp [canJ, *]
  have e2 := doP_yes b2
  have p2 := doP_pos (l := ⟨n, m, k⟩) p1
  rw [e2] at p2
  have tR := test_flip Q n m k
  generalize flip Q ⟨n, m, k⟩ = R at e2 p2 tR
  have b3 : doB ⟨w, h, s⟩ (R : Nat) ⟨v, k, u⟩ = true := by rw [doB_can p2 l3]; simp [canJ, *]
  have e3 := doP_yes b3
  have tF := test_flip R v k u
  generalize flip R ⟨v, k, u⟩ = F at e3 tF
  have hpl : playB ⟨w, h, s⟩ (P : Nat) (rowJ k m n u v) = true := by simp [playB, p0, rowJ, playsB, b1, e1, b2, e2, b3]
  have hpr : playR ⟨w, h, s⟩ (P : Nat) (rowJ k m n u v) = (F : Nat) := by
    rw [playR, hpl, if_pos rfl]
    simp [playP, rowJ, e1, e2, e3]
  rw [packB, hpl, hpr]
  simp only [Int.toNat_natCast, Bool.true_and, Bool.and_eq_true, decide_eq_true_eq]
  refine ⟨by simp [rowJ], ?_⟩
  apply Nat.eq_of_testBit_eq
  intro i
  rw [Nat.testBit_and, tF, tR, tQ, tP]
  by_cases q1 : k = i
  · subst q1; simp [*]
  · by_cases q2 : m = i
    · subst q2; simp [*]
    · by_cases q3 : n = i
      · subst q3; simp [*]
      · by_cases q4 : u = i
        · subst q4; simp [*]
        · by_cases q5 : v = i
          · subst q5; simp [*]
          · simp [*]
end Go.Proofs.Ytbcgokpamhgabaa

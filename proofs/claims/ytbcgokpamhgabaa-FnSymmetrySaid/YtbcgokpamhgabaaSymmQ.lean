/- The plain law of FnSymmetry: four quarter turns, two mirrors, the least form of the images. No program in sight. -/
import Derived.Test.YtbcgokpamhgabaaSymmP
set_option linter.unusedVariables false
namespace Go.Proofs.Ytbcgokpamhgabaa

theorem turnAt_inj {f o : Nat} (f1 : 1 ≤ f) (o1 : 1 ≤ o) (i j : Nat) (hi : i < f * o) (hj : j < f * o) (e : turnAt f o i = turnAt f o j) : i = j := by
  have h1 := turn_turn f1 o1 hi
  have h2 := turn_turn f1 o1 hj
  rw [e] at h1
  omega
theorem mir_mir {f o k : Nat} (f1 : 1 ≤ f) (hk : k < f * o) : mirAt f (mirAt f k) = k := by
  have r : k % f < f := Nat.mod_lt _ f1
  have e : k / f * f + k % f = k := by rw [Nat.mul_comm]; exact Nat.div_add_mod k f
  have h1 : mirAt f k = k / f * f + (f - 1 - k % f) := by unfold mirAt; omega
  obtain ⟨m1, m2⟩ := split_mod h1 (show f - 1 - k % f < f by omega)
  generalize mirAt f k = m at *
  unfold mirAt
  rw [m1, m2]
  generalize k / f * f = Q at *
  omega
theorem mirAt_inj {f o : Nat} (f1 : 1 ≤ f) (i j : Nat) (hi : i < f * o) (hj : j < f * o) (e : mirAt f i = mirAt f j) : i = j := by
  have h1 := mir_mir f1 hi
  have h2 := mir_mir f1 hj
  rw [e] at h1
  omega
theorem moved_pos {g : Nat → Nat} {s n : Nat} (hs : s < 2 ^ n) (h : 1 ≤ s) : 1 ≤ moved g s n := by
  by_cases h0 : moved g s n = 0
  · have : s = 0 := by
      apply eq_of_bits
      intro j
      constructor
      · intro hj
        have := (moved_test g s n (g j)).2 ⟨j, bit_lt hs hj, hj, rfl⟩
        rw [h0] at this
        simp at this
      · intro hj; simp at hj
    omega
  · omega
theorem sub_bit {p s k : Nat} (h : p &&& s = p) (hk : p.testBit k = true) : s.testBit k = true := by
  rw [← h, Nat.testBit_and, Bool.and_eq_true] at hk
  exact hk.2
theorem moved_sub {g : Nat → Nat} {p s n : Nat} (h : p &&& s = p) : moved g p n &&& moved g s n = moved g p n := by
  apply eq_of_bits
  intro j
  rw [Nat.testBit_and, Bool.and_eq_true]
  constructor
  · exact fun h => h.1
  · intro hj
    refine ⟨hj, ?_⟩
    obtain ⟨k, h1, h2, h3⟩ := (moved_test _ _ _ _).1 hj
    exact (moved_test _ _ _ _).2 ⟨k, h1, sub_bit h h2, h3⟩
theorem turnPos_nat {w h s p : Nat} (hP : posB ⟨w, h, s⟩ p = true) : turnPos ⟨w, h, s⟩ p = (moved (turnAt w h) p (w * h) : Nat) := by
  rw [turnPos, if_pos hP, Int.toNat_natCast, turnS_nat]
theorem mirPos_nat {w h s p : Nat} (hP : posB ⟨w, h, s⟩ p = true) : mirPos ⟨w, h, s⟩ p = (moved (mirAt w) p (w * h) : Nat) := by
  rw [mirPos, if_pos hP, Int.toNat_natCast, mirS_nat]
section
variable {w h s p : Nat} (hb : BdOk w h s)
include hb
theorem turn_ok : BdOk h w (moved (turnAt w h) s (w * h)) :=
  ⟨hb.h1, hb.h7, hb.w1, hb.w7, moved_pos hb.s2 hb.s1, by rw [Nat.mul_comm h w]; exact moved_lt fun k hk => turnAt_lt hb.w1 hb.h1 hb.area.2 hk⟩
theorem mir_ok : BdOk w h (moved (mirAt w) s (w * h)) :=
  ⟨hb.w1, hb.w7, hb.h1, hb.h7, moved_pos hb.s2 hb.s1, moved_lt fun k hk => mirAt_lt hb.w1 hb.h1 hb.area.2 hk⟩
theorem turnBoard_nat : turnBoard ⟨w, h, s⟩ = ⟨h, w, (moved (turnAt w h) s (w * h) : Nat)⟩ := by
  rw [turnBoard, if_pos (boardB_of hb), Int.toNat_natCast, turnS_nat]
theorem mirBoard_nat : mirBoard ⟨w, h, s⟩ = ⟨w, h, (moved (mirAt w) s (w * h) : Nat)⟩ := by
  rw [mirBoard, if_pos (boardB_of hb), Int.toNat_natCast, mirS_nat]
theorem pos_sub (hP : posB ⟨w, h, s⟩ p = true) : p &&& s = p ∧ p < 2 ^ (w * h) := by
  obtain ⟨q, hq, hs⟩ := posB_nat hP
  obtain rfl : p = q := by omega
  exact ⟨hs, posB_lt hb hs⟩
theorem turn_pos (hP : posB ⟨w, h, s⟩ p = true) : posB ⟨h, w, (moved (turnAt w h) s (w * h) : Nat)⟩ (moved (turnAt w h) p (w * h) : Nat) = true :=
  posB_of (turn_ok hb) (moved_sub (pos_sub hb hP).1)
theorem mir_pos (hP : posB ⟨w, h, s⟩ p = true) : posB ⟨w, h, (moved (mirAt w) s (w * h) : Nat)⟩ (moved (mirAt w) p (w * h) : Nat) = true :=
  posB_of (mir_ok hb) (moved_sub (pos_sub hb hP).1)
theorem turn_popc (hP : posB ⟨w, h, s⟩ p = true) : popc (moved (turnAt w h) p (w * h)) = popc p :=
  popc_moved hb.area.2 (pos_sub hb hP).2 (fun k hk => turnAt_lt hb.w1 hb.h1 hb.area.2 hk) (turnAt_inj hb.w1 hb.h1)
theorem turn_jumps (hP : posB ⟨w, h, s⟩ p = true) : (jumpsL (turnBoard ⟨w, h, s⟩) (turnPos ⟨w, h, s⟩ p)).length = (jumpsL ⟨w, h, s⟩ p).length := by
  rw [turnBoard_nat hb, turnPos_nat hP]
  exact jumps_moved hb (turn_ok hb) (turnAt_inj hb.w1 hb.h1) (List.isPerm_iff.1 (turn_full w (by have := hb.w7; omega) h (by have := hb.h7; omega))) hP (turn_pos hb hP)
theorem mir_jumps (hP : posB ⟨w, h, s⟩ p = true) : (jumpsL (mirBoard ⟨w, h, s⟩) (mirPos ⟨w, h, s⟩ p)).length = (jumpsL ⟨w, h, s⟩ p).length := by
  rw [mirBoard_nat hb, mirPos_nat hP]
  exact jumps_moved hb (mir_ok hb) (mirAt_inj hb.w1) (List.isPerm_iff.1 (mir_full w (by have := hb.w7; omega) h (by have := hb.h7; omega))) hP (mir_pos hb hP)
theorem mir2 {q : Nat} (hq : q < 2 ^ (w * h)) : moved (mirAt w) (moved (mirAt w) q (w * h)) (w * h) = q := by
  rw [moved_comp (fun k hk => mirAt_lt hb.w1 hb.h1 hb.area.2 hk)]
  exact moved_id hq fun k hk => mir_mir hb.w1 hk
theorem mir_two (hP : posB ⟨w, h, s⟩ p = true) : mirPos (mirBoard ⟨w, h, s⟩) (mirPos ⟨w, h, s⟩ p) = p ∧ mirBoard (mirBoard ⟨w, h, s⟩) = ⟨w, h, s⟩ := by
  rw [mirBoard_nat hb, mirPos_nat hP, mirPos_nat (mir_pos hb hP), mirBoard_nat (mir_ok hb), mir2 hb (pos_sub hb hP).2, mir2 hb hb.s2]
  exact ⟨rfl, rfl⟩
end
/-- The board and the position after k quarter turns. -/
def seqB (b : Ln) : Nat → Ln
  | 0 => b
  | k + 1 => turnBoard (seqB b k)
def seqP (b : Ln) (p : Int) : Nat → Int
  | 0 => p
  | k + 1 => turnPos (seqB b k) (seqP b p k)
theorem seq_pos {w h s p : Nat} (hb : BdOk w h s) (hP : posB ⟨w, h, s⟩ p = true) : ∀ k, ∃ w' h' s' p' : Nat, BdOk w' h' s' ∧ posB ⟨w', h', s'⟩ p' = true ∧ seqB ⟨w, h, s⟩ k = ⟨w', h', s'⟩ ∧ seqP ⟨w, h, s⟩ p k = p'
  | 0 => ⟨w, h, s, p, hb, hP, rfl, rfl⟩
  | k + 1 => by
    obtain ⟨w', h', s', p', h1, h2, h3, h4⟩ := seq_pos hb hP k
    exact ⟨h', w', _, _, turn_ok h1, turn_pos h1 h2, by rw [seqB, h3, turnBoard_nat h1], by rw [seqP, h3, h4, turnPos_nat h2]⟩
theorem seq_i64 {w h s p : Nat} (hb : BdOk w h s) (hP : posB ⟨w, h, s⟩ p = true) (k : Nat) : I64' (seqP ⟨w, h, s⟩ p k) := by
  obtain ⟨w', h', s', p', h1, h2, h3, h4⟩ := seq_pos hb hP k
  rw [h4]
  exact posB_i64 h2
theorem seq_four {w h s p : Nat} (hb : BdOk w h s) (hP : posB ⟨w, h, s⟩ p = true) : seqB ⟨w, h, s⟩ 4 = ⟨w, h, s⟩ ∧ seqP ⟨w, h, s⟩ p 4 = p := by
  have t1 := turn4 hb.w1 hb.h1 hb.area.2 hb.s2
  have t2 := turn4 hb.w1 hb.h1 hb.area.2 (pos_sub hb hP).2
  have k1 := turn_ok hb
  have k2 := turn_ok k1
  have k3 := turn_ok k2
  have q1 := turn_pos hb hP
  have q2 := turn_pos k1 q1
  have q3 := turn_pos k2 q2
  simp only [seqB, seqP]
  rw [turnBoard_nat hb, turnBoard_nat k1, turnBoard_nat k2, turnBoard_nat k3, turnPos_nat hP, turnPos_nat q1, turnPos_nat q2, turnPos_nat q3, Nat.mul_comm h w, t1, t2]
  exact ⟨rfl, rfl⟩
theorem isTurn_eq {b : Ln} (h : boardB b = true) : isTurnB b = eqL (turnBoard b) b := by rw [isTurnB, h, Bool.true_and]

/-- The images of p: turned, and turned and mirrored. -/
def Orb (T M : Nat → Nat) (p x : Nat) : Prop := ∃ i, i < 4 ∧ (x = itT T p i ∨ x = M (itT T p i))
theorem orb_self (T M : Nat → Nat) (p : Nat) : Orb T M p p := ⟨0, by omega, .inl rfl⟩
structure Group (T M : Nat → Nat) (N : Nat) : Prop where
  t : ∀ p, p < N → T p < N
  m : ∀ p, p < N → M p < N
  four : ∀ p, p < N → T (T (T (T p))) = p
  two : ∀ p, p < N → M (M p) = p
  tm : ∀ p, p < N → T (M (T p)) = M p
section
variable {T M : Nat → Nat} {N p x : Nat} (G : Group T M N) (hp : p < N)
include G hp
theorem it_lt : ∀ i, itT T p i < N
  | 0 => hp
  | i + 1 => G.t _ (it_lt i)
theorem orb_lt (h : Orb T M p x) : x < N := by
  obtain ⟨i, hi, rfl | rfl⟩ := h
  · exact it_lt G hp i
  · exact G.m _ (it_lt G hp i)
theorem orb_t (h : Orb T M p x) : Orb T M p (T x) := by
  obtain ⟨i, hi, rfl | rfl⟩ := h
  · by_cases h3 : i = 3
    · subst h3
      exact ⟨0, by omega, .inl (G.four p hp)⟩
    · exact ⟨i + 1, by omega, .inl rfl⟩
  · cases i with
    | zero =>
      refine ⟨3, by omega, .inr ?_⟩
      have := G.tm _ (it_lt G hp 3)
      rw [show T (itT T p 3) = p from G.four p hp] at this
      exact this
    | succ i => exact ⟨i, by omega, .inr (G.tm _ (it_lt G hp i))⟩
theorem orb_m (h : Orb T M p x) : Orb T M p (M x) := by
  obtain ⟨i, hi, rfl | rfl⟩ := h
  · exact ⟨i, hi, .inr rfl⟩
  · exact ⟨i, hi, .inl (G.two _ (it_lt G hp i))⟩
theorem orb_it (h : Orb T M p x) : ∀ i, Orb T M p (itT T x i)
  | 0 => h
  | i + 1 => orb_t G hp (orb_it h i)
theorem orb_trans {y : Nat} (h : Orb T M p x) (h2 : Orb T M x y) : Orb T M p y := by
  obtain ⟨i, hi, rfl | rfl⟩ := h2
  · exact orb_it G hp h i
  · exact orb_m G hp (orb_it G hp h i)
theorem it_back (i : Nat) (hi : i < 4) : Orb T M (itT T p i) p := by
  have k := it_lt G hp i
  have o := orb_self T M (itT T p i)
  have f := G.four p hp
  match i, hi, k, o with
  | 0, _, k, o => exact o
  | 1, _, k, o =>
    have h : Orb T M (itT T p 1) (T (T (T (T p)))) := orb_t G k (orb_t G k (orb_t G k o))
    rw [f] at h; exact h
  | 2, _, k, o =>
    have h : Orb T M (itT T p 2) (T (T (T (T p)))) := orb_t G k (orb_t G k o)
    rw [f] at h; exact h
  | 3, _, k, o =>
    have h : Orb T M (itT T p 3) (T (T (T (T p)))) := orb_t G k o
    rw [f] at h; exact h
end
theorem orb_symm {T M : Nat → Nat} {N p x : Nat} (G : Group T M N) (hp : p < N) (h : Orb T M p x) : Orb T M x p := by
  have hx := orb_lt G hp h
  obtain ⟨i, hi, rfl | rfl⟩ := h
  · exact it_back G hp i hi
  · have k := it_lt G hp i
    refine orb_trans G hx (x := itT T p i) ?_ (it_back G hp i hi)
    have := orb_m G hx (orb_self T M _)
    rw [G.two _ k] at this
    exact this
theorem lfI_min (T M : Nat → Nat) (p : Nat) : (∀ x, Orb T M p x → lfI T M p 4 ≤ x) ∧ Orb T M p (lfI T M p 4) := by
  have gen : ∀ n, n ≤ 4 → (lfI T M p n ≤ p ∧ ∀ i, i < n → lfI T M p n ≤ itT T p i ∧ lfI T M p n ≤ M (itT T p i)) ∧ Orb T M p (lfI T M p n) := by
    intro n
    induction n with
    | zero => intro _; exact ⟨⟨Nat.le_refl _, fun i hi => by omega⟩, ⟨0, by omega, .inl rfl⟩⟩
    | succ n ih =>
      intro hn
      obtain ⟨⟨a1, a2⟩, a3⟩ := ih (by omega)
      rw [lfI]
      generalize lfI T M p n = y at *
      refine ⟨⟨by omega, fun i hi => ?_⟩, ?_⟩
      · by_cases e : i = n
        · subst e; omega
        · have := a2 i (by omega); omega
      · rcases Nat.le_total y (itT T p n) with h1 | h1
        · rw [Nat.min_eq_left h1]
          rcases Nat.le_total y (M (itT T p n)) with h2 | h2
          · rw [Nat.min_eq_left h2]; exact a3
          · rw [Nat.min_eq_right h2]; exact ⟨n, by omega, .inr rfl⟩
        · rw [Nat.min_eq_right h1]
          rcases Nat.le_total (itT T p n) (M (itT T p n)) with h2 | h2
          · rw [Nat.min_eq_left h2]; exact ⟨n, by omega, .inl rfl⟩
          · rw [Nat.min_eq_right h2]; exact ⟨n, by omega, .inr rfl⟩
  obtain ⟨⟨-, a2⟩, a3⟩ := gen 4 (Nat.le_refl _)
  refine ⟨?_, a3⟩
  rintro x ⟨i, hi, rfl | rfl⟩
  · exact (a2 i hi).1
  · exact (a2 i hi).2
theorem lfI_orb {T M : Nat → Nat} {N p x : Nat} (G : Group T M N) (hp : p < N) (h : Orb T M p x) : lfI T M x 4 = lfI T M p 4 := by
  have hx := orb_lt G hp h
  have h' := orb_symm G hp h
  have a := lfI_min T M p
  have c := lfI_min T M x
  have := a.1 _ (orb_trans G hp h c.2)
  have := c.1 _ (orb_trans G hx h' a.2)
  omega
theorem moved_congr {g g' : Nat → Nat} {s n : Nat} (h : ∀ k, k < n → g k = g' k) : moved g s n = moved g' s n := by
  apply eq_of_bits
  intro j
  rw [moved_test, moved_test]
  constructor
  · rintro ⟨k, h1, h2, h3⟩; exact ⟨k, h1, h2, by rw [← h k h1]; exact h3⟩
  · rintro ⟨k, h1, h2, h3⟩; exact ⟨k, h1, h2, by rw [h k h1]; exact h3⟩
theorem tmt : ∀ n, n < 5 → ∀ k, k < n * n → turnAt n n (mirAt n (turnAt n n k)) = mirAt n k := by decide +kernel
theorem group_of {n t : Nat} (hb : BdOk n n t) (h5 : n < 5) : Group (turnS ⟨n, n, t⟩) (mirS ⟨n, n, t⟩) (2 ^ (n * n)) where
  t p hp := by rw [turnS_nat]; exact moved_lt fun k hk => turnAt_lt hb.w1 hb.h1 hb.area.2 hk
  m p hp := by rw [mirS_nat]; exact moved_lt fun k hk => mirAt_lt hb.w1 hb.h1 hb.area.2 hk
  four p hp := by simp only [turnS_nat]; exact turn4 hb.w1 hb.h1 hb.area.2 hp
  two p hp := by simp only [mirS_nat]; exact mir2 hb hp
  tm p hp := by
    simp only [turnS_nat, mirS_nat]
    rw [moved_comp (fun k hk => turnAt_lt hb.w1 hb.h1 hb.area.2 hk), moved_comp (fun k hk => mirAt_lt hb.w1 hb.h1 hb.area.2 (turnAt_lt hb.w1 hb.h1 hb.area.2 hk))]
    exact moved_congr fun k hk => tmt n h5 k hk
theorem full_turn : ∀ n : Nat, n < 5 → 2 ≤ n → isTurnB ⟨n, n, fullS (n * n)⟩ = true ∧ isMirB ⟨n, n, fullS (n * n)⟩ = true := by decide +kernel
theorem full_ok {n : Nat} (h2 : 2 ≤ n) (h5 : n < 5) : BdOk n n (fullS (n * n)) := by
  have hw := Nat.mul_le_mul h2 h2
  have := Nat.one_lt_two_pow (n := n * n) (by omega)
  exact ⟨by omega, by omega, by omega, by omega, by unfold fullS; omega, by unfold fullS; omega⟩
/-- The least form on a full square. -/
theorem square_law {n g : Nat} (h2 : 2 ≤ n) (h5 : n < 5) (hg : g ≤ fullS (n * n)) :
    posB ⟨n, n, fullS (n * n)⟩ g = true ∧ ∃ f t m : Nat, leastF ⟨n, n, fullS (n * n)⟩ g = f ∧ f ≤ g ∧ turnPos ⟨n, n, fullS (n * n)⟩ g = t ∧ mirPos ⟨n, n, fullS (n * n)⟩ g = m ∧
      leastF ⟨n, n, fullS (n * n)⟩ t = f ∧ leastF ⟨n, n, fullS (n * n)⟩ m = f ∧ leastF ⟨n, n, fullS (n * n)⟩ f = f ∧ t < 65536 ∧ m < 65536 := by
  have hb := full_ok h2 h5
  have hT := full_turn n h5 h2
  have G := group_of hb h5
  have h1 := Nat.two_pow_pos (n * n)
  have hlt : ∀ q : Nat, q < 2 ^ (n * n) → posB ⟨n, n, fullS (n * n)⟩ q = true := fun q hq => by
    refine posB_of hb ?_
    unfold fullS
    rw [Nat.and_two_pow_sub_one_eq_mod]
    exact Nat.mod_eq_of_lt hq
  have hg' : g < 2 ^ (n * n) := by unfold fullS at hg; omega
  have hL : ∀ q : Nat, q < 2 ^ (n * n) → leastF ⟨n, n, fullS (n * n)⟩ q = (lfI (turnS ⟨n, n, fullS (n * n)⟩) (mirS ⟨n, n, fullS (n * n)⟩) q 4 : Nat) := fun q hq => by
    rw [leastF, if_pos (hlt q hq), hT.1, hT.2]
    simp only [Bool.and_self, if_true, Int.toNat_natCast]
  have o := orb_self (turnS ⟨n, n, fullS (n * n)⟩) (mirS ⟨n, n, fullS (n * n)⟩) g
  have ot := orb_t G hg' o
  have om := orb_m G hg' o
  have c := lfI_min (turnS ⟨n, n, fullS (n * n)⟩) (mirS ⟨n, n, fullS (n * n)⟩) g
  have hpow : 2 ^ (n * n) ≤ 65536 := Nat.pow_le_pow_right (n := 2) (j := 16) (by omega) (by have := Nat.mul_le_mul (show n ≤ 4 by omega) (show n ≤ 4 by omega); omega)
  have l1 := G.t g hg'
  have l2 := G.m g hg'
  refine ⟨hlt g hg', _, turnS ⟨n, n, fullS (n * n)⟩ g, mirS ⟨n, n, fullS (n * n)⟩ g, hL g hg', c.1 g o, ?_, ?_, ?_, ?_, ?_, ?_, ?_⟩
  · rw [turnPos, if_pos (hlt g hg'), Int.toNat_natCast]
  · rw [mirPos, if_pos (hlt g hg'), Int.toNat_natCast]
  · rw [hL _ l1, lfI_orb G hg' ot]
  · rw [hL _ l2, lfI_orb G hg' om]
  · rw [hL _ (orb_lt G hg' c.2), lfI_orb G hg' c.2]
  · omega
  · omega
/-- All that the law asks of a board and a position. -/
theorem symm_law {w h s p : Nat} (hb : BdOk w h s) (hP : posB ⟨w, h, s⟩ p = true) :
    ∃ (t m q r n0 nj : Nat) (eb : Bool), turnBoard ⟨w, h, s⟩ = ⟨h, w, t⟩ ∧ mirBoard ⟨w, h, s⟩ = ⟨w, h, m⟩ ∧ turnPos ⟨w, h, s⟩ p = q ∧ mirPos ⟨w, h, s⟩ p = r ∧ posB ⟨h, w, t⟩ q = true ∧ posB ⟨w, h, m⟩ r = true ∧
      mirPos ⟨w, h, m⟩ r = p ∧ mirBoard ⟨w, h, m⟩ = ⟨w, h, s⟩ ∧ popc p = n0 ∧ popc q = n0 ∧ (jumpsL ⟨w, h, s⟩ p).length = nj ∧ (jumpsL ⟨h, w, t⟩ q).length = nj ∧ (jumpsL ⟨w, h, m⟩ r).length = nj ∧
      isTurnB ⟨w, h, s⟩ = eb ∧ eqL ⟨h, w, t⟩ ⟨w, h, s⟩ = eb := by
  have j1 := turn_jumps hb hP
  have j2 := mir_jumps hb hP
  have m2 := mir_two hb hP
  have e := isTurn_eq (boardB_of hb)
  rw [turnBoard_nat hb] at j1 e
  rw [turnPos_nat hP] at j1
  rw [mirBoard_nat hb, mirPos_nat hP] at j2 m2
  exact ⟨_, _, _, _, popc p, _, _, turnBoard_nat hb, mirBoard_nat hb, turnPos_nat hP, mirPos_nat hP, turn_pos hb hP, mir_pos hb hP, m2.1, m2.2, rfl, turn_popc hb hP, rfl, j1, j2, e, rfl⟩
end Go.Proofs.Ytbcgokpamhgabaa

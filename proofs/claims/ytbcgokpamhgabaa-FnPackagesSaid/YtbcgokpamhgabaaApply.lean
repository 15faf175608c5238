/- The contracts of Applies and UsePackage. -/
import Derived.Test.YtbcgokpamhgabaaChecked
import Derived.Test.YtbcgokpamhgabaaMem
import Derived.Tactics
import Derived.Tactics2
import Derived.WalkKit
import Derived.WalkSpells
import Derived.WalkLawsBesides
import Derived.Deep.QuietTactic
import Derived.BigQuiet
import Derived.BigGuardPart
import Derived.Lib.QuietBelow
import Derived.OwnWalk
import Derived.KernelRfl
import Derived.Test.YtbcgokpamhgabaaSym
import Derived.Test.YtbcgokpamhgabaaBoardP
import Derived.Test.YtbcgokpamhgabaaSet
set_option linter.unusedVariables false
set_option maxRecDepth 20000
namespace Go.Proofs.Ytbcgokpamhgabaa
open Go.RowKit Go.Sort

def goneB (p : Nat) (g : Int) : Bool := decide (0 ≤ g) && decide (g.toNat &&& p = g.toNat)
theorem wrap_zero {n : Nat} (hn : n < 18446744073709551616) : IntKind.i64.wrap (n : Int) = 0 ↔ n = 0 := by
  rw [IntKind.wrap_i64]; omega
theorem gone_not (p : Nat) (hp : B63 p) (g : Int) (hg : I64 g) : (bits .andNot .i64 g (p : Int) != 0) = !goneB p g := by
  by_cases h0 : 0 ≤ g
  · obtain ⟨n, rfl⟩ := Int.eq_ofNat_of_zero_le h0
    have hn : B63 n := by have := hg.2; unfold B63; omega
    rw [i64_andNot n p hn hp, bne, Bool.not_eq_eq_eq_not, Bool.not_not, Bool.eq_iff_iff]
    simp [goneB, ← and_eq_iff]
  · have e : goneB p g = false := by simp [goneB, h0]
    rw [e, Bool.not_false, bne_iff_ne]
    intro hz
    have hz : IntKind.i64.wrap ((BitVec.ofInt 64 g &&& ~~~ (BitVec.ofInt 64 (p : Int))).toNat : Int) = 0 := hz
    rw [wrap_zero (BitVec.isLt _)] at hz
    have h1 : (BitVec.ofInt 64 g &&& ~~~ (BitVec.ofInt 64 (p : Int))).getLsbD 63 = true := by
      rw [BitVec.getLsbD_and, BitVec.getLsbD_not]
      have hp63 : (BitVec.ofInt 64 (p : Int)).getLsbD 63 = false := by
        rw [← BitVec.testBit_toNat, ofInt_i64 p hp]
        exact Nat.testBit_lt_two_pow hp
      have hg63 : (BitVec.ofInt 64 g).getLsbD 63 = true := by
        rw [← BitVec.msb_eq_getLsbD_last (BitVec.ofInt 64 g), BitVec.msb_eq_decide, BitVec.toNat_ofInt]
        obtain ⟨g1, g2⟩ := hg
        simp only [decide_eq_true_eq]
        omega
      rw [hp63, hg63]; rfl
    rw [← BitVec.testBit_toNat, hz, Nat.zero_testBit] at h1
    cases h1
theorem gone_and (p : Nat) (hp : B63 p) (g : Int) (hg : I64 g) : (bits .and .i64 (p : Int) g != g) = !goneB p g := by
  by_cases h0 : 0 ≤ g
  · obtain ⟨n, rfl⟩ := Int.eq_ofNat_of_zero_le h0
    have hn : B63 n := by have := hg.2; unfold B63; omega
    rw [i64_and p n hp hn, bne, Bool.not_eq_eq_eq_not, Bool.not_not, Bool.eq_iff_iff, Nat.and_comm]
    simp [goneB]
    omega
  · have e : goneB p g = false := by simp [goneB, h0]
    rw [e, Bool.not_false, bne_iff_ne]
    intro hz
    have hz : IntKind.i64.wrap ((BitVec.ofInt 64 (p : Int) &&& BitVec.ofInt 64 g).toNat : Int) = g := hz
    have hl : (BitVec.ofInt 64 (p : Int) &&& BitVec.ofInt 64 g).toNat ≤ p := by
      rw [BitVec.toNat_and, ofInt_i64 p hp]; exact Nat.and_le_left
    unfold B63 at hp
    rw [IntKind.wrap_i64] at hz
    omega
theorem gone_sub (p : Nat) (hp : B63 p) (n : Nat) (h : n &&& p = n) : bits .andNot .i64 (p : Int) (n : Int) = (p : Int) - n := by
  have hn : B63 n := by rw [← h]; exact Nat.lt_of_le_of_lt Nat.and_le_right hp
  have e := adiff_sub' hp h
  rw [i64_andNot p n hp hn]
  omega
def applyB (b : Ln) (p need q : Int) : Bool := posB b p && (posB b q && (bits .and .i64 p need == bits .and .i64 q need))
def useB (b : Ln) (p : Int) (x : Int × Int) (q : Int) : Bool := applyB b p x.1 q && goneB p.toNat x.2
def useP (b : Ln) (p : Int) (x : Int × Int) (q : Int) : Int := if useB b p x q then p - x.2 else p
set_option maxHeartbeats 1000000 in
theorem iApplies_ (b : Ln) (p : Int) (x : Int × Int) (A : Option Addr) (n c : Nat) (q : Int) (hp : I64 p) (hq : I64 q) (W : World) :
    Calls Try.prog 50 #[.agg #[.int .i64 b.f, .int .i64 b.o, .int .i64 b.t], .int .i64 p, .agg #[.int .i64 x.1, .int .i64 x.2, .slice A n c], .int .i64 q] W fun e w' => e = .returned (.bool (applyB b p x.1 q)) ∧ Below W.heap.size W w' := by
  rcases Bool.eq_false_or_eq_true (posB b p) with hP | hP
  · rcases Bool.eq_false_or_eq_true (posB b q) with hQ | hQ
    · have H := Lib.hid (show (bits .and .i64 p x.1 == bits .and .i64 q x.1) = applyB b p x.1 q by simp [applyB, hP, hQ])
      go_enter Try.func50, Try.ntmps50
      go_wp2_with fail
      refine (is_ (iPositionOk_ b p hp _) hP).mono ?_
      rintro e w1 ⟨rfl, hb1⟩
      obtain ⟨hc, hf⟩ := bcell hb1
      have hz : W.heap.size + 2 ≤ w1.heap.size := by have := hb1.size; simpa using this
      have hw1 : Below W.heap.size W w1 := below_step (((Below.refl _ _).alloc (Nat.le_refl _) _).alloc (by simp) _) hb1 (by simp; omega)
      have b0 : w1.cell? ⟨W.heap.size, 0, none⟩ = some (.int .i64 b.f) := by rw [hc _ _ (by simp; try omega)]; simp [go_sem]
      have b1 : w1.cell? ⟨W.heap.size, 1, none⟩ = some (.int .i64 b.o) := by rw [hc _ _ (by simp; try omega)]; simp [go_sem]
      have b2 : w1.cell? ⟨W.heap.size, 2, none⟩ = some (.int .i64 b.t) := by rw [hc _ _ (by simp; try omega)]; simp [go_sem]
      have r0 : w1.cell? ⟨W.heap.size + 1, 0, none⟩ = some (.int .i64 x.1) := by rw [hc _ _ (by simp)]; simp [go_sem]
      have hz1 : W.heap.size + 1 < w1.heap.size := by omega
      clear hc hf hb1
      go_wp2_with fail
      refine (is_ (iPositionOk_ b q hq _) hQ).mono ?_
      rintro e w2 ⟨rfl, hb2⟩
      have s0 := (hb2.cell (p := ⟨W.heap.size + 1, 0, none⟩) hz1).trans r0
      have hw2 := below_next hw1 hb2
      have hz2 : W.heap.size + 1 < w2.heap.size := by have := hb2.size; omega
      clear b0 b1 b2 r0
      go_wp2
      go_ret
      exact ⟨ret_bool H.out, hw2⟩
    · have H := Lib.hid (show applyB b p x.1 q = false by simp [applyB, hQ])
      go_enter Try.func50, Try.ntmps50
      go_wp2_with fail
      refine (is_ (iPositionOk_ b p hp _) hP).mono ?_
      rintro e w1 ⟨rfl, hb1⟩
      obtain ⟨hc, hf⟩ := bcell hb1
      have hz : W.heap.size + 2 ≤ w1.heap.size := by have := hb1.size; simpa using this
      have hw1 : Below W.heap.size W w1 := below_step (((Below.refl _ _).alloc (Nat.le_refl _) _).alloc (by simp) _) hb1 (by simp; omega)
      have b0 : w1.cell? ⟨W.heap.size, 0, none⟩ = some (.int .i64 b.f) := by rw [hc _ _ (by simp; try omega)]; simp [go_sem]
      have b1 : w1.cell? ⟨W.heap.size, 1, none⟩ = some (.int .i64 b.o) := by rw [hc _ _ (by simp; try omega)]; simp [go_sem]
      have b2 : w1.cell? ⟨W.heap.size, 2, none⟩ = some (.int .i64 b.t) := by rw [hc _ _ (by simp; try omega)]; simp [go_sem]
      have hz1 : W.heap.size + 1 < w1.heap.size := by omega
      clear hc hf hb1
      go_wp2_with fail
      refine (is_ (iPositionOk_ b q hq _) hQ).mono ?_
      rintro e w2 ⟨rfl, hb2⟩
      have hw2 := below_next hw1 hb2
      clear b0 b1 b2
      go_wp2
      go_ret
      exact ⟨ret_bool H.out.symm, hw2⟩
  · have H := Lib.hid (show applyB b p x.1 q = false by simp [applyB, hP])
    go_enter Try.func50, Try.ntmps50
    go_wp2_with fail
    refine (is_ (iPositionOk_ b p hp _) hP).mono ?_
    rintro e w1 ⟨rfl, hb1⟩
    have hw1 : Below W.heap.size W w1 := below_step (((Below.refl _ _).alloc (Nat.le_refl _) _).alloc (by simp) _) hb1 (by simp; omega)
    go_wp2
    go_ret
    exact ⟨ret_bool H.out.symm, hw1⟩
set_option maxHeartbeats 1000000 in
theorem sApplies_ (b : Ln) (p : Int) (x : Int × Int) (A : Option Addr) (n c : Nat) (q : Int) (hp : I64 p) (hq : I64 q) (W : World) :
    Calls Try.prog 54 #[.agg #[.int .i64 b.f, .int .i64 b.o, .int .i64 b.t], .int .i64 p, .agg #[.int .i64 x.1, .int .i64 x.2, .slice A n c], .int .i64 q] W fun e w' => e = .returned (.bool (applyB b p x.1 q)) ∧ Below W.heap.size W w' := by
  rcases Bool.eq_false_or_eq_true (posB b p) with hP | hP
  · rcases Bool.eq_false_or_eq_true (posB b q) with hQ | hQ
    · have H := Lib.hid (show (bits .and .i64 p x.1 == bits .and .i64 q x.1) = applyB b p x.1 q by simp [applyB, hP, hQ])
      go_enter Try.func54, Try.ntmps54
      go_wp2_with fail
      refine (is_ (sPositionOk_ b p hp _) hP).mono ?_
      rintro e w1 ⟨rfl, hb1⟩
      obtain ⟨hc, hf⟩ := bcell hb1
      have hz : W.heap.size + 2 ≤ w1.heap.size := by have := hb1.size; simpa using this
      have hw1 : Below W.heap.size W w1 := below_step (((Below.refl _ _).alloc (Nat.le_refl _) _).alloc (by simp) _) hb1 (by simp; omega)
      have b0 : w1.cell? ⟨W.heap.size, 0, none⟩ = some (.int .i64 b.f) := by rw [hc _ _ (by simp; try omega)]; simp [go_sem]
      have b1 : w1.cell? ⟨W.heap.size, 1, none⟩ = some (.int .i64 b.o) := by rw [hc _ _ (by simp; try omega)]; simp [go_sem]
      have b2 : w1.cell? ⟨W.heap.size, 2, none⟩ = some (.int .i64 b.t) := by rw [hc _ _ (by simp; try omega)]; simp [go_sem]
      have r0 : w1.cell? ⟨W.heap.size + 1, 0, none⟩ = some (.int .i64 x.1) := by rw [hc _ _ (by simp)]; simp [go_sem]
      have hz1 : W.heap.size + 1 < w1.heap.size := by omega
      clear hc hf hb1
      go_wp2_with fail
      refine (is_ (sPositionOk_ b q hq _) hQ).mono ?_
      rintro e w2 ⟨rfl, hb2⟩
      have s0 := (hb2.cell (p := ⟨W.heap.size + 1, 0, none⟩) hz1).trans r0
      have hw2 := below_next hw1 hb2
      have hz2 : W.heap.size + 1 < w2.heap.size := by have := hb2.size; omega
      clear b0 b1 b2 r0
      go_wp2
      go_ret
      exact ⟨ret_bool H.out, hw2⟩
    · have H := Lib.hid (show applyB b p x.1 q = false by simp [applyB, hQ])
      go_enter Try.func54, Try.ntmps54
      go_wp2_with fail
      refine (is_ (sPositionOk_ b p hp _) hP).mono ?_
      rintro e w1 ⟨rfl, hb1⟩
      obtain ⟨hc, hf⟩ := bcell hb1
      have hz : W.heap.size + 2 ≤ w1.heap.size := by have := hb1.size; simpa using this
      have hw1 : Below W.heap.size W w1 := below_step (((Below.refl _ _).alloc (Nat.le_refl _) _).alloc (by simp) _) hb1 (by simp; omega)
      have b0 : w1.cell? ⟨W.heap.size, 0, none⟩ = some (.int .i64 b.f) := by rw [hc _ _ (by simp; try omega)]; simp [go_sem]
      have b1 : w1.cell? ⟨W.heap.size, 1, none⟩ = some (.int .i64 b.o) := by rw [hc _ _ (by simp; try omega)]; simp [go_sem]
      have b2 : w1.cell? ⟨W.heap.size, 2, none⟩ = some (.int .i64 b.t) := by rw [hc _ _ (by simp; try omega)]; simp [go_sem]
      have hz1 : W.heap.size + 1 < w1.heap.size := by omega
      clear hc hf hb1
      go_wp2_with fail
      refine (is_ (sPositionOk_ b q hq _) hQ).mono ?_
      rintro e w2 ⟨rfl, hb2⟩
      have hw2 := below_next hw1 hb2
      clear b0 b1 b2
      go_wp2
      go_ret
      exact ⟨ret_bool H.out.symm, hw2⟩
  · have H := Lib.hid (show applyB b p x.1 q = false by simp [applyB, hP])
    go_enter Try.func54, Try.ntmps54
    go_wp2_with fail
    refine (is_ (sPositionOk_ b p hp _) hP).mono ?_
    rintro e w1 ⟨rfl, hb1⟩
    have hw1 : Below W.heap.size W w1 := below_step (((Below.refl _ _).alloc (Nat.le_refl _) _).alloc (by simp) _) hb1 (by simp; omega)
    go_wp2
    go_ret
    exact ⟨ret_bool H.out.symm, hw1⟩
set_option maxHeartbeats 1000000 in
theorem iUsePackage_ (b : Ln) (p : Int) (x : Int × Int) (A : Option Addr) (n c : Nat) (q : Int) (hp : I64 p) (hx : I64 x.2) (hq : I64 q) (W : World) :
    Calls Try.prog 51 #[.agg #[.int .i64 b.f, .int .i64 b.o, .int .i64 b.t], .int .i64 p, .agg #[.int .i64 x.1, .int .i64 x.2, .slice A n c], .int .i64 q] W fun e w' => e = .returned (.tuple #[.int .i64 (useP b p x q), .bool (useB b p x q)]) ∧ Below W.heap.size W w' := by
  rcases Bool.eq_false_or_eq_true (applyB b p x.1 q) with hA | hA
  · have hP : posB b p = true := by simp only [applyB, Bool.and_eq_true] at hA; exact hA.1
    obtain ⟨w, h, s, r, rfl, rfl, hb, hr⟩ := posB_open hP
    have r63 : B63 r := by
      have := Nat.lt_of_le_of_lt (sub_le hr) (Nat.lt_of_lt_of_le hb.s2 (Nat.pow_le_pow_right (n := 2) (by omega) hb.area.2))
      unfold B63; omega
    have hg := gone_not r r63 x.2 hx
    rcases Bool.eq_false_or_eq_true (goneB r x.2) with hG | hG
    · have hG2 := hG
      simp only [goneB, Bool.and_eq_true, decide_eq_true_eq] at hG2
      obtain ⟨g0, g1⟩ := hG2
      obtain ⟨x1, x2⟩ := x
      simp only at *
      obtain ⟨y, rfl⟩ := Int.eq_ofNat_of_zero_le g0
      rw [Int.toNat_natCast] at g1
      have hgs := gone_sub r r63 y g1
      have hyr : y ≤ r := by rw [← g1]; exact Nat.and_le_right
      have HU : Hid (useB ⟨w, h, s⟩ r (x1, (y : Int)) q = true) := Lib.hid (by simp only [useB, hA, Int.toNat_natCast]; exact hG)
      have HP : Hid (useP ⟨w, h, s⟩ r (x1, (y : Int)) q = (r : Int) - y) := Lib.hid (by simp [useP, HU.out])
      rw [hG] at hg
      have hdi : ∃ d : Nat, (r : Int) - y = d := ⟨r - y, by omega⟩
      obtain ⟨d, hd⟩ := hdi
      rw [hd] at hgs HP
      have hd2 : d < 9223372036854775808 := by unfold B63 at r63; omega
      clear hG g0 g1 hP hr
      go_enter Try.func51, Try.ntmps51
      go_wp2_with fail
      refine (is_ (iApplies_ ⟨w, h, s⟩ r (x1, (y : Int)) A n c q hp hq _) hA).mono ?_
      rintro e w1 ⟨rfl, hb1⟩
      obtain ⟨hc, hf⟩ := bcell hb1
      have hz : W.heap.size + 2 ≤ w1.heap.size := by have := hb1.size; simpa using this
      have hw1 : Below W.heap.size W w1 := below_step (((Below.refl _ _).alloc (Nat.le_refl _) _).alloc (by simp) _) hb1 (by simp; omega)
      have r1 : w1.cell? ⟨W.heap.size + 1, 1, none⟩ = some (.int .i64 (y : Int)) := by rw [hc _ _ (by simp)]; simp [go_sem]
      have hz1 : W.heap.size + 1 < w1.heap.size := by omega
      clear hc hf hb1 hA
      go_wp2
      go_ret2
      exact ⟨by rw [HU.out, HP.out]; rfl, hw1⟩
    · have HU : Hid (useB ⟨w, h, s⟩ r x q = false) := Lib.hid (by simp only [useB, hA, Int.toNat_natCast]; exact hG)
      have HP : Hid (useP ⟨w, h, s⟩ r x q = r) := Lib.hid (by simp [useP, HU.out])
      rw [hG] at hg
      clear hG hP hr
      go_enter Try.func51, Try.ntmps51
      go_wp2_with fail
      refine (is_ (iApplies_ ⟨w, h, s⟩ r x A n c q hp hq _) hA).mono ?_
      rintro e w1 ⟨rfl, hb1⟩
      obtain ⟨hc, hf⟩ := bcell hb1
      have hz : W.heap.size + 2 ≤ w1.heap.size := by have := hb1.size; simpa using this
      have hw1 : Below W.heap.size W w1 := below_step (((Below.refl _ _).alloc (Nat.le_refl _) _).alloc (by simp) _) hb1 (by simp; omega)
      have r1 : w1.cell? ⟨W.heap.size + 1, 1, none⟩ = some (.int .i64 x.2) := by rw [hc _ _ (by simp)]; simp [go_sem]
      have hz1 : W.heap.size + 1 < w1.heap.size := by omega
      clear hc hf hb1 hA
      go_wp2
      go_ret2
      exact ⟨by rw [HU.out, HP.out]; rfl, hw1⟩
  · have HU : Hid (useB b p x q = false) := Lib.hid (by simp [useB, hA])
    have HP : Hid (useP b p x q = p) := Lib.hid (by simp [useP, HU.out])
    go_enter Try.func51, Try.ntmps51
    go_wp2_with fail
    refine (is_ (iApplies_ b p x A n c q hp hq _) hA).mono ?_
    rintro e w1 ⟨rfl, hb1⟩
    have hw1 : Below W.heap.size W w1 := below_step (((Below.refl _ _).alloc (Nat.le_refl _) _).alloc (by simp) _) hb1 (by simp; omega)
    clear hA
    go_wp2
    go_ret2
    exact ⟨by rw [HU.out, HP.out]; rfl, hw1⟩
end Go.Proofs.Ytbcgokpamhgabaa

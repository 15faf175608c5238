/- Boards, positions and their sets of bits as plain functions. No program in sight. The contracts of the functions on boards and positions that the symmetries need. -/
import Derived.Test.YtbcgokpamhgabaaKb06
import Derived.Test.YtbcgokpamhgabaaKb03
import Derived.Test.YtbcgokpamhgabaaChecked
import Derived.Test.YtbcgokpamhgabaaKb01
import Derived.Tactics
import Derived.Tactics2
import Derived.WalkKit
import Derived.WalkSpells
import Derived.WalkLawsBesides
import Derived.Deep.QuietTactic
import Derived.BigQuiet
import Derived.BigGuardPart
import Derived.Lib.QuietBelow
import Derived.OwnWalk
import Derived.KernelRfl
import Derived.Test.YtbcgokpamhgabaaKb02
namespace Go.Proofs.Ytbcgokpamhgabaa
set_option linter.unusedVariables false

/-- A valid board: its width, its height, its holes. -/
structure BdOk (w h s : Nat) : Prop where
  w1 : 1 ≤ w
  w7 : w ≤ 7
  h1 : 1 ≤ h
  h7 : h ≤ 7
  s1 : 1 ≤ s
  s2 : s < 2 ^ (w * h)

/-- Is the board (width, height, holes) valid? -/
def boardB (b : Ln) : Bool := decide (1 ≤ b.f ∧ b.f ≤ 7 ∧ 1 ≤ b.o ∧ b.o ≤ 7 ∧ 1 ≤ b.t ∧ b.t.toNat < 2 ^ (b.f.toNat * b.o.toNat))
theorem boardB_nat {b : Ln} (h : boardB b = true) : ∃ w h s : Nat, b = ⟨w, h, s⟩ ∧ BdOk w h s := by
  obtain ⟨f, o, t⟩ := b
  simp only [boardB, decide_eq_true_eq] at h
  obtain ⟨h1, h2, h3, h4, h5, h6⟩ := h
  refine ⟨f.toNat, o.toNat, t.toNat, ?_, by omega, by omega, by omega, by omega, by omega, h6⟩
  rw [Ln.ext_iff']
  simp only
  omega
theorem boardB_of {w h s : Nat} (k : BdOk w h s) : boardB ⟨w, h, s⟩ = true := by
  obtain ⟨h1, h2, h3, h4, h5, h6⟩ := k
  simp only [boardB, decide_eq_true_eq, Int.toNat_natCast]
  refine ⟨by omega, by omega, by omega, by omega, by omega, h6⟩
theorem BdOk.area {w h s : Nat} (k : BdOk w h s) : 1 ≤ w * h ∧ w * h ≤ 49 :=
  ⟨Nat.mul_le_mul k.w1 k.h1, Nat.mul_le_mul k.w7 k.h7⟩
theorem BdOk.lt49 {w h s : Nat} (k : BdOk w h s) : s < 2 ^ 49 := Nat.lt_of_lt_of_le k.s2 (Nat.pow_le_pow_right (n := 2) (by omega) k.area.2)
theorem BdOk.b63 {w h s : Nat} (k : BdOk w h s) : B63 s := by
  have := k.lt49
  unfold B63
  omega

/-- Is p a position of the board? -/
def posB (b : Ln) (p : Int) : Bool := boardB b && (decide (0 ≤ p) && decide (p.toNat &&& b.t.toNat = p.toNat))
theorem posB_nat {w h s : Nat} {p : Int} (k : posB ⟨w, h, s⟩ p = true) : ∃ q : Nat, p = q ∧ q &&& s = q := by
  simp only [posB, Bool.and_eq_true, decide_eq_true_eq, Int.toNat_natCast] at k
  exact ⟨p.toNat, by omega, k.2.2⟩
theorem posB_board {b : Ln} {p : Int} (k : posB b p = true) : boardB b = true := by
  simp only [posB, Bool.and_eq_true] at k
  exact k.1
theorem posB_of {w h s q : Nat} (k : BdOk w h s) (hq : q &&& s = q) : posB ⟨w, h, s⟩ q = true := by
  simp [posB, boardB_of k, hq]
theorem posB_open {b : Ln} {p : Int} (k : posB b p = true) : ∃ w h s q : Nat, b = ⟨w, h, s⟩ ∧ p = q ∧ BdOk w h s ∧ q &&& s = q := by
  obtain ⟨w, h, s, rfl, hb⟩ := boardB_nat (posB_board k)
  obtain ⟨q, rfl, hq⟩ := posB_nat k
  exact ⟨w, h, s, q, rfl, rfl, hb, hq⟩
theorem posB_no {b : Ln} {p : Int} (h : boardB b = false) : posB b p = false := by simp [posB, h]

theorem pow_bounds {n : Nat} (h : n ≤ 49) : (1 : Int) ≤ 2 ^ n ∧ (2 : Int) ^ n ≤ 562949953421312 := by
  have e : ((2 : Int) ^ n) = ((2 ^ n : Nat) : Int) := by simp
  have h1 : 1 ≤ 2 ^ n := Nat.one_le_two_pow
  have h2 : 2 ^ n ≤ 2 ^ 49 := Nat.pow_le_pow_right (n := 2) (by omega) h
  rw [e]
  omega
theorem area_bounds {f o : Nat} (h0 : 1 ≤ f) (h1 : f ≤ 7) (h2 : 1 ≤ o) (h3 : o ≤ 7) : (1 : Int) ≤ (f : Int) * o ∧ (f : Int) * o ≤ 49 ∧ f * o ≤ 49 := by
  have a1 : 1 ≤ f * o := Nat.mul_le_mul h0 h2
  have a2 : f * o ≤ 49 := Nat.mul_le_mul h1 h3
  rw [← Int.natCast_mul]
  omega
theorem boardB_in {f o : Nat} {t : Int} (h0 : 1 ≤ f) (h1 : f ≤ 7) (h2 : 1 ≤ o) (h3 : o ≤ 7) : boardB ⟨f, o, t⟩ = inB t 1 (2 ^ (f * o) - 1) := by
  have e : ((2 : Int) ^ (f * o)) = ((2 ^ (f * o) : Nat) : Int) := by simp
  rw [Bool.eq_iff_iff, inB_iff, e]
  simp only [boardB, decide_eq_true_eq, Int.toNat_natCast]
  omega
theorem boardB_f {b : Ln} (h : inB b.f 1 7 = false) : boardB b = false := by
  rw [Bool.eq_false_iff] at *
  intro hb
  apply h
  simp only [boardB, decide_eq_true_eq] at hb
  rw [inB_iff]
  omega
theorem boardB_o {b : Ln} (h : inB b.o 1 7 = false) : boardB b = false := by
  rw [Bool.eq_false_iff] at *
  intro hb
  apply h
  simp only [boardB, decide_eq_true_eq] at hb
  rw [inB_iff]
  omega
end Go.Proofs.Ytbcgokpamhgabaa
namespace Go.Proofs.Ytbcgokpamhgabaa
set_option linter.unusedVariables false
open Go.RowKit Go.Sort

theorem hasBit_ (s k : Nat) (hs : B63 s) (hk : k < 64) (w : World) :
    Calls Try.prog 98 #[.int .i64 s, .int .i64 k] w fun e w' => e = .returned (.bool (s.testBit k)) ∧ w = w' := by
  have H := Lib.hid (bit_of s k hs)
  go_enter Try.func98, Try.ntmps98
  go_wp2
  go_ret
  exact ⟨ret_bool H.out, rfl⟩
theorem sBoardOk_ (b : Ln) (w : World) :
    Calls Try.prog 139 #[.agg #[.int .i64 b.f, .int .i64 b.o, .int .i64 b.t]] w fun e w' => e = .returned (.bool (boardB b)) ∧ Below w.heap.size w w' := by
  rcases Bool.eq_false_or_eq_true (inB b.f 1 7) with i1 | i1
  · rcases Bool.eq_false_or_eq_true (inB b.o 1 7) with i2 | i2
    · obtain ⟨f, o, t⟩ := b
      simp only at *
      have j1 := inB_iff.1 i1
      have j2 := inB_iff.1 i2
      obtain ⟨f, rfl⟩ := Int.eq_ofNat_of_zero_le (show 0 ≤ f by omega)
      obtain ⟨o, rfl⟩ := Int.eq_ofNat_of_zero_le (show 0 ≤ o by omega)
      obtain ⟨hm1, hm2, hm3⟩ := area_bounds (f := f) (o := o) (by omega) (by omega) (by omega) (by omega)
      obtain ⟨p1, p2⟩ := pow_bounds hm3
      have H := Lib.hid (boardB_in (f := f) (o := o) (t := t) (by omega) (by omega) (by omega) (by omega))
      have hc : ∀ (a : Addr) (p : Regrown) (W : World), a.block < W.heap.size → (grow (redrawn W p.d) p.os).cell? a = W.cell? a := fun a p W h => (below_regrown W p.d p.os).cell h
      go_enter Try.func139, Try.ntmps139
      go_wp2_with (go_at_call 111; refine (l01In_ _ _ _ _).mono ?_; rintro e w' ⟨rfl, rfl⟩)
      refine wp_region_quiet_below (by kernel_rfl) (by kernel_rfl) ?_
      repeat (go_big_quiet_step (first | (go_at_call 111; exact rg_same (l01In_ _ _ _ _))))
      refine wpQuiet_nil ?_
      intro w1 hw1
      obtain ⟨p1, hp1⟩ := hw1
      have hb1 := of_rg hp1
      clear hp1 p1 hc
      go_wp2
      go_ret
      exact ⟨ret_bool H.out.symm, below_step ((Below.refl _ _).alloc (Nat.le_refl _) _) hb1 (by simp)⟩
    · have H := Lib.hid (boardB_o i2)
      go_enter Try.func139, Try.ntmps139
      go_wp2_with (go_at_call 111; refine (l01In_ _ _ _ _).mono ?_; rintro e w' ⟨rfl, rfl⟩)
      go_ret
      exact ⟨ret_bool H.out.symm, (Below.refl _ _).alloc (Nat.le_refl _) _⟩
  · have H := Lib.hid (boardB_f i1)
    go_enter Try.func139, Try.ntmps139
    go_wp2_with (go_at_call 111; refine (l01In_ _ _ _ _).mono ?_; rintro e w' ⟨rfl, rfl⟩)
    go_ret
    exact ⟨ret_bool H.out.symm, (Below.refl _ _).alloc (Nat.le_refl _) _⟩
theorem iBoardOk_ (b : Ln) (w : World) :
    Calls Try.prog 103 #[.agg #[.int .i64 b.f, .int .i64 b.o, .int .i64 b.t]] w fun e w' => e = .returned (.bool (boardB b)) ∧ Below w.heap.size w w' := by
  have hc : ∀ (a : Addr) (p : Regrown) (W : World), a.block < W.heap.size → (grow (redrawn W p.d) p.os).cell? a = W.cell? a := fun a p W h => (below_regrown W p.d p.os).cell h
  rcases Bool.eq_false_or_eq_true (inB b.f 1 7) with i1 | i1
  · rcases Bool.eq_false_or_eq_true (inB b.o 1 7) with i2 | i2
    · obtain ⟨f, o, t⟩ := b
      simp only at *
      have j1 := inB_iff.1 i1
      have j2 := inB_iff.1 i2
      obtain ⟨f, rfl⟩ := Int.eq_ofNat_of_zero_le (show 0 ≤ f by omega)
      obtain ⟨o, rfl⟩ := Int.eq_ofNat_of_zero_le (show 0 ≤ o by omega)
      obtain ⟨hm1, hm2, hm3⟩ := area_bounds (f := f) (o := o) (by omega) (by omega) (by omega) (by omega)
      obtain ⟨p1, p2⟩ := pow_bounds hm3
      have H := Lib.hid (boardB_in (f := f) (o := o) (t := t) (by omega) (by omega) (by omega) (by omega))
      go_enter Try.func103, Try.ntmps103
      go_wp2_with fail
      refine wp_region_quiet_below (by kernel_rfl) (by kernel_rfl) ?_
      repeat (go_big_quiet_step (first | (go_at_call 120; first | exact rg_same (is_ (within_ _ _ _ _) i1) | exact rg_same (is_ (within_ _ _ _ _) i2) | exact rg_same (within_ _ _ _ _))))
      refine wpQuiet_nil ?_
      intro w1 hw1
      obtain ⟨p1, hp1⟩ := hw1
      have hb1 := of_rg hp1
      clear hp1 p1 hc
      go_wp2
      go_ret
      exact ⟨ret_bool H.out.symm, below_step ((Below.refl _ _).alloc (Nat.le_refl _) _) hb1 (by simp)⟩
    · have H := Lib.hid (boardB_o i2)
      go_enter Try.func103, Try.ntmps103
      go_wp2_with fail
      refine wp_region_quiet_below (by kernel_rfl) (by kernel_rfl) ?_
      repeat (go_big_quiet_step (first | (go_at_call 120; first | exact rg_same (is_ (within_ _ _ _ _) i1) | exact rg_same (is_ (within_ _ _ _ _) i2))))
      refine wpQuiet_nil ?_
      intro w1 hw1
      obtain ⟨p1, hp1⟩ := hw1
      have hb1 := of_rg hp1
      clear hp1 p1 hc
      go_wp2
      go_ret
      exact ⟨ret_bool H.out.symm, below_step ((Below.refl _ _).alloc (Nat.le_refl _) _) hb1 (by simp)⟩
  · have H := Lib.hid (boardB_f i1)
    go_enter Try.func103, Try.ntmps103
    go_wp2_with fail
    refine wp_region_quiet_below (by kernel_rfl) (by kernel_rfl) ?_
    repeat (go_big_quiet_step (first | (go_at_call 120; exact rg_same (is_ (within_ _ _ _ _) i1))))
    refine wpQuiet_nil ?_
    intro w1 hw1
    obtain ⟨p1, hp1⟩ := hw1
    have hb1 := of_rg hp1
    clear hp1 p1 hc
    go_wp2
    go_ret
    exact ⟨ret_bool H.out.symm, below_step ((Below.refl _ _).alloc (Nat.le_refl _) _) hb1 (by simp)⟩
end Go.Proofs.Ytbcgokpamhgabaa

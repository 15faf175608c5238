/- The contract of math/bits.OnesCount at numbers of 16 bits. -/
import Derived.Test.YtbcgokpamhgabaaChecked
import Derived.Test.YtbcgokpamhgabaaMem
import Derived.Tactics
import Derived.Tactics2
import Derived.WalkKit
import Derived.WalkSpells
import Derived.WalkLawsBesides
import Derived.Deep.QuietTactic
import Derived.BigQuiet
import Derived.BigGuardPart
import Derived.Lib.QuietBelow
import Derived.OwnWalk
import Derived.KernelRfl
import Derived.Test.YtbcgokpamhgabaaOnesP
set_option linter.unusedVariables false
set_option maxRecDepth 20000
namespace Go.Proofs.Ytbcgokpamhgabaa
open Go.RowKit Go.Sort

theorem ofInt_u64 (a : Nat) (ha : B63 a) : (BitVec.ofInt 64 (a : Int)).toNat = a := ofInt_i64 a ha
theorem u64_and (a b : Nat) (ha : B63 a) (hb : B63 b) : bits .and .u64 (a : Int) (b : Int) = ((a &&& b : Nat) : Int) := by
  have hx := b63_and (b := b) ha
  unfold B63 at hx
  show IntKind.u64.wrap ((BitVec.ofInt 64 (a : Int) &&& BitVec.ofInt 64 (b : Int)).toNat : Int) = _
  rw [BitVec.toNat_and, ofInt_i64 a ha, ofInt_i64 b hb]
  unfold IntKind.wrap IntKind.signed IntKind.bits
  simp only [Bool.false_and, Bool.false_eq_true, if_false]
  omega
theorem u64_mask1 (x : Nat) (hx : x < 65536) : bits .and .u64 (x : Int) 6148914691236517205 = ((x &&& 21845 : Nat) : Int) := by
  rw [show (6148914691236517205 : Int) = ((6148914691236517205 : Nat) : Int) from rfl, u64_and _ _ (b63_le (Nat.le_of_lt hx) (by unfold B63; omega)) (by unfold B63; omega), and_small hx]
theorem u64_mask2 (x : Nat) (hx : x < 65536) : bits .and .u64 (x : Int) 3689348814741910323 = ((x &&& 13107 : Nat) : Int) := by
  rw [show (3689348814741910323 : Int) = ((3689348814741910323 : Nat) : Int) from rfl, u64_and _ _ (b63_le (Nat.le_of_lt hx) (by unfold B63; omega)) (by unfold B63; omega), and_small hx]
theorem u64_mask4 (x : Nat) (hx : x < 65536) : bits .and .u64 (x : Int) 1085102592571150095 = ((x &&& 3855 : Nat) : Int) := by
  rw [show (1085102592571150095 : Int) = ((1085102592571150095 : Nat) : Int) from rfl, u64_and _ _ (b63_le (Nat.le_of_lt hx) (by unfold B63; omega)) (by unfold B63; omega), and_small hx]
theorem u64_in (x : Nat) (hx : x < 1000000) : IntKind.u64.wrap (x : Int) = (x : Int) := by
  unfold IntKind.wrap IntKind.signed IntKind.bits
  simp only [Bool.false_and, Bool.false_eq_true, if_false]
  omega
theorem onesCount64_ (p : Nat) (hp : p < 65536) (w : World) :
    Calls Try.prog 167 #[.int .u64 p] w fun e w' => e = .returned (.int .i64 (popc p : Nat)) ∧ w = w' := by
  have l1 := x1_lt hp
  have l2 := x2_lt hp
  have HR := Lib.hid (pop_last hp)
  obtain ⟨h, hh⟩ : ∃ h : Nat, h = p / 2 := ⟨_, rfl⟩
  obtain ⟨n1, hn1⟩ : ∃ n : Nat, n = h &&& 21845 := ⟨_, rfl⟩
  obtain ⟨n2, hn2⟩ : ∃ n : Nat, n = p &&& 21845 := ⟨_, rfl⟩
  obtain ⟨x1, hx1⟩ : ∃ n : Nat, n = x1Of p := ⟨_, rfl⟩
  obtain ⟨x2, hx2⟩ : ∃ n : Nat, n = x2Of p := ⟨_, rfl⟩
  obtain ⟨n3, hn3⟩ : ∃ n : Nat, n = x1 / 4 &&& 13107 := ⟨_, rfl⟩
  obtain ⟨n4, hn4⟩ : ∃ n : Nat, n = x1 &&& 13107 := ⟨_, rfl⟩
  obtain ⟨y, hy⟩ : ∃ n : Nat, n = x2 / 16 + x2 := ⟨_, rfl⟩
  obtain ⟨x3, hx3⟩ : ∃ n : Nat, n = y &&& 3855 := ⟨_, rfl⟩
  obtain ⟨x4, hx4⟩ : ∃ n : Nat, n = x3 + x3 / 256 := ⟨_, rfl⟩
  have l3 : x3 ≤ 3855 := by rw [hx3]; exact Nat.and_le_right
  have e1 : n1 + n2 = x1 := by rw [hn1, hn2, hx1, x1Of, hh]
  have e2 : n3 + n4 = x2 := by rw [hn3, hn4, hx2, x2Of, hx1]
  have A0 : (p : Int) / 2 = (h : Int) := by omega
  have A1 : bits .and .u64 (h : Int) 6148914691236517205 = (n1 : Int) := by rw [u64_mask1 h (by omega), hn1]
  have A2 : bits .and .u64 (p : Int) 6148914691236517205 = (n2 : Int) := by rw [u64_mask1 p hp, hn2]
  have A3 : IntKind.u64.wrap ((n1 : Int) + (n2 : Int)) = (x1 : Int) := by rw [← Int.natCast_add, e1]; exact u64_in _ (by omega)
  obtain ⟨q, hq⟩ : ∃ q : Nat, q = x1 / 4 := ⟨_, rfl⟩
  have B0 : (x1 : Int) / 4 = (q : Int) := by omega
  have B1 : bits .and .u64 (q : Int) 3689348814741910323 = (n3 : Int) := by rw [u64_mask2 q (by omega), hn3, hq]
  have B2 : bits .and .u64 (x1 : Int) 3689348814741910323 = (n4 : Int) := by rw [u64_mask2 x1 (by omega), hn4]
  have B3 : IntKind.u64.wrap ((n3 : Int) + (n4 : Int)) = (x2 : Int) := by rw [← Int.natCast_add, e2]; exact u64_in _ (by omega)
  have C1 : IntKind.u64.wrap ((x2 : Int) / 16 + (x2 : Int)) = (y : Int) := by rw [show (x2 : Int) / 16 + (x2 : Int) = (y : Int) by omega]; exact u64_in _ (by omega)
  have C2 : bits .and .u64 (y : Int) 1085102592571150095 = (x3 : Int) := by rw [u64_mask4 y (by omega), hx3]
  have D1 : IntKind.u64.wrap ((x3 : Int) + (x3 : Int) / 256) = (x4 : Int) := by rw [show (x3 : Int) + (x3 : Int) / 256 = (x4 : Int) by omega]; exact u64_in _ (by omega)
  have D2 : IntKind.u64.wrap ((x4 : Int) + (x4 : Int) / 65536) = (x4 : Int) := by rw [show (x4 : Int) + (x4 : Int) / 65536 = (x4 : Int) by omega]; exact u64_in _ (by omega)
  have D3 : IntKind.u64.wrap ((x4 : Int) + (x4 : Int) / 4294967296) = (x4 : Int) := by rw [show (x4 : Int) + (x4 : Int) / 4294967296 = (x4 : Int) by omega]; exact u64_in _ (by omega)
  have D4 : IntKind.i64.wrap (x4 : Int) = (x4 : Int) := IntWalk.i64_in _ (by omega)
  have hm : x4 &&& 127 = x4 % 128 := Nat.and_two_pow_sub_one_eq_mod x4 7
  have E1 : bits .and .i64 (x4 : Int) 127 = ((popc p : Nat) : Int) := by
    rw [show (127 : Int) = ((127 : Nat) : Int) from rfl, i64_and _ _ (by unfold B63; omega) (by unfold B63; omega), hm, ← HR.out, lastStep, ← hx2]
    rw [← hy, ← hx3, ← hx4]
  clear hh hn1 hn2 hx1 hx2 hn3 hn4 hy hx3 hx4 e1 e2 hq hm
  go_enter Try.func167, Try.ntmps167
  go_wp2
  go_ret
  exact ⟨rfl, rfl⟩
theorem onesCount_ (p : Nat) (hp : p < 65536) (w : World) :
    Calls Try.prog 157 #[.int .u64 p] w fun e w' => e = .returned (.int .i64 (popc p : Nat)) ∧ w = w' := by
  go_enter Try.func157, Try.ntmps157
  go_wp2_with (go_at_call 167; refine (onesCount64_ p hp _).mono ?_; rintro e w' ⟨rfl, rfl⟩)
  go_ret
  exact ⟨rfl, rfl⟩
end Go.Proofs.Ytbcgokpamhgabaa

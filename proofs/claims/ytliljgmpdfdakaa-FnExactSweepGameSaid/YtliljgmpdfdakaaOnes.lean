/- The contract of math/bits.OnesCount at numbers of 16 bits. -/
import Derived.Test.YtliljgmpdfdakaaChecked
import Derived.Test.YtliljgmpdfdakaaMem
import Derived.Tactics
import Derived.Tactics2
import Derived.WalkKit
import Derived.WalkSpells
import Derived.WalkLawsBesides
import Derived.Deep.QuietTactic
import Derived.BigQuiet
import Derived.BigGuardPart
import Derived.Lib.QuietBelow
import Derived.OwnWalk
import Derived.KernelRfl
import Derived.Test.YtliljgmpdfdakaaOnesP
set_option linter.unusedVariables false
set_option maxRecDepth 20000
namespace Go.Proofs.Ytliljgmpdfdakaa
open Go.RowKit Go.Sort

theorem ofInt_u64 (a : Nat) (ha : B63 a) : (BitVec.ofInt 64 (a : Int)).toNat = a := ofInt_i64 a ha
theorem u64_and (a b : Nat) (ha : B63 a) (hb : B63 b) : bits .and .u64 (a : Int) (b : Int) = ((a &&& b : Nat) : Int) := by
  have hx := b63_and (b := b) ha
  unfold B63 at hx
  show IntKind.u64.wrap ((BitVec.ofInt 64 (a : Int) &&& BitVec.ofInt 64 (b : Int)).toNat : Int) = _
  rw [BitVec.toNat_and, ofInt_i64 a ha, ofInt_i64 b hb]
  unfold IntKind.wrap IntKind.signed IntKind.bits
  simp only [Bool.false_and, Bool.false_eq_true, if_false]
  omega
theorem u64_mask1 (x : Nat) (hx : x < 65536) : bits .and .u64 (x : Int) 6148914691236517205 = ((x &&& 21845 : Nat) : Int) := by
  rw [show (6148914691236517205 : Int) = ((6148914691236517205 : Nat) : Int) from rfl, u64_and _ _ (b63_le (Nat.le_of_lt hx) (by unfold B63; omega)) (by unfold B63; omega), and_small hx]
theorem u64_mask2 (x : Nat) (hx : x < 65536) : bits .and .u64 (x : Int) 3689348814741910323 = ((x &&& 13107 : Nat) : Int) := by
  rw [show (3689348814741910323 : Int) = ((3689348814741910323 : Nat) : Int) from rfl, u64_and _ _ (b63_le (Nat.le_of_lt hx) (by unfold B63; omega)) (by unfold B63; omega), and_small hx]
theorem u64_mask4 (x : Nat) (hx : x < 65536) : bits .and .u64 (x : Int) 1085102592571150095 = ((x &&& 3855 : Nat) : Int) := by
  rw [show (1085102592571150095 : Int) = ((1085102592571150095 : Nat) : Int) from rfl, u64_and _ _ (b63_le (Nat.le_of_lt hx) (by unfold B63; omega)) (by unfold B63; omega), and_small hx]
theorem u64_in (x : Nat) (hx : x < 1000000) : IntKind.u64.wrap (x : Int) = (x : Int) := by
  unfold IntKind.wrap IntKind.signed IntKind.bits
  simp only [Bool.false_and, Bool.false_eq_true, if_false]
  omega
end Go.Proofs.Ytliljgmpdfdakaa

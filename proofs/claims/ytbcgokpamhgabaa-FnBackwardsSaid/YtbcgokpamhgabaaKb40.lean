/- The contracts of BackOf, CountBack, StartsFor, FinalsOf, SolvableHoles, FullBut. -/
import Derived.Test.YtbcgokpamhgabaaChecked
import Derived.Test.YtbcgokpamhgabaaKb01
import Derived.Tactics
import Derived.Tactics2
import Derived.WalkKit
import Derived.WalkSpells
import Derived.WalkLawsBesides
import Derived.Deep.QuietTactic
import Derived.BigQuiet
import Derived.BigGuardPart
import Derived.Lib.QuietBelow
import Derived.OwnWalk
import Derived.KernelRfl
import Derived.BigRegion
import Derived.RegionTactic
import Derived.Deep.RegionWith
import Derived.Test.YtbcgokpamhgabaaKb34
import Derived.Test.YtbcgokpamhgabaaKb35
import Derived.Test.YtbcgokpamhgabaaKb19
import Derived.Test.YtbcgokpamhgabaaKb26
import Derived.Test.YtbcgokpamhgabaaKb39
namespace Go.Proofs.Ytbcgokpamhgabaa
set_option linter.unusedVariables false
set_option maxRecDepth 20000
open Go.RowKit Go.Sort

set_option maxHeartbeats 1000000 in
theorem spreadHas_ (bs : List Bool) (n : Nat) (hnn : bs.length = n) (A : Option Addr) (c : Nat) (p : Nat) (r : Bool) (hr : hasB bs p = r) (hn : n ≤ 65536) (w : World) (rd : Rd w w.heap.size A (bools bs)) :
    Calls Try.prog 137 #[.slice A n c, .int .i64 p] w fun e w' => e = .returned (.bool r) ∧ Below w.heap.size w w' := by
  subst hnn
  rcases Bool.eq_false_or_eq_true (decide ((p : Int) < bs.length)) with h1 | h1
  · have h1' := of_decide_eq_true h1
    have hq : p < bs.length := by omega
    have HR : Hid (bs.getD p false = r) := Lib.hid (by rw [← hr, hasB, h1, decide_eq_true (by omega), Int.toNat_natCast]; simp)
    obtain ⟨b, off, rfl, hbl, x0⟩ := rd_bool rd hq
    obtain ⟨bv, hbv⟩ : ∃ bv, bs.getD p false = bv := ⟨_, rfl⟩
    rw [hbv] at x0 HR
    clear hbv hr rd
    go_enter Try.func137, Try.ntmps137
    go_wp2
    go_ret
    exact ⟨ret_bool HR.out, Below.refl _ _⟩
  · have HR : Hid (r = false) := Lib.hid (by rw [← hr, hasB, h1]; simp)
    have h1' := of_decide_eq_false h1
    go_enter Try.func137, Try.ntmps137
    go_wp2
    go_ret
    exact ⟨ret_bool HR.out.symm, Below.refl _ _⟩
set_option maxHeartbeats 1000000 in
theorem hasN_ (xs : List Nat) (n : Nat) (hn : xs.length = n) (A : Option Addr) (c : Nat) (q : Nat) (r : Bool) (hr : decide (q ∈ xs) = r) (hm : n ≤ 1048576) (W : World) (rd : Rd W W.heap.size A (ints (natL xs))) :
    Calls Try.prog 65 #[.slice A n c, .int .i64 q] W fun e w' => e = .returned (.bool r) ∧ W = w' := by
  cases r with
  | true => exact has_ xs n hn A c q (of_decide_eq_true hr) hm W rd
  | false =>
    have HN := Lib.hid hn
    have HQ : Hid (∀ k x, xs[k]? = some x → x ≠ q) := Lib.hid fun k x hx e => of_decide_eq_false hr (e ▸ List.mem_of_getElem? hx)
    clear hn hr
    go_enter Try.func65, Try.ntmps65
    go_wp2
    go_loop [5] (fun kv => ∃ k : Nat, k ≤ n ∧ kv = .int .i64 k) (fun kv => n - (intOf kv).toNat)
    case atStart => exact ⟨0, Nat.zero_le _, rfl⟩
    case round =>
      obtain ⟨k, hk, rfl⟩ := hrel
      by_cases hkn : k < n
      · have hx : xs[k]? = some (xs[k]'(by rw [HN.out]; exact hkn)) := List.getElem?_eq_getElem _
        generalize xs[k]'(by rw [HN.out]; exact hkn) = x at hx
        obtain ⟨bb, off, rfl, hbb, x0⟩ := rd_nat rd hx
        have hne := HQ.out k x hx
        have hd : decide ((x : Int) = (q : Int)) = false := by simp; omega
        clear hx rd
        go_wp2
        go_round
        case rel => exact ⟨k + 1, by omega, by go_num⟩
        case measure => simp [intOf]; omega
      · clear rd
        go_wp2
        go_ret
        exact ⟨rfl, rfl⟩
section
variable (w h s : Nat) (hb : BdOk w h s)
include hb
theorem bit63 {k : Nat} (hk : s.testBit k = true) : k < w * h ∧ k < 49 := by
  have h1 := bit_lt hb.s2 hk
  have := hb.area
  omega
set_option maxHeartbeats 1000000 in
theorem iFullBut_ (k : Nat) (hk : s.testBit k = true) (W : World) :
    Calls Try.prog 138 #[.agg #[.int .i64 w, .int .i64 h, .int .i64 s], .int .i64 k] W fun e w' => e = .returned (.int .i64 (fullB s k : Nat)) ∧ Below W.heap.size W w' := by
  obtain ⟨h1, h49⟩ := bit63 w h s hb hk
  have hH : holeB ⟨w, h, s⟩ k = true := by rw [holeB_nat hb, decide_eq_true h1, hk]; rfl
  have HA := Lib.hid (i64_andNot s (pow2 k) hb.b63 (b63_pow2 (by omega)))
  have HP := Lib.hid (i64_pow k (by omega))
  have hki : I64 (k : Int) := by constructor <;> omega
  have hk0 : (0 : Int) ≤ (k : Int) := by omega
  clear h1
  go_enter Try.func138, Try.ntmps138
  go_wp2_with fail
  refine (is_ (iHasHole_ ⟨w, h, s⟩ k hki _) hH).mono ?_
  rintro e w1 ⟨rfl, hb1⟩
  obtain ⟨hc, hf⟩ := bcell hb1
  have z0 : W.heap.size < w1.heap.size := by have := hb1.size; (try simp at this); omega
  have hw1 : Below W.heap.size W w1 := below_step ((Below.refl _ _).alloc (Nat.le_refl _) _) hb1 (by (try simp))
  have c0 : w1.cell? ⟨W.heap.size, 0, none⟩ = some (.int .i64 w) := by rw [hc _ _ (by simp)]; simp [go_sem]
  have c1 : w1.cell? ⟨W.heap.size, 1, none⟩ = some (.int .i64 h) := by rw [hc _ _ (by simp)]; simp [go_sem]
  have c2 : w1.cell? ⟨W.heap.size, 2, none⟩ = some (.int .i64 s) := by rw [hc _ _ (by simp)]; simp [go_sem]
  have pf := HP.out
  have a1 := HA.out
  clear hc hf hb1 hH hk
  go_wp2
  first | go_region | skip
  go_wp2
  go_ret
  exact ⟨rfl, hw1.drew⟩
set_option maxHeartbeats 1000000 in
theorem sFullBut_ (k : Nat) (hk : s.testBit k = true) (W : World) :
    Calls Try.prog 73 #[.agg #[.int .i64 w, .int .i64 h, .int .i64 s], .int .i64 k] W fun e w' => e = .returned (.int .i64 (fullB s k : Nat)) ∧ Below W.heap.size W w' := by
  obtain ⟨h1, h49⟩ := bit63 w h s hb hk
  have hH : holeB ⟨w, h, s⟩ k = true := by rw [holeB_nat hb, decide_eq_true h1, hk]; rfl
  have HT := Lib.hid (take_bit hb.b63 hk)
  have HP := Lib.hid (i64_pow k (by omega))
  have HI : Hid (((fullB s k : Nat) : Int) ≤ 9223372036854775807) := Lib.hid (by have := b63_adiff (b := pow2 k) hb.b63; unfold B63 at this; show ((adiff s (pow2 k) : Nat) : Int) ≤ _; omega)
  have hki : I64 (k : Int) := by constructor <;> omega
  have hk0 : (0 : Int) ≤ (k : Int) := by omega
  clear h1
  go_enter Try.func73, Try.ntmps73
  go_wp2_with fail
  refine (is_ (sHasHole_ ⟨w, h, s⟩ k hki _) hH).mono ?_
  rintro e w1 ⟨rfl, hb1⟩
  obtain ⟨hc, hf⟩ := bcell hb1
  have z0 : W.heap.size < w1.heap.size := by have := hb1.size; (try simp at this); omega
  have hw1 : Below W.heap.size W w1 := below_step ((Below.refl _ _).alloc (Nat.le_refl _) _) hb1 (by (try simp))
  have c0 : w1.cell? ⟨W.heap.size, 0, none⟩ = some (.int .i64 w) := by rw [hc _ _ (by simp)]; simp [go_sem]
  have c1 : w1.cell? ⟨W.heap.size, 1, none⟩ = some (.int .i64 h) := by rw [hc _ _ (by simp)]; simp [go_sem]
  have c2 : w1.cell? ⟨W.heap.size, 2, none⟩ = some (.int .i64 s) := by rw [hc _ _ (by simp)]; simp [go_sem]
  have pf := HP.out
  have hW1 : IntKind.i64.wrap ((s : Int) - (pow2 k : Nat)) = (fullB s k : Nat) := by
    rw [HT.out.1, IntKind.wrap_i64]; have := HI.out; unfold fullB at *; omega
  clear hc hf hb1 hH hk
  go_wp2
  first | go_region | skip
  go_wp2
  go_ret
  exact ⟨rfl, hw1.drew⟩
end
end Go.Proofs.Ytbcgokpamhgabaa

/- The contracts of the helpers of the laws: slices of numbers; marks. The contracts of CommonOf. The contract of laws.sameInts, at two rows that are the same. -/
import Derived.Test.YtbcgokpamhgabaaChecked
import Derived.Test.YtbcgokpamhgabaaMem
import Derived.Tactics
import Derived.Tactics2
import Derived.WalkKit
import Derived.WalkSpells
import Derived.WalkLawsBesides
import Derived.Deep.QuietTactic
import Derived.BigQuiet
import Derived.BigGuardPart
import Derived.Lib.QuietBelow
import Derived.OwnWalk
import Derived.KernelRfl
import Derived.Test.YtbcgokpamhgabaaHelp
import Derived.Test.YtbcgokpamhgabaaComP
import Derived.Test.YtbcgokpamhgabaaChecked
import Derived.Test.YtbcgokpamhgabaaMem
import Derived.Tactics
import Derived.Tactics2
import Derived.WalkKit
import Derived.WalkSpells
import Derived.WalkLawsBesides
import Derived.Deep.QuietTactic
import Derived.BigQuiet
import Derived.BigGuardPart
import Derived.Lib.QuietBelow
import Derived.OwnWalk
import Derived.KernelRfl
set_option linter.unusedVariables false
set_option maxRecDepth 20000
namespace Go.Proofs.Ytbcgokpamhgabaa
open Go.RowKit Go.Sort


set_option maxHeartbeats 1000000 in
theorem iCommonOf_ (a b : List Int) (A B : Option Addr) (ca cb : Nat) (w : World) (ha : Rd w w.heap.size A (ints a)) (hb : Rd w w.heap.size B (ints b)) (hna : a.length ≤ 1048576) (hnb : b.length ≤ 1048576) :
    Calls Try.prog 84 #[.slice A a.length ca, .slice B b.length cb] w (GivesSlice w 3 1 (common a b).length (ints (common a b))) := by
  obtain ⟨i0, hi, hz0, hz1, hz2⟩ := info_parts infoInt
  go_enter Try.func84, Try.ntmps84
  go_wp2
  go_loopw [5, 6, 7] (fun v i k wr => ∃ (i' k' f : Nat) (acc : List Int) (V : Option Addr) (c : Nat), i' ≤ a.length ∧ k' ≤ b.length ∧ acc.length ≤ i' ∧ a.length - i' + (b.length - k') ≤ f ∧ comF a b f i' k' acc = common a b ∧ i = .int .i64 i' ∧ k = .int .i64 k' ∧
      v = .slice V acc.length c ∧ wr.ownsRow w.heap.size 3 1 (.slice V acc.length c) acc.length (ints acc) ∧ Below w.heap.size w wr) (fun _ i k _ => a.length - (intOf i).toNat + (b.length - (intOf k).toNat))
  case atStart => exact ⟨0, 0, a.length + b.length, [], _, _, by omega, by omega, by simp, by omega, rfl, rfl, rfl, rfl, World.ownsRow_lit w #[] 0 (Nat.le_refl _) (by simp [maxLen]) rfl, (Below.refl _ _).alloc (Nat.le_refl _) _⟩
  case round =>
    obtain ⟨i, k, f, acc, V, c, hik, hkk, hacc, hf, hcom, rfl, rfl, rfl, hown, hw⟩ := hrel
    have HC := Lib.hid hcom
    clear hcom
    by_cases hlti : i < a.length
    · by_cases hltk : k < b.length
      · obtain ⟨f, rfl⟩ : ∃ g, f = g + 1 := ⟨f - 1, by omega⟩
        obtain ⟨ba, oa, x, rfl, hba, hx, hxc⟩ := (ha.below hw).int hlti
        obtain ⟨bb, ob, y, rfl, hbb, hy, hyc⟩ := (hb.below hw).int hltk
        clear ha hb
        rcases Int.lt_trichotomy x y with hxy | hxy | hxy
        · have HN := Lib.hid ((comF_lt (n := f) (acc := acc) hx hy hxy).symm.trans HC.out)
          clear hx hy HC
          have HO := Lib.hid hown
          clear hown
          go_wp2_with fail
          go_quiet (fail)
          go_wp2
          go_roundw
          case rel => exact ⟨i + 1, k, f, acc, V, c, by omega, by omega, by omega, by omega, HN.out, by go_num, rfl, rfl, HO.out, below_drewN hw _⟩
          case measure => simp [intOf]; omega
        · subst hxy
          have HN := Lib.hid ((comF_eq (n := f) (acc := acc) hx hy).symm.trans HC.out)
          clear hx hy HC
          have dxx : decide (x < x) = false := by simp
          have hlen : acc.length ≤ 1048576 := by omega
          rcases last_cases acc with h | ⟨m, z, h⟩
          · subst h
            have HA := Lib.hid (addNew_nil x)
            simp only [List.length_nil] at *
            go_wp2_with fail
            go_quiet (fail)
            go_wp2_with fail
            go_quiet (fail)
            go_wp2_with fail
            go_quiet (fail)
            go_wp2_with (first
              | (at_builtin; refine wpList_append_own _ rfl (.tmp 35) (.tmp 40) 69 rfl w.heap.size 3 i0 (.int .i64 0) 1 8 Try.underlying69 hi hz0 hz1 hz2 rfl (by decide) _ _ _ rfl (by exact World.ownsRow.alloc (own_drewN hown _) _) ⟨wr.heap.size, 0, none⟩ 1 1 [.int .i64 x] rfl rfl (by exact cell_one_new _ _ _) (by intro u hu; simp at hu; subst hu; rfl) (by unfold maxLen; omega) (by omega) (by have := hw.size; simp; omega) ?_; intro v' w1 hown' hgrow hnil))
            have hw1 : Below w.heap.size w w1 := (((below_drewN hw _).alloc (by simpa using hw.size) _).grown hgrow (by have := hw.size; simp; omega) (fun g hg => (hown.lt g hg).1))
            obtain ⟨g, cap, hv, _⟩ := hown'.form (by omega)
            subst hv
            clear hown hgrow hnil
            go_roundw
            case rel => exact ⟨i + 1, k + 1, f, [x], _, _, by omega, by omega, by simp, by omega, by rw [← HA.out]; exact HN.out, by go_num, by go_num, rfl, hown', hw1⟩
            case measure => simp [intOf]; omega
          · subst h
            have hm : (m ++ [z]).length = m.length + 1 := by simp
            rw [hm] at hown hacc hlen
            obtain ⟨g, cap, hv, _⟩ := hown.form (by omega)
            injection hv with hv1 hv2 hv3
            subst hv1 hv3
            obtain ⟨z', hz', hzc, _⟩ := own_at1 hown (show m.length < m.length + 1 by omega)
            have hzz : z' = z := by simp at hz'; exact hz'.symm
            subst hzz
            clear hz'
            rcases Bool.eq_false_or_eq_true (z' == x) with hzx | hzx
            · have HA := Lib.hid (show addNew (m ++ [z']) x = m ++ [z'] from addNew_same' (by simpa using hzx))
              have hne : (z' != x) = false := by simpa using hzx
              have HH := Lib.hid hm
              clear hm
              have hg0 : ((m.length : Int) + 1 == 0) = false := by simp; omega
              have hi0 : (0 : Int) ≤ (m.length : Int) := by omega
              have hi1 : (m.length : Int) < (m.length : Int) + 1 := by omega
              have hwr : IntKind.i64.wrap (m.length : Int) = (m.length : Int) := IntWalk.i64_in _ (by omega)
              go_wp2_with fail
              go_quiet (fail)
              go_wp2_with fail
              go_quiet (fail)
              go_wp2_with fail
              go_quiet (fail)
              clear hwr
              go_wp2
              go_roundw
              case rel => exact ⟨i + 1, k + 1, f, m ++ [z'], _, _, by omega, by omega, by rw [HH.out]; omega, by omega, by rw [← HA.out]; exact HN.out, by go_num, by go_num, by rw [HH.out], by rw [HH.out]; exact hown, below_drewN hw _⟩
              case measure => simp [intOf]; omega
            · have HA := Lib.hid (show addNew (m ++ [z']) x = m ++ [z'] ++ [x] from addNew_other (by simpa using hzx))
              have hne : (z' != x) = true := by simpa using hzx
              have HH := Lib.hid hm
              clear hm
              have hg0 : ((m.length : Int) + 1 == 0) = false := by simp; omega
              have hi0 : (0 : Int) ≤ (m.length : Int) := by omega
              have hi1 : (m.length : Int) < (m.length : Int) + 1 := by omega
              have hwr : IntKind.i64.wrap (m.length : Int) = (m.length : Int) := IntWalk.i64_in _ (by omega)
              go_wp2_with fail
              go_quiet (fail)
              go_wp2_with fail
              go_quiet (fail)
              go_wp2_with fail
              go_quiet (fail)
              clear hwr
              go_wp2_with (first
                | (at_builtin; refine wpList_append_own _ rfl (.tmp 35) (.tmp 40) 69 rfl w.heap.size 3 i0 (.int .i64 0) 1 8 Try.underlying69 hi hz0 hz1 hz2 rfl (by decide) _ _ _ rfl (by exact World.ownsRow.alloc (own_drewN hown _) _) ⟨wr.heap.size, 0, none⟩ 1 1 [.int .i64 x] rfl rfl (by exact cell_one_new _ _ _) (by intro u hu; simp at hu; subst hu; rfl) (by unfold maxLen; omega) (by omega) (by have := hw.size; simp; omega) ?_; intro v' w1 hown' hgrow hnil))
              have hw1 : Below w.heap.size w w1 := (((below_drewN hw _).alloc (by simpa using hw.size) _).grown hgrow (by have := hw.size; simp; omega) (fun g hg => (hown.lt g hg).1))
              obtain ⟨g', cap', hv, _⟩ := hown'.form (by omega)
              subst hv
              clear hown hgrow hnil
              go_roundw
              case rel => exact ⟨i + 1, k + 1, f, m ++ [z'] ++ [x], some ⟨g', 0, none⟩, cap', by omega, by omega, by simp; omega, by omega, by rw [← HA.out]; exact HN.out, by go_num, by go_num, by simp, by simpa [ints] using hown', hw1⟩
              case measure => simp [intOf]; omega
        · have HN := Lib.hid ((comF_gt (n := f) (acc := acc) hx hy hxy).symm.trans HC.out)
          clear hx hy HC
          have HO := Lib.hid hown
          clear hown
          have dxy : decide (x < y) = false := by simp; omega
          go_wp2_with fail
          go_quiet (fail)
          go_wp2_with fail
          go_quiet (fail)
          go_wp2
          go_roundw
          case rel => exact ⟨i, k + 1, f, acc, V, c, by omega, by omega, by omega, by omega, HN.out, rfl, by go_num, rfl, HO.out, below_drewN hw _⟩
          case measure => simp [intOf]; omega
      · go_wp2
        go_ret
        have e := HC.out
        rw [comF_end (by omega)] at e
        subst e
        exact ⟨_, _, rfl, hown, hw⟩
    · go_wp2
      go_ret
      have e := HC.out
      rw [comF_end (by omega)] at e
      subst e
      exact ⟨_, _, rfl, hown, hw⟩
set_option maxHeartbeats 1000000 in
theorem sameInts_ (xs : List Int) (n : Nat) (hn : xs.length = n) (A B : Option Addr) (c d : Nat) (hm : n ≤ 1048576) (W : World) (ra : Rd W W.heap.size A (ints xs)) (rb : Rd W W.heap.size B (ints xs)) :
    Calls Try.prog 83 #[.slice A n c, .slice B n d] W fun e w' => e = .returned (.bool true) ∧ Below W.heap.size W w' := by
  have HN := Lib.hid hn
  clear hn
  go_enter Try.func83, Try.ntmps83
  go_wp2
  go_loopw [5] (fun kv wr => ∃ k : Nat, k ≤ n ∧ kv = .int .i64 k ∧ Below W.heap.size W wr) (fun kv _ => n - (intOf kv).toNat)
  case atStart => exact ⟨0, Nat.zero_le _, rfl, Below.refl _ _⟩
  case round =>
    obtain ⟨k, hk, rfl, hwr⟩ := hrel
    by_cases hkn : k < n
    · obtain ⟨b1, o1, x, rfl, _, hx, x0⟩ := (ra.next hwr).int (k := k) (by rw [HN.out]; exact hkn)
      obtain ⟨b2, o2, y, rfl, _, hy, y0⟩ := (rb.next hwr).int (k := k) (by rw [HN.out]; exact hkn)
      rw [hx] at hy
      injection hy with hy
      subst hy
      clear hx ra rb
      go_wp2
      go_region
      all_goals go_wp2
      go_roundw
      case rel => exact ⟨k + 1, by omega, by go_num, hwr.drew⟩
      case measure => simp [intOf]; omega
    · go_wp2
      go_ret
      exact ⟨rfl, hwr⟩
end Go.Proofs.Ytbcgokpamhgabaa

/- The contracts of the functions on boards and positions that the symmetries need. -/
import Derived.Test.YtbcgokpamhgabaaChecked
import Derived.Test.YtbcgokpamhgabaaMem
import Derived.Tactics
import Derived.Tactics2
import Derived.WalkKit
import Derived.WalkSpells
import Derived.WalkLawsBesides
import Derived.Deep.QuietTactic
import Derived.BigQuiet
import Derived.BigGuardPart
import Derived.Lib.QuietBelow
import Derived.OwnWalk
import Derived.KernelRfl
import Derived.Test.YtbcgokpamhgabaaOrdA
import Derived.Test.YtbcgokpamhgabaaOpen
import Derived.Test.YtbcgokpamhgabaaBoardP
set_option linter.unusedVariables false
namespace Go.Proofs.Ytbcgokpamhgabaa
open Go.RowKit Go.Sort

theorem hasBit_ (s k : Nat) (hs : B63 s) (hk : k < 64) (w : World) :
    Calls Try.prog 98 #[.int .i64 s, .int .i64 k] w fun e w' => e = .returned (.bool (s.testBit k)) ∧ w = w' := by
  have H := Lib.hid (bit_of s k hs)
  go_enter Try.func98, Try.ntmps98
  go_wp2
  go_ret
  exact ⟨ret_bool H.out, rfl⟩
theorem sBoardOk_ (b : Ln) (w : World) :
    Calls Try.prog 139 #[.agg #[.int .i64 b.f, .int .i64 b.o, .int .i64 b.t]] w fun e w' => e = .returned (.bool (boardB b)) ∧ Below w.heap.size w w' := by
  rcases Bool.eq_false_or_eq_true (inB b.f 1 7) with i1 | i1
  · rcases Bool.eq_false_or_eq_true (inB b.o 1 7) with i2 | i2
    · obtain ⟨f, o, t⟩ := b
      simp only at *
      have j1 := inB_iff.1 i1
      have j2 := inB_iff.1 i2
      obtain ⟨f, rfl⟩ := Int.eq_ofNat_of_zero_le (show 0 ≤ f by omega)
      obtain ⟨o, rfl⟩ := Int.eq_ofNat_of_zero_le (show 0 ≤ o by omega)
      obtain ⟨hm1, hm2, hm3⟩ := area_bounds (f := f) (o := o) (by omega) (by omega) (by omega) (by omega)
      obtain ⟨p1, p2⟩ := pow_bounds hm3
      have H := Lib.hid (boardB_in (f := f) (o := o) (t := t) (by omega) (by omega) (by omega) (by omega))
      have hc : ∀ (a : Addr) (p : Regrown) (W : World), a.block < W.heap.size → (grow (redrawn W p.d) p.os).cell? a = W.cell? a := fun a p W h => (below_regrown W p.d p.os).cell h
      go_enter Try.func139, Try.ntmps139
      go_wp2_with (go_at_call 111; refine (l01In_ _ _ _ _).mono ?_; rintro e w' ⟨rfl, rfl⟩)
      refine wp_region_quiet_below (by kernel_rfl) (by kernel_rfl) ?_
      repeat (go_big_quiet_step (first | (go_at_call 111; exact rg_same (l01In_ _ _ _ _))))
      refine wpQuiet_nil ?_
      intro w1 hw1
      obtain ⟨p1, hp1⟩ := hw1
      have hb1 := of_rg hp1
      clear hp1 p1 hc
      go_wp2
      go_ret
      exact ⟨ret_bool H.out.symm, below_step ((Below.refl _ _).alloc (Nat.le_refl _) _) hb1 (by simp)⟩
    · have H := Lib.hid (boardB_o i2)
      go_enter Try.func139, Try.ntmps139
      go_wp2_with (go_at_call 111; refine (l01In_ _ _ _ _).mono ?_; rintro e w' ⟨rfl, rfl⟩)
      go_ret
      exact ⟨ret_bool H.out.symm, (Below.refl _ _).alloc (Nat.le_refl _) _⟩
  · have H := Lib.hid (boardB_f i1)
    go_enter Try.func139, Try.ntmps139
    go_wp2_with (go_at_call 111; refine (l01In_ _ _ _ _).mono ?_; rintro e w' ⟨rfl, rfl⟩)
    go_ret
    exact ⟨ret_bool H.out.symm, (Below.refl _ _).alloc (Nat.le_refl _) _⟩
theorem iBoardOk_ (b : Ln) (w : World) :
    Calls Try.prog 103 #[.agg #[.int .i64 b.f, .int .i64 b.o, .int .i64 b.t]] w fun e w' => e = .returned (.bool (boardB b)) ∧ Below w.heap.size w w' := by
  have hc : ∀ (a : Addr) (p : Regrown) (W : World), a.block < W.heap.size → (grow (redrawn W p.d) p.os).cell? a = W.cell? a := fun a p W h => (below_regrown W p.d p.os).cell h
  rcases Bool.eq_false_or_eq_true (inB b.f 1 7) with i1 | i1
  · rcases Bool.eq_false_or_eq_true (inB b.o 1 7) with i2 | i2
    · obtain ⟨f, o, t⟩ := b
      simp only at *
      have j1 := inB_iff.1 i1
      have j2 := inB_iff.1 i2
      obtain ⟨f, rfl⟩ := Int.eq_ofNat_of_zero_le (show 0 ≤ f by omega)
      obtain ⟨o, rfl⟩ := Int.eq_ofNat_of_zero_le (show 0 ≤ o by omega)
      obtain ⟨hm1, hm2, hm3⟩ := area_bounds (f := f) (o := o) (by omega) (by omega) (by omega) (by omega)
      obtain ⟨p1, p2⟩ := pow_bounds hm3
      have H := Lib.hid (boardB_in (f := f) (o := o) (t := t) (by omega) (by omega) (by omega) (by omega))
      go_enter Try.func103, Try.ntmps103
      go_wp2_with fail
      refine wp_region_quiet_below (by kernel_rfl) (by kernel_rfl) ?_
      repeat (go_big_quiet_step (first | (go_at_call 120; first | exact rg_same (is_ (within_ _ _ _ _) i1) | exact rg_same (is_ (within_ _ _ _ _) i2) | exact rg_same (within_ _ _ _ _))))
      refine wpQuiet_nil ?_
      intro w1 hw1
      obtain ⟨p1, hp1⟩ := hw1
      have hb1 := of_rg hp1
      clear hp1 p1 hc
      go_wp2
      go_ret
      exact ⟨ret_bool H.out.symm, below_step ((Below.refl _ _).alloc (Nat.le_refl _) _) hb1 (by simp)⟩
    · have H := Lib.hid (boardB_o i2)
      go_enter Try.func103, Try.ntmps103
      go_wp2_with fail
      refine wp_region_quiet_below (by kernel_rfl) (by kernel_rfl) ?_
      repeat (go_big_quiet_step (first | (go_at_call 120; first | exact rg_same (is_ (within_ _ _ _ _) i1) | exact rg_same (is_ (within_ _ _ _ _) i2))))
      refine wpQuiet_nil ?_
      intro w1 hw1
      obtain ⟨p1, hp1⟩ := hw1
      have hb1 := of_rg hp1
      clear hp1 p1 hc
      go_wp2
      go_ret
      exact ⟨ret_bool H.out.symm, below_step ((Below.refl _ _).alloc (Nat.le_refl _) _) hb1 (by simp)⟩
  · have H := Lib.hid (boardB_f i1)
    go_enter Try.func103, Try.ntmps103
    go_wp2_with fail
    refine wp_region_quiet_below (by kernel_rfl) (by kernel_rfl) ?_
    repeat (go_big_quiet_step (first | (go_at_call 120; exact rg_same (is_ (within_ _ _ _ _) i1))))
    refine wpQuiet_nil ?_
    intro w1 hw1
    obtain ⟨p1, hp1⟩ := hw1
    have hb1 := of_rg hp1
    clear hp1 p1 hc
    go_wp2
    go_ret
    exact ⟨ret_bool H.out.symm, below_step ((Below.refl _ _).alloc (Nat.le_refl _) _) hb1 (by simp)⟩
end Go.Proofs.Ytbcgokpamhgabaa

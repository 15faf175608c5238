/- The walks of the laws of DoDisturb and CompareJumps. -/
import Derived.Test.YteboegckjijhjaaChecked
import Derived.Test.YteboegckjijhjaaMem
import Derived.Tactics
import Derived.Tactics2
import Derived.WalkKit
import Derived.WalkSpells
import Derived.WalkLawsBesides
import Derived.Deep.QuietTactic
import Derived.BigQuiet
import Derived.BigGuardPart
import Derived.Lib.QuietBelow
import Derived.OwnWalk
import Derived.KernelRfl
import Derived.Test.YteboegckjijhjaaOrdA
import Derived.Test.YteboegckjijhjaaOpen
set_option linter.unusedVariables false
namespace Go.Proofs.Yteboegckjijhjaa
open Go.RowKit Go.Sort

theorem fnExactDoDisturb_walk (a c : Ln) (w : World) (_ : I64 a.f ∧ I64 a.o ∧ I64 a.t) (_ : I64 c.f ∧ I64 c.o ∧ I64 c.t) :
    Calls Try.prog 3 #[.agg #[.int .i64 a.f, .int .i64 a.o, .int .i64 a.t], .agg #[.int .i64 c.f, .int .i64 c.o, .int .i64 c.t]] w fun e w' => e = .returned (.bool true) ∧ Below w.heap.size w w' := by
  have hc : ∀ (a : Addr) (p : Regrown) (W : World), a.block < W.heap.size → (grow (redrawn W p.d) p.os).cell? a = W.cell? a := fun a p W h => (below_regrown W p.d p.os).cell h
  go_enter Try.func3, Try.ntmps3
  go_wp2_with fail
  refine wp_region_quiet_below (by kernel_rfl) (by kernel_rfl) ?_
  repeat (go_big_quiet_step (first | (go_at_call 16; exact Calls.regrown_of (toLine_ _ _)) | (go_at_call 15; exact Calls.regrown_of (sDoDisturb_ _ _ _))))
  refine wpQuiet_nil ?_
  intro w1 hw1
  obtain ⟨p1, hp1⟩ := hw1
  have hb1 := of_rg hp1
  clear hp1 p1
  obtain ⟨hc1, hf1⟩ := bcell hb1
  have hz1 : w.heap.size + 1 < w1.heap.size := by have := hb1.size; simp at this; omega
  have hz0 : w.heap.size < w1.heap.size := by omega
  have hw1 : Below w.heap.size w w1 := below_step (((Below.refl _ _).alloc (Nat.le_refl _) _).alloc (by simp) _) hb1 (by simp; omega)
  go_wp2_with fail
  refine wp_region_quiet_below (by kernel_rfl) (by kernel_rfl) ?_
  repeat (go_big_quiet_step (first | (go_at_call 16; exact Calls.regrown_of (toLine_ _ _)) | (go_at_call 17; exact Calls.regrown_of (iDoDisturb_ _ _ _))))
  refine wpQuiet_nil ?_
  intro w2 hw2
  obtain ⟨p2, hp2⟩ := hw2
  have hb2 := of_rg hp2
  clear hp2 p2 hc hc1 hf1
  go_wp2
  go_ret
  exact ⟨rfl, below_next hw1 hb2⟩
theorem fnExactCompareJumps_walk (a c : Ln) (w : World) (_ : I64 a.f ∧ I64 a.o ∧ I64 a.t) (_ : I64 c.f ∧ I64 c.o ∧ I64 c.t) :
    Calls Try.prog 4 #[.agg #[.int .i64 a.f, .int .i64 a.o, .int .i64 a.t], .agg #[.int .i64 c.f, .int .i64 c.o, .int .i64 c.t]] w fun e w' => e = .returned (.bool true) ∧ Below w.heap.size w w' := by
  have hc : ∀ (a : Addr) (p : Regrown) (W : World), a.block < W.heap.size → (grow (redrawn W p.d) p.os).cell? a = W.cell? a := fun a p W h => (below_regrown W p.d p.os).cell h
  go_enter Try.func4, Try.ntmps4
  go_wp2_with fail
  refine wp_region_quiet_below (by kernel_rfl) (by kernel_rfl) ?_
  repeat (go_big_quiet_step (first | (go_at_call 16; exact Calls.regrown_of (toLine_ _ _)) | (go_at_call 18; exact Calls.regrown_of (sCompareJumps_ _ _ _))))
  refine wpQuiet_nil ?_
  intro w1 hw1
  obtain ⟨p1, hp1⟩ := hw1
  have hb1 := of_rg hp1
  clear hp1 p1
  obtain ⟨hc1, hf1⟩ := bcell hb1
  have hz1 : w.heap.size + 1 < w1.heap.size := by have := hb1.size; simp at this; omega
  have hz0 : w.heap.size < w1.heap.size := by omega
  have hw1 : Below w.heap.size w w1 := below_step (((Below.refl _ _).alloc (Nat.le_refl _) _).alloc (by simp) _) hb1 (by simp; omega)
  go_wp2_with fail
  refine wp_region_quiet_below (by kernel_rfl) (by kernel_rfl) ?_
  repeat (go_big_quiet_step (first | (go_at_call 16; exact Calls.regrown_of (toLine_ _ _)) | (go_at_call 19; exact Calls.regrown_of (iCompareJumps_ _ _ _))))
  refine wpQuiet_nil ?_
  intro w2 hw2
  obtain ⟨p2, hp2⟩ := hw2
  have hb2 := of_rg hp2
  clear hp2 p2 hc hc1 hf1
  go_wp2
  go_ret
  exact ⟨rfl, below_next hw1 hb2⟩
end Go.Proofs.Yteboegckjijhjaa

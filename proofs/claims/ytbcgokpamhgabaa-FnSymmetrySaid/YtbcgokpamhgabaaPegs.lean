/- The contract of the reference's CountPegs. -/
import Derived.Test.YtbcgokpamhgabaaChecked
import Derived.Test.YtbcgokpamhgabaaMem
import Derived.Tactics
import Derived.Tactics2
import Derived.WalkKit
import Derived.WalkSpells
import Derived.WalkLawsBesides
import Derived.Deep.QuietTactic
import Derived.BigQuiet
import Derived.BigGuardPart
import Derived.Lib.QuietBelow
import Derived.OwnWalk
import Derived.KernelRfl
import Derived.Test.YtbcgokpamhgabaaSym
import Derived.Test.YtbcgokpamhgabaaOnesP
import Derived.Test.YtbcgokpamhgabaaLines
set_option linter.unusedVariables false
set_option maxRecDepth 20000
namespace Go.Proofs.Ytbcgokpamhgabaa
open Go.RowKit Go.Sort

def pegsB (b : Ln) (p : Int) : Int := if posB b p then (popc p.toNat : Nat) else -1
theorem sCountPegs_ (b : Ln) (p : Int) (hp : I64 p) (W : World) :
    Calls Try.prog 34 #[.agg #[.int .i64 b.f, .int .i64 b.o, .int .i64 b.t], .int .i64 p] W fun e w' => e = .returned (.int .i64 (pegsB b p)) ∧ Below W.heap.size W w' := by
  rcases Bool.eq_false_or_eq_true (posB b p) with hP | hP
  · obtain ⟨w, h, s, rfl, hb⟩ := boardB_nat (posB_board hP)
    obtain ⟨q, rfl, hq⟩ := posB_nat hP
    have q63 : B63 q := by unfold I64 at hp; unfold B63; omega
    have H : Hid (pegsB ⟨w, h, s⟩ q = ((popc q : Nat) : Int)) := Lib.hid (by rw [pegsB, if_pos hP, Int.toNat_natCast])
    have H2 : Hid ((bitsOf q 49).length = popc q) := Lib.hid rfl
    go_enter Try.func34, Try.ntmps34
    go_wp2_with (first | (go_at_call 107; refine (is_ (sPositionOk_ _ _ hp _) hP).mono ?_; rintro e w1 ⟨rfl, hb1⟩; obtain ⟨hc, hf⟩ := bcell hb1; have hz0 : W.heap.size < w1.heap.size := (by have := hb1.size; (try simp at this); omega); have hw1 : Below W.heap.size W w1 := below_step ((Below.refl _ _).alloc (Nat.le_refl _) _) hb1 (by (try simp))))
    go_wp2_with fail
    refine (l02List_ q q63 _).mono ?_
    rintro e w2 ⟨A, c, rfl, own2, hb2⟩
    rw [H2.out]
    go_wp2
    go_ret
    exact ⟨by rw [H.out]; rfl, below_next hw1 hb2⟩
  · have H : Hid (pegsB b p = -1) := Lib.hid (by simp [pegsB, hP])
    go_enter Try.func34, Try.ntmps34
    go_wp2_with (first | (go_at_call 107; refine (is_ (sPositionOk_ _ _ hp _) hP).mono ?_; rintro e w1 ⟨rfl, hb1⟩; obtain ⟨hc, hf⟩ := bcell hb1; have hz0 : W.heap.size < w1.heap.size := (by have := hb1.size; (try simp at this); omega); have hw1 : Below W.heap.size W w1 := below_step ((Below.refl _ _).alloc (Nat.le_refl _) _) hb1 (by (try simp))))
    go_ret
    exact ⟨by rw [H.out]; rfl, hw1⟩
end Go.Proofs.Ytbcgokpamhgabaa

/- The contracts of FewestLeft, MostLeft, ShortestGame, LongestGame. -/
import Derived.Test.YtbcgokpamhgabaaChecked
import Derived.Test.YtbcgokpamhgabaaMem
import Derived.Tactics
import Derived.Tactics2
import Derived.WalkKit
import Derived.WalkSpells
import Derived.WalkLawsBesides
import Derived.Deep.QuietTactic
import Derived.BigQuiet
import Derived.BigGuardPart
import Derived.Lib.QuietBelow
import Derived.OwnWalk
import Derived.KernelRfl
import Derived.Test.YtbcgokpamhgabaaStuckG
set_option linter.unusedVariables false
set_option maxRecDepth 20000
namespace Go.Proofs.Ytbcgokpamhgabaa
open Go.RowKit Go.Sort

def mostL (rs : List Nat) (k : Nat) : Int := (rs.take k).foldl (fun a q => if a < ((popc q : Nat) : Int) then ((popc q : Nat) : Int) else a) (-1)
theorem most_next {rs : List Nat} {k q : Nat} (hq : rs[k]? = some q) : mostL rs (k + 1) = if mostL rs k < ((popc q : Nat) : Int) then ((popc q : Nat) : Int) else mostL rs k := by
  obtain ⟨hk, e⟩ := List.getElem?_eq_some_iff.1 hq
  rw [mostL, List.take_succ_eq_append_getElem hk, e, List.foldl_append]
  rfl
theorem popc_le49 (q : Nat) : popc q ≤ 49 := bits_le q 49
theorem most_bound (rs : List Nat) : ∀ k, -1 ≤ mostL rs k ∧ mostL rs k ≤ 49 := by
  intro k
  have gen : ∀ (l : List Nat) (a : Int), -1 ≤ a → a ≤ 49 → -1 ≤ l.foldl (fun a q => if a < ((popc q : Nat) : Int) then ((popc q : Nat) : Int) else a) a ∧ l.foldl (fun a q => if a < ((popc q : Nat) : Int) then ((popc q : Nat) : Int) else a) a ≤ 49 := by
    intro l
    induction l with
    | nil => intro a h1 h2; exact ⟨h1, h2⟩
    | cons x l ih => intro a h1 h2; have := popc_le49 x; exact ih _ (by dsimp only; split <;> omega) (by dsimp only; split <;> omega)
  exact gen _ _ (by omega) (by omega)
def mostR (b : Ln) (p : Int) : Int := mostL (stuckR b p) (stuckR b p).length
set_option maxHeartbeats 1000000 in
theorem iMostLeft_ (b : Ln) (p : Int) (hp : I64 p) (W : World) :
    Calls Try.prog 59 #[.agg #[.int .i64 b.f, .int .i64 b.o, .int .i64 b.t], .int .i64 p] W fun e w' => e = .returned (.int .i64 (mostR b p)) ∧ Below W.heap.size W w' := by
  have hrl := stuckR_le b p
  have hrlt : ∀ q ∈ stuckR b p, q < 65536 := fun q hq => reachL_lt q (stuckR_mem hq)
  have HST0 : mostR b p = mostL (stuckR b p) (stuckR b p).length := rfl
  obtain ⟨rs, hrs⟩ : ∃ rs, stuckR b p = rs := ⟨_, rfl⟩
  rw [hrs] at hrl hrlt HST0
  have HR := Lib.hid hrs
  have HRL := Lib.hid hrlt
  have HST := Lib.hid HST0
  clear hrs hrlt HST0
  go_enter Try.func59, Try.ntmps59
  go_wp2_with fail
  refine (iStuckOf_ b p hp _).mono ?_
  rintro e W2 ⟨AR, cR, rfl, own2, hb2⟩
  rw [HR.out] at own2 ⊢
  have rdR := rd_of_own own2
  have hW2 : Below W.heap.size W W2 := below_step ((Below.refl _ _).alloc (Nat.le_refl _) _) hb2 (by (try simp))
  clear own2 hb2
  go_wp2_with fail
  go_loopw [5, 12] (fun v i wr => ∃ k : Nat, k ≤ rs.length ∧ i = .int .i64 k ∧ v = .int .i64 (mostL rs k) ∧ Below W2.heap.size W2 wr) (fun _ i _ => rs.length - (intOf i).toNat)
  case atStart => exact ⟨0, Nat.zero_le _, rfl, rfl, Below.refl _ _⟩
  case round =>
    obtain ⟨k, hk, rfl, rfl, hw⟩ := hrel
    have hsz := hw.size
    have hmb := most_bound rs k
    by_cases hlt : k < rs.length
    · have hx : rs[k]? = some rs[k] := List.getElem?_eq_getElem hlt
      have hq6 := HRL.out _ (List.getElem_mem hlt)
      generalize rs[k] = q at hx hq6
      obtain ⟨bb, off, rfl, hbb, x0⟩ := rd_nat (rdR.below hw) hx
      have HY := Lib.hid (most_next hx)
      generalize mostL rs k = m at hmb HY ⊢
      clear hx
      go_wp2_with (go_at_call 126; refine (pegsIn_ q hq6 _).mono ?_; rintro e w' ⟨rfl, rfl⟩)
      go_roundw
      case rel => exact ⟨k + 1, by omega, by go_num, by rw [HY.out], hw⟩
      case measure => simp [intOf]; omega
    · have e : k = rs.length := by omega
      subst e
      go_wp2
      go_ret
      exact ⟨by rw [HST.out]; rfl, hW2.trans (hw.mono hW2.size)⟩
end Go.Proofs.Ytbcgokpamhgabaa

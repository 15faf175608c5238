/- The contracts of copyJumps and SwapAt. -/
import Derived.Test.YtfbpnfjaheeooaaChecked
import Derived.Test.YtfbpnfjaheeooaaMem
import Derived.Tactics
import Derived.Tactics2
import Derived.WalkKit
import Derived.WalkSpells
import Derived.WalkLawsBesides
import Derived.Deep.QuietTactic
import Derived.BigQuiet
import Derived.BigGuardPart
import Derived.Lib.QuietBelow
import Derived.OwnWalk
import Derived.KernelRfl
import Derived.Test.YtfbpnfjaheeooaaOrdB
import Derived.Test.YtfbpnfjaheeooaaTail
import Derived.Laws.AppendOwnNone
import Derived.RegionTactic
import Derived.BigRegion
import Derived.ChangeAlike
set_option linter.unusedVariables false
namespace Go.Proofs.Ytfbpnfjaheeooaa
open Go.RowKit Go.Sort

theorem copyJumps_ (ls : List Ln) (A : Option Addr) (c : Nat) (w : World) (hr : Rd w w.heap.size A (flat ls)) (hn : ls.length ≤ 1048576) :
    Calls Try.prog 90 #[.slice A ls.length c] w (GivesSlice w 83 3 ls.length (flat ls)) := by
  obtain ⟨i0, hi, hz0, hz1, hz2⟩ := info_parts infoLine
  have hl := flat_length ls
  have HL := Lib.hid hl
  clear hl
  have hbel : ∀ w1 : World, (w.alloc (.cells #[] 83)).grownBy w1 (Value.ownBlock (.slice (some ⟨w.heap.size, 0, none⟩) 0 0)) → Below w.heap.size w w1 := fun w1 hg =>
    ((Below.refl w.heap.size w).alloc (Nat.le_refl _) _).grown hg (by simp) (fun g hg => by simp [Value.ownBlock] at hg; omega)
  cases A with
  | none =>
    have hnil := rd_none hr
    have h0 : ls = [] := by
      cases ls with
      | nil => rfl
      | cons x xs => simp [flat_cons] at hnil
    subst h0
    go_enter Try.func90, Try.ntmps90
    go_wp2_with (first
      | fail)
    go_ret
    exact ⟨_, _, rfl, World.ownsRow_lit w #[] 0 (Nat.le_refl _) (by simp [maxLen]) rfl, (Below.refl _ _).alloc (Nat.le_refl _) _⟩
  | some ad =>
    have hr1 := Lib.hid (rd_news (hr.laid (.cells #[] 83)))
    clear hr
    have HB := Lib.hid hbel
    clear hbel
    go_enter Try.func90, Try.ntmps90
    go_wp2_with (first
      | (at_builtin; refine wpList_append_own _ rfl (.tmp 3) (.tmp 4) 31 rfl w.heap.size 83 i0 _ 3 24 Try.underlying31 hi hz0 hz1 hz2 rfl (by decide) _ _ _ rfl (World.ownsRow_lit w #[] 0 (Nat.le_refl _) (by simp [maxLen]) rfl) ad ls.length c (flat ls) rfl HL.out hr1.out (flat_one ls) (by unfold maxLen; omega) (by omega) (by simp) ?_; intro v' w1 hown' hgrow hnil))
    have hw1 := HB.out w1 hgrow
    obtain ⟨A', c', hv⟩ := own_value hown'
    subst hv
    go_ret
    exact ⟨A', c', by simp, by simpa using hown', hw1⟩
theorem copyJumps_n (ls : List Ln) (A : Option Addr) (c n : Nat) (w : World) (e : ls.length = n) (hr : Rd w w.heap.size A (flat ls)) (hn : n ≤ 1048576) :
    Calls Try.prog 90 #[.slice A n c] w (GivesSlice w 83 3 n (flat ls)) := by
  subst e
  exact copyJumps_ ls A c w hr hn
end Go.Proofs.Ytfbpnfjaheeooaa

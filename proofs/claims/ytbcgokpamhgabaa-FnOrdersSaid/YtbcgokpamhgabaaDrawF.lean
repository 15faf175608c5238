/- The contract of the generator DrawJumps: at most eight jumps. -/
import Derived.Test.YtbcgokpamhgabaaChecked
import Derived.Test.YtbcgokpamhgabaaMem
import Derived.Tactics
import Derived.Tactics2
import Derived.WalkKit
import Derived.WalkSpells
import Derived.WalkLawsBesides
import Derived.Deep.QuietTactic
import Derived.BigQuiet
import Derived.BigGuardPart
import Derived.Lib.QuietBelow
import Derived.OwnWalk
import Derived.KernelRfl
import Derived.Test.YtbcgokpamhgabaaDrawN
set_option linter.unusedVariables false
set_option maxRecDepth 20000
namespace Go.Proofs.Ytbcgokpamhgabaa
open Go.RowKit Go.Sort

theorem Cb.box {T : TypeId} {b : Nat} {w w' : World} {g : Nat} {x y z : Int} (hb : Cb w.heap.size b w w') (h : Box T w g x y z) (hn : b < g) : Box T w' g x y z := h.cb hb hn
/-- Some jumps, to be read. -/
def GivesLs (P : List Ln → Prop) (w : World) (e : Ending) (w' : World) : Prop :=
  ∃ (ls : List Ln) (A : Option Addr) (c : Nat), P ls ∧ e = .returned (.slice A ls.length c) ∧ Rd w' w'.heap.size A (flat ls) ∧ Below w.heap.size w w'

set_option maxHeartbeats 4000000 in
theorem l23Game_ (g : Nat) (W : World) (hC : Cur 129 g W) :
    Calls Try.prog 93 #[.pointer (some ⟨g, 0, none⟩)] W fun e w' => ∃ (ls : List Ln) (A : Option Addr) (c : Nat), ls.length ≤ 8 ∧ e = .returned (.slice A ls.length c) ∧ Rd w' w'.heap.size A (flat ls) ∧ Cur 129 g w' ∧ Cb W.heap.size g W w' := by
  have hgl := hC.lt
  go_enter Try.func93, Try.ntmps93
  go_upto_region 2 with (go_at_call 101; refine (l02Small_ g _ hC).mono ?_; rintro e w1 ⟨x, y, s, hbd, -, rfl, hC1, hb1⟩)
  have HBD := Lib.hid hbd
  have hW2 := hb1.alloc hb1.size (.cells #[.int .i64 x, .int .i64 y, .int .i64 s] 42)
  have HW2 := Lib.hid hW2
  have HX2 := Lib.hid (box_new 42 w1 x y s)
  have hC2 := hC1.alloc (.cells #[.int .i64 x, .int .i64 y, .int .i64 s] 42)
  have hgB : g < w1.heap.size := hC1.lt
  have hWB : W.heap.size ≤ w1.heap.size := hb1.size
  clear hbd hb1 hW2 hC1
  generalize hu : w1.alloc (.cells #[.int .i64 x, .int .i64 y, .int .i64 s] 42) = u1 at *
  clear hu
  generalize w1.heap.size = B at *
  go_wp2_with fail
  refine (l01Once_ g 3 (by unfold I64; omega) _ hC2).mono ?_
  rintro e w3 ⟨r, rfl, hC3, hb3⟩
  have HX3 := Lib.hid (HX2.out.cb hb3 hgB)
  have HW3 := Lib.hid (HW2.out.next hb3)
  clear hb3
  cases r with
  | true =>
    go_wp2_with fail
    refine (sCrossBoard_ _).mono ?_
    rintro e w4 ⟨x, y, s, hbd, -, rfl, hb4⟩
    have HX4 := HX3.out.next hb4
    obtain ⟨c0, c1, c2⟩ := HX4.cells
    obtain ⟨f0, f1, f2⟩ := HX4.soft
    have HBD5 := Lib.hid hbd
    have HX4' := Lib.hid HX4
    have HW4 := Lib.hid (HW3.out.next (cb_of hb4 g))
    have hC4 := hC3.next hb4
    have hlB := HX4.lt
    clear hb4 hbd HX4
    go_wp2_with fail
    have hx5 := HX4'.out.set3 x y s
    have hw5 := ((HW4.out.setCell (p := ⟨B, 0, none⟩) (.inl hWB) (.int .i64 x)).setCell (p := ⟨B, 1, none⟩) (.inl hWB) (.int .i64 y)).setCell (p := ⟨B, 2, none⟩) (.inl hWB) (.int .i64 s)
    have hC5 := ((hC4.setCell (p := ⟨B, 0, none⟩) hgB (.int .i64 x)).setCell (p := ⟨B, 1, none⟩) hgB (.int .i64 y)).setCell (p := ⟨B, 2, none⟩) hgB (.int .i64 s)
    have HX5 := Lib.hid hx5
    have HW5 := Lib.hid hw5
    clear hx5 hw5 c0 c1 c2 f0 f1 f2 HX4' HW4 hC4 hlB HBD
    generalize ((w4.setCell ⟨B, 0, none⟩ (.int .i64 x)).setCell ⟨B, 1, none⟩ (.int .i64 y)).setCell ⟨B, 2, none⟩ (.int .i64 s) = w5 at *
    obtain ⟨c0, c1, c2⟩ := HX5.out.cells
    go_wp2_with fail
    go_region_held3 (fun w' => w'.cell? ⟨B, 0, none⟩ = some (.int .i64 x) ∧ w'.cell? ⟨B, 1, none⟩ = some (.int .i64 y) ∧ w'.cell? ⟨B, 2, none⟩ = some (.int .i64 s)) (first | exact ⟨c0, c1, c2⟩) (first
      | (go_at_call 112; refine (l06Start_ g x y s HBD5.out _ (Cur.drew hC5)).mono ?_; rintro e w6 ⟨q, hq, rfl, hC6, hb6⟩; have hP := Lib.hid (posB_of HBD5.out (sub_pos HBD5.out hq)); have HX6 := Lib.hid (HX5.out.drew.cb hb6 hgB); have HW6 := Lib.hid (HW5.out.drew.next hb6); clear hb6 hq c0 c1 c2; obtain ⟨c0, c1, c2⟩ := HX6.out.cells)
      | (go_at_call 114; refine (l01Below_ g 9 (by unfold I64; omega) _ hC6).mono ?_; rintro e w7 ⟨n, hn, rfl, hC7, hb7⟩; have hn' : n ≤ 8 := (by omega); have HX7 := Lib.hid (HX6.out.cb hb7 hgB); have HW7 := Lib.hid (HW6.out.next hb7); clear hb7 hn c0 c1 c2; obtain ⟨c0, c1, c2⟩ := HX7.out.cells)
      | (go_at_call 113; refine (l06Play_ g x y s HBD5.out q hP.out n (by omega) _ hC7).mono ?_; rintro e w8 ⟨ls, A, c, h1, h2, rfl, rd8, hlo8, hC8, hb8⟩; have HX8 := Lib.hid (HX7.out.cb hb8 hgB); have HW8 := Lib.hid (HW7.out.next hb8); clear hb8 c0 c1 c2; obtain ⟨c0, c1, c2⟩ := HX8.out.cells))
    all_goals
      go_wp2
      go_ret
      exact ⟨ls, A, c, by omega, rfl, rd8, hC8, HW8.out⟩
  | false =>
    have HX5 := HX3
    have HW5 := HW3
    have hC5 := hC3
    have HBD5 := HBD
    clear HX3 HW3 hC3 HBD
    obtain ⟨c0, c1, c2⟩ := HX5.out.cells
    go_wp2_with fail
    go_region_held3 (fun w' => w'.cell? ⟨B, 0, none⟩ = some (.int .i64 x) ∧ w'.cell? ⟨B, 1, none⟩ = some (.int .i64 y) ∧ w'.cell? ⟨B, 2, none⟩ = some (.int .i64 s)) (first | exact ⟨c0, c1, c2⟩) (first
      | (go_at_call 112; refine (l06Start_ g x y s HBD5.out _ (Cur.drew hC5)).mono ?_; rintro e w6 ⟨q, hq, rfl, hC6, hb6⟩; have hP := Lib.hid (posB_of HBD5.out (sub_pos HBD5.out hq)); have HX6 := Lib.hid (HX5.out.drew.cb hb6 hgB); have HW6 := Lib.hid (HW5.out.drew.next hb6); clear hb6 hq c0 c1 c2; obtain ⟨c0, c1, c2⟩ := HX6.out.cells)
      | (go_at_call 114; refine (l01Below_ g 9 (by unfold I64; omega) _ hC6).mono ?_; rintro e w7 ⟨n, hn, rfl, hC7, hb7⟩; have hn' : n ≤ 8 := (by omega); have HX7 := Lib.hid (HX6.out.cb hb7 hgB); have HW7 := Lib.hid (HW6.out.next hb7); clear hb7 hn c0 c1 c2; obtain ⟨c0, c1, c2⟩ := HX7.out.cells)
      | (go_at_call 113; refine (l06Play_ g x y s HBD5.out q hP.out n (by omega) _ hC7).mono ?_; rintro e w8 ⟨ls, A, c, h1, h2, rfl, rd8, hlo8, hC8, hb8⟩; have HX8 := Lib.hid (HX7.out.cb hb8 hgB); have HW8 := Lib.hid (HW7.out.next hb8); clear hb8 c0 c1 c2; obtain ⟨c0, c1, c2⟩ := HX8.out.cells))
    all_goals
      go_wp2
      go_ret
      exact ⟨ls, A, c, by omega, rfl, rd8, hC8, HW8.out⟩
theorem drawJumps_ (xs : List UInt8) (A : Option Addr) (c : Nat) (w : World) (rd : Rd w w.heap.size A (bts xs)) (hm : xs.length ≤ 1048576) :
    Calls Try.prog 13 #[.slice A xs.length c] w (GivesLs (fun ls => ls.length ≤ 8) w) := by
  go_enter Try.func13, Try.ntmps13
  go_wp2_with fail
  refine (l01New_ xs A c _ rd hm).mono ?_
  rintro e w1 ⟨rfl, hC1, hb1⟩
  go_wp2_with fail
  refine (l23Game_ _ _ hC1).mono ?_
  rintro e w2 ⟨ls, A2, c2, hn, rfl, rd2, hC2, hb2⟩
  go_wp2
  go_ret
  exact ⟨ls, A2, c2, hn, rfl, rd2, hb1.trans ((hb2.mono hb1.size).below (Nat.le_refl _))⟩
end Go.Proofs.Ytbcgokpamhgabaa

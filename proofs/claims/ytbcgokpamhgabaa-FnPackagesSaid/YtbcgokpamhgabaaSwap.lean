/- The contracts of copyJumps and SwapAt. -/
import Derived.Test.YtbcgokpamhgabaaChecked
import Derived.Test.YtbcgokpamhgabaaMem
import Derived.Tactics
import Derived.Tactics2
import Derived.WalkKit
import Derived.WalkSpells
import Derived.WalkLawsBesides
import Derived.Deep.QuietTactic
import Derived.BigQuiet
import Derived.BigGuardPart
import Derived.Lib.QuietBelow
import Derived.OwnWalk
import Derived.KernelRfl
import Derived.Test.YtbcgokpamhgabaaOrdB
import Derived.Test.YtbcgokpamhgabaaTail
import Derived.Laws.AppendOwnNone
import Derived.RegionTactic
import Derived.BigRegion
import Derived.ChangeAlike
set_option linter.unusedVariables false
namespace Go.Proofs.Ytbcgokpamhgabaa
open Go.RowKit Go.Sort

theorem copyJumps_ (ls : List Ln) (A : Option Addr) (c : Nat) (w : World) (hr : Rd w w.heap.size A (flat ls)) (hn : ls.length ≤ 1048576) :
    Calls Try.prog 95 #[.slice A ls.length c] w (GivesSlice w 34 3 ls.length (flat ls)) := by
  obtain ⟨i0, hi, hz0, hz1, hz2⟩ := info_parts infoLine
  have hl := flat_length ls
  have HL := Lib.hid hl
  clear hl
  have hbel : ∀ w1 : World, (w.alloc (.cells #[] 34)).grownBy w1 (Value.ownBlock (.slice (some ⟨w.heap.size, 0, none⟩) 0 0)) → Below w.heap.size w w1 := fun w1 hg =>
    ((Below.refl w.heap.size w).alloc (Nat.le_refl _) _).grown hg (by simp) (fun g hg => by simp [Value.ownBlock] at hg; omega)
  cases A with
  | none =>
    have hnil := rd_none hr
    have h0 : ls = [] := by
      cases ls with
      | nil => rfl
      | cons x xs => simp [flat_cons] at hnil
    subst h0
    go_enter Try.func95, Try.ntmps95
    go_wp2_with (first
      | fail)
    go_ret
    exact ⟨_, _, rfl, World.ownsRow_lit w #[] 0 (Nat.le_refl _) (by simp [maxLen]) rfl, (Below.refl _ _).alloc (Nat.le_refl _) _⟩
  | some ad =>
    have hr1 := Lib.hid (rd_news (hr.laid (.cells #[] 34)))
    clear hr
    have HB := Lib.hid hbel
    clear hbel
    go_enter Try.func95, Try.ntmps95
    go_wp2_with (first
      | (at_builtin; refine wpList_append_own _ rfl (.tmp 3) (.tmp 4) 24 rfl w.heap.size 34 i0 _ 3 24 Try.underlying24 hi hz0 hz1 hz2 rfl (by decide) _ _ _ rfl (World.ownsRow_lit w #[] 0 (Nat.le_refl _) (by simp [maxLen]) rfl) ad ls.length c (flat ls) rfl HL.out hr1.out (flat_one ls) (by unfold maxLen; omega) (by omega) (by simp) ?_; intro v' w1 hown' hgrow hnil))
    have hw1 := HB.out w1 hgrow
    obtain ⟨A', c', hv⟩ := own_value hown'
    subst hv
    go_ret
    exact ⟨A', c', by simp, by simpa using hown', hw1⟩
theorem copyJumps_n (ls : List Ln) (A : Option Addr) (c n : Nat) (w : World) (e : ls.length = n) (hr : Rd w w.heap.size A (flat ls)) (hn : n ≤ 1048576) :
    Calls Try.prog 95 #[.slice A n c] w (GivesSlice w 34 3 n (flat ls)) := by
  subst e
  exact copyJumps_ ls A c w hr hn
set_option maxHeartbeats 1000000 in
theorem sSwapAt_ (ls : List Ln) (A : Option Addr) (c : Nat) (k : Int) (hk : I64 k) (w : World) (hr : Rd w w.heap.size A (flat ls)) (hn : ls.length ≤ 1048576) :
    Calls Try.prog 15 #[.slice A ls.length c, .int .i64 k] w (GivesSliceB w 34 3 ls.length (flat (swapL ls k)) (canSwapB ls k)) := by
  obtain ⟨i0, hi, hz0, hz1, hz2⟩ := info_parts infoLine
  have hm : ls.length ≤ 9223372036854775807 := by omega
  have hl := flat_length ls
  have HL := Lib.hid hl
  clear hl
  have hbel : ∀ w1 : World, (w.alloc (.cells #[] 34)).grownBy w1 (Value.ownBlock (.slice (some ⟨w.heap.size, 0, none⟩) 0 0)) → Below w.heap.size w w1 := fun w1 hg =>
    ((Below.refl w.heap.size w).alloc (Nat.le_refl _) _).grown hg (by simp) (fun g hg => by simp [Value.ownBlock] at hg; omega)
  rcases Bool.eq_false_or_eq_true (canSwapB ls k) with hC | hC
  · obtain ⟨j, rfl, hj⟩ := canSwap_nat hC
    have hx0 : ls[j]? = some ls[j] := List.getElem?_eq_getElem (by omega)
    have hx1 : ls[j + 1]? = some ls[j + 1] := List.getElem?_eq_getElem hj
    generalize hl0 : ls[j] = l at hx0
    generalize hl1 : ls[j + 1] = l' at hx1
    have HS := Lib.hid (swapL_yes hC hx0 hx1)
    have i0' : (0 : Int) ≤ (j : Int) := by omega
    have i1' : (j : Int) + 1 < (ls.length : Int) := by omega
    have i2' : (j : Int) < (ls.length : Int) := by omega
    obtain ⟨b, off, y0, rfl, hb0, hy0, a0, a1, a2⟩ := hr.line (show j < ls.length by omega)
    obtain ⟨b', off', y1, hA, hb1, hy1, d0, d1, d2⟩ := hr.line hj
    injection hA with hA
    injection hA with e1 e2
    subst e1 e2
    obtain rfl : l = y0 := by rw [hx0] at hy0; injection hy0
    obtain rfl : l' = y1 := by rw [hx1] at hy1; injection hy1
    have hnw := Lib.hid (rd_news (hr.laid (.cells #[] 34)))
    have HRD := Lib.hid hr
    have HBL := Lib.hid hbel
    clear hx0 hx1 hy0 hy1 hl0 hl1 hr hbel
    go_enter Try.func15, Try.ntmps15
    go_wp2_with (first
      | (at_builtin; refine wpList_append_own _ rfl (.tmp 7) (.tmp 8) 24 rfl w.heap.size 34 i0 _ 3 24 Try.underlying24 hi hz0 hz1 hz2 rfl (by decide) _ _ _ rfl (World.ownsRow_lit w #[] 0 (Nat.le_refl _) (by simp [maxLen]) rfl) ⟨b, off, none⟩ ls.length c (flat ls) rfl HL.out hnw.out (flat_one ls) (by unfold maxLen; omega) (by omega) (by simp) ?_; intro v' w1 hown' hgrow hnil))
    have hw1 := HBL.out w1 hgrow
    have hown1 : w1.ownsRow w.heap.size 34 3 v' ls.length (flat ls) := by simpa using hown'
    obtain ⟨g, cap, hv, hg1, hg2⟩ := hown1.form (by omega)
    subst hv
    clear hown' hgrow hnil
    refine (is_ (sCanSwap_ ls _ c j hk w1 ((HRD.out.below hw1).more hw1.size) hm) hC).mono ?_
    rintro e w2 ⟨rfl, hb2⟩
    have hw2 := below_next hw1 hb2
    have hown2 := own_next hown1 hb2
    have a0' := (hw2.cell (p := ⟨b, off + j * 3, none⟩) hb0).trans a0
    have a1' := (hw2.cell (p := ⟨b, off + j * 3 + 1, none⟩) hb0).trans a1
    have a2' := (hw2.cell (p := ⟨b, off + j * 3 + 2, none⟩) hb0).trans a2
    have d0' := (hw2.cell (p := ⟨b, off + (j + 1) * 3, none⟩) hb0).trans d0
    have d1' := (hw2.cell (p := ⟨b, off + (j + 1) * 3 + 1, none⟩) hb0).trans d1
    have d2' := (hw2.cell (p := ⟨b, off + (j + 1) * 3 + 2, none⟩) hb0).trans d2
    obtain ⟨z0, _, p0, p1, p2, q0, q1, q2⟩ := own_at3 hown2 (show j < ls.length by omega)
    obtain ⟨z1, _, r0, r1, r2, s0, s1, s2⟩ := own_at3 hown2 hj
    have hne : b ≠ g := by omega
    have hne' : g ≠ b := by omega
    have HO := Lib.hid (own_set3 (own_set3 hown2 j l') (j + 1) l)
    have HW := Lib.hid hw2
    have hgg := hg1
    clear a0 a1 a2 d0 d1 d2 hown1 hown2 hb2
    go_wp2
    go_ret2
    exact ⟨some ⟨g, 0, none⟩, cap, by simp [hC], by rw [HS.out]; exact HO.out, (((((hw2.setCell hgg _).setCell hgg _).setCell hgg _).setCell hgg _).setCell hgg _).setCell hgg _⟩
  · have HS := Lib.hid (swapL_no hC)
    cases A with
    | none =>
      have hnil := rd_none hr
      have h0 : ls = [] := by
        cases ls with
        | nil => rfl
        | cons x xs => simp [flat_cons] at hnil
      subst h0
      have HRD := Lib.hid hr
      clear hr hbel hnil
      go_enter Try.func15, Try.ntmps15
      go_wp2_with fail
      refine (is_ (sCanSwap_ [] _ c k hk _ (HRD.out.laid _) (by simp)) hC).mono ?_
      rintro e w2 ⟨rfl, hb2⟩
      have hown2 := own_next (World.ownsRow_lit (base := w.heap.size) (e := 34) (size := 3) w #[] 0 (Nat.le_refl _) (by simp [maxLen]) rfl) hb2
      have hw2 : Below w.heap.size w w2 := below_step ((Below.refl _ _).alloc (Nat.le_refl _) _) hb2 (by simp)
      go_wp2
      go_ret2
      exact ⟨some ⟨w.heap.size, 0, none⟩, 0, by simp [hC], by rw [HS.out]; exact hown2, hw2⟩
    | some ad =>
      have hnw := Lib.hid (rd_news (hr.laid (.cells #[] 34)))
      have HRD := Lib.hid hr
      have HBL := Lib.hid hbel
      clear hr hbel
      go_enter Try.func15, Try.ntmps15
      go_wp2_with (first
        | (at_builtin; refine wpList_append_own _ rfl (.tmp 7) (.tmp 8) 24 rfl w.heap.size 34 i0 _ 3 24 Try.underlying24 hi hz0 hz1 hz2 rfl (by decide) _ _ _ rfl (World.ownsRow_lit w #[] 0 (Nat.le_refl _) (by simp [maxLen]) rfl) ad ls.length c (flat ls) rfl HL.out hnw.out (flat_one ls) (by unfold maxLen; omega) (by omega) (by simp) ?_; intro v' w1 hown' hgrow hnil))
      have hw1 := HBL.out w1 hgrow
      have hown1 : w1.ownsRow w.heap.size 34 3 v' ls.length (flat ls) := by simpa using hown'
      have hv2 : ∃ A' c', v' = .slice A' ls.length c' := by
        obtain ⟨A', c', hv⟩ := own_value hown'
        subst hv
        exact ⟨A', c', by simp⟩
      obtain ⟨A', c', rfl⟩ := hv2
      clear hown' hgrow hnil
      refine (is_ (sCanSwap_ ls _ c k hk w1 ((HRD.out.below hw1).more hw1.size) hm) hC).mono ?_
      rintro e w2 ⟨rfl, hb2⟩
      have hw2 := below_next hw1 hb2
      have hown2 := own_next hown1 hb2
      go_wp2
      go_ret2
      exact ⟨A', c', by simp [hC], by rw [HS.out]; exact hown2, hw2⟩
set_option maxHeartbeats 1000000 in
theorem iSwapAt_ (ls : List Ln) (A : Option Addr) (c : Nat) (k : Int) (hk : I64 k) (w : World) (hr : Rd w w.heap.size A (flat ls)) (hn : ls.length ≤ 1048576) :
    Calls Try.prog 24 #[.slice A ls.length c, .int .i64 k] w (GivesSliceB w 34 3 ls.length (flat (swapL ls k)) (canSwapB ls k)) := by
  have hm : ls.length ≤ 9223372036854775807 := by omega
  rcases Bool.eq_false_or_eq_true (canSwapB ls k) with hC | hC
  · obtain ⟨j, rfl, hj⟩ := canSwap_nat hC
    have hx0 : ls[j]? = some ls[j] := List.getElem?_eq_getElem (by omega)
    have hx1 : ls[j + 1]? = some ls[j + 1] := List.getElem?_eq_getElem hj
    generalize hl0 : ls[j] = l at hx0
    generalize hl1 : ls[j + 1] = l' at hx1
    have HS := Lib.hid (swapL_yes hC hx0 hx1)
    have i0' : (0 : Int) ≤ (j : Int) := by omega
    have i1' : (j : Int) + 1 < (ls.length : Int) := by omega
    have i2' : (j : Int) < (ls.length : Int) := by omega
    have HX0 := Lib.hid hx0
    have HX1 := Lib.hid hx1
    clear hx0 hx1 hl0 hl1
    go_enter Try.func24, Try.ntmps24
    go_wp2_with fail
    refine (copyJumps_ ls A c w hr hn).mono ?_
    rintro e w1 ⟨A1, c1, rfl, own1, hb1⟩
    go_wp2_with fail
    refine (is_ (iCanSwap_ ls A c j hk w1 (hr.next hb1) hm) hC).mono ?_
    rintro e w2 ⟨rfl, hb2⟩
    have hw2 := below_next hb1 hb2
    have hown2 := own_next own1 hb2
    obtain ⟨g, cap, hv, hg1, hg2⟩ := hown2.form (by omega)
    injection hv with hv1 hv2 hv3
    subst hv1 hv3
    obtain ⟨z0, hz0, p0, p1, p2, q0, q1, q2⟩ := own_at3 hown2 (show j < ls.length by omega)
    obtain ⟨z1, hz1, r0, r1, r2, s0, s1, s2⟩ := own_at3 hown2 hj
    have hgg := hg1
    obtain rfl : l = z0 := by have := HX0.out; rw [hz0] at this; injection this with this; exact this.symm
    obtain rfl : l' = z1 := by have := HX1.out; rw [hz1] at this; injection this with this; exact this.symm
    clear hz0 hz1
    have HO := Lib.hid (own_set3 (own_set3 hown2 j l') (j + 1) l)
    go_wp2_with fail
    go_region
    go_wp2
    go_ret2
    exact ⟨some ⟨g, 0, none⟩, c1, by simp [hC], by rw [HS.out]; exact World.ownsRow.drew HO.out, Below.drew ((((((hw2.setCell hgg _).setCell hgg _).setCell hgg _).setCell hgg _).setCell hgg _).setCell hgg _)⟩
  · have HS := Lib.hid (swapL_no hC)
    go_enter Try.func24, Try.ntmps24
    go_wp2_with fail
    refine (copyJumps_ ls A c w hr hn).mono ?_
    rintro e w1 ⟨A1, c1, rfl, own1, hb1⟩
    go_wp2_with fail
    refine (is_ (iCanSwap_ ls A c k hk w1 (hr.next hb1) hm) hC).mono ?_
    rintro e w2 ⟨rfl, hb2⟩
    have hw2 := below_next hb1 hb2
    have hown2 := own_next own1 hb2
    go_wp2
    go_ret2
    exact ⟨A1, c1, by simp [hC], by rw [HS.out]; exact hown2, hw2⟩
end Go.Proofs.Ytbcgokpamhgabaa

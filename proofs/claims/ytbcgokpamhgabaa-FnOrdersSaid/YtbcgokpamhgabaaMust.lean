/- The contracts of disturbsOne, l23Before and MustPrecede. -/
import Derived.Test.YtbcgokpamhgabaaChecked
import Derived.Test.YtbcgokpamhgabaaMem
import Derived.Tactics
import Derived.Tactics2
import Derived.WalkKit
import Derived.WalkSpells
import Derived.WalkLawsBesides
import Derived.Deep.QuietTactic
import Derived.BigQuiet
import Derived.BigGuardPart
import Derived.Lib.QuietBelow
import Derived.OwnWalk
import Derived.KernelRfl
import Derived.Test.YtbcgokpamhgabaaOrdB
import Derived.Test.YtbcgokpamhgabaaMustP
import Derived.Test.YtbcgokpamhgabaaTail
set_option linter.unusedVariables false
namespace Go.Proofs.Ytbcgokpamhgabaa
open Go.RowKit Go.Sort

theorem disturbsOne_ (l : Ln) (xs : List Ln) (A : Option Addr) (n c : Nat) (w : World) (hn : xs.length = n) (hr : Rd w w.heap.size A (flat xs)) (hm : n ≤ 9223372036854775807) :
    Calls Try.prog 96 #[.agg #[.int .i64 l.f, .int .i64 l.o, .int .i64 l.t], .slice A n c] w fun e w' => e = .returned (.bool (anyD l xs)) ∧ Below w.heap.size w w' := by
  subst hn
  go_enter Try.func96, Try.ntmps96
  go_wp2
  go_loopw [9] (fun i wr => ∃ k : Nat, k ≤ xs.length ∧ i = .int .i64 k ∧ anyD l (xs.take k) = false ∧ wr.cell? ⟨w.heap.size, 0, none⟩ = some (.int .i64 l.f) ∧ wr.cell? ⟨w.heap.size, 1, none⟩ = some (.int .i64 l.o) ∧ wr.cell? ⟨w.heap.size, 2, none⟩ = some (.int .i64 l.t) ∧
      w.heap.size < wr.heap.size ∧ Below w.heap.size w wr) (fun i _ => xs.length - (intOf i).toNat)
  case atStart => exact ⟨0, Nat.zero_le _, rfl, rfl, by simp [go_sem], by simp [go_sem], by simp [go_sem], by simp, (Below.refl _ _).alloc (Nat.le_refl _) _⟩
  case round =>
    obtain ⟨k, hk, rfl, hfalse, c0, c1, c2, hz, hb⟩ := hrel
    by_cases hlt : k < xs.length
    · obtain ⟨b, off, x, rfl, hbl, hx, h0, h1, h2⟩ := (hr.below hb).line hlt
      have H := Lib.hid hx
      have HF := Lib.hid hfalse
      have hbz : b < wr.heap.size := by omega
      clear hr hx hfalse
      rcases Bool.eq_false_or_eq_true (disturbB l x) with hd | hd
      · go_wp2_with fail
        refine (is_ (iDoDisturb_ l x _) hd).mono ?_
        rintro e w2 ⟨rfl, hb2⟩
        have hw2 : Below w.heap.size w w2 := below_step (hb.alloc hb.size _) hb2 (by simp; omega)
        go_wp2
        go_ret
        exact ⟨ret_bool (anyD_yes H.out hd).symm, hw2⟩
      · go_wp2_with fail
        refine (is_ (iDoDisturb_ l x _) hd).mono ?_
        rintro e w2 ⟨rfl, hb2⟩
        have hw2 : Below w.heap.size w w2 := below_step (hb.alloc hb.size _) hb2 (by simp; omega)
        have hz2 : wr.heap.size < w2.heap.size := by have := hb2.size; simp at this; omega
        have d0 : w2.cell? ⟨w.heap.size, 0, none⟩ = some (.int .i64 l.f) := by rw [hb2.cell (p := ⟨w.heap.size, 0, none⟩) (by show w.heap.size < _; simp; omega), World.cell?_alloc_lt _ _ _ (by show w.heap.size < _; omega)]; exact c0
        have d1 : w2.cell? ⟨w.heap.size, 1, none⟩ = some (.int .i64 l.o) := by rw [hb2.cell (p := ⟨w.heap.size, 1, none⟩) (by show w.heap.size < _; simp; omega), World.cell?_alloc_lt _ _ _ (by show w.heap.size < _; omega)]; exact c1
        have d2 : w2.cell? ⟨w.heap.size, 2, none⟩ = some (.int .i64 l.t) := by rw [hb2.cell (p := ⟨w.heap.size, 2, none⟩) (by show w.heap.size < _; simp; omega), World.cell?_alloc_lt _ _ _ (by show w.heap.size < _; omega)]; exact c2
        go_wp2
        go_roundw
        case rel => exact ⟨k + 1, by omega, by go_num, anyD_next H.out HF.out hd, d0, d1, d2, by omega, hw2⟩
        case measure => simp [intOf]; omega
    · go_wp2
      go_ret
      have e : k = xs.length := by omega
      subst e
      rw [List.take_length] at hfalse
      exact ⟨ret_bool hfalse.symm, hb⟩
set_option maxRecDepth 100000 in
set_option maxHeartbeats 1000000 in
theorem iMustPrecede_ (ls : List Ln) (A : Option Addr) (c : Nat) (i k : Int) (hi : I64 i) (hk : I64 k) (w : World) (hr : Rd w w.heap.size A (flat ls)) (hn : ls.length ≤ 1048576) :
    Calls Try.prog 28 #[.slice A ls.length c, .int .i64 i, .int .i64 k] w fun e w' => e = .returned (.bool (mustB ls i k)) ∧ Below w.heap.size w w' := by
  obtain ⟨ia, ib⟩ := hi
  obtain ⟨ka, kb⟩ := hk
  by_cases h1 : i < 0
  · have HB := Lib.hid (mustB_no (ls := ls) (i := i) (k := k) (by omega))
    go_enter Try.func28, Try.ntmps28
    go_wp2
    go_ret
    exact ⟨ret_bool HB.out.symm, Below.refl _ _⟩
  · by_cases h2 : k ≤ i
    · have HB := Lib.hid (mustB_no (ls := ls) (i := i) (k := k) (by omega))
      go_enter Try.func28, Try.ntmps28
      go_wp2
      go_ret
      exact ⟨ret_bool HB.out.symm, Below.refl _ _⟩
    · by_cases h3 : (ls.length : Int) ≤ k
      · have HB := Lib.hid (mustB_no (ls := ls) (i := i) (k := k) (by omega))
        go_enter Try.func28, Try.ntmps28
        go_wp2
        go_ret
        exact ⟨ret_bool HB.out.symm, Below.refl _ _⟩
      · obtain ⟨i, rfl⟩ := Int.eq_ofNat_of_zero_le (show 0 ≤ i by omega)
        obtain ⟨k, rfl⟩ := Int.eq_ofNat_of_zero_le (show 0 ≤ k by omega)
        have hik : i < k := by omega
        have hkn : k < ls.length := by omega
        have HB := Lib.hid (mustB_yes hik hkn)
        obtain ⟨i0, hi0, hz0, hz1, hz2⟩ := info_parts infoLine
        obtain ⟨b, off, x, rfl, hbl, hx, x0, x1, x2⟩ := hr.line (show i < ls.length by omega)
        have HS := Lib.hid (after_start hx)
        have g1 : ¬ (i : Int) < 0 := by omega
        have g2 : (i : Int) < (k : Int) := by omega
        have g3 : (k : Int) < (ls.length : Int) := by omega
        have g4 : (0 : Int) ≤ (i : Int) := by omega
        clear h1 h2 h3 hx
        go_enter Try.func28, Try.ntmps28
        go_wp2
        go_loopw [7, 8] (fun v jj wr => ∃ (j : Nat) (V : Option Addr) (cv : Nat), i < j ∧ j ≤ k + 1 ∧ jj = .int .i64 j ∧ v = .slice V (afterL ls i j).length cv ∧ wr.ownsRow w.heap.size 34 3 (.slice V (afterL ls i j).length cv) (afterL ls i j).length (flat (afterL ls i j)) ∧
            (k < j → accB (mpL ls i k) ls i k k = false) ∧ Below w.heap.size w wr) (fun _ jj _ => k + 1 - (intOf jj).toNat)
        case atStart => exact ⟨i + 1, some ⟨w.heap.size, 0, none⟩, 1, by omega, by omega, by go_num, by rw [HS.out]; rfl, by rw [HS.out]; exact World.ownsRow_lit w #[.int .i64 x.f, .int .i64 x.o, .int .i64 x.t] 1 (Nat.le_refl _) (by simp [maxLen]) rfl, fun h => by omega, (Below.refl _ _).alloc (Nat.le_refl _) _⟩
        case round =>
          obtain ⟨j, V, cv, hij, hj, rfl, rfl, hown, hno, hb⟩ := hrel
          have hle := after_le ls i j
          have HN := Lib.hid hno
          clear hno x0 x1 x2
          by_cases hjk : j ≤ k
          · obtain ⟨b', off', y, hA, hbl', hy, y0, y1, y2⟩ := (hr.below hb).line (show j < ls.length by omega)
            injection hA with hA
            injection hA with e1 e2
            subst e1 e2
            have hz := Lib.hid (show anyD y (afterL ls i j) = accB (mpL ls i j) ls i j j by
              have := after_any (ls := ls) (i := i) (k := j) j (Nat.le_refl _)
              rw [List.getD_eq_getElem?_getD, hy] at this
              exact this)
            have HY := Lib.hid hy
            have HR := Lib.hid hr
            have hbz : b < wr.heap.size := by have := hb.size; omega
            have j0 : (0 : Int) ≤ (j : Int) := by omega
            have j1 : (j : Int) < (ls.length : Int) := by omega
            clear hy hr
            rcases Bool.eq_false_or_eq_true (accB (mpL ls i j) ls i j j) with ht | ht
            · by_cases hje : j = k
              · subst hje
                go_wp2_with fail
                refine (is_ (disturbsOne_ y (afterL ls i j) V _ cv _ rfl (rd_of_own hown) (by omega)) (hz.out.trans ht)).mono ?_
                rintro e w2 ⟨rfl, hb2⟩
                have hw2 := below_next hb hb2
                go_wp2
                go_ret
                exact ⟨ret_bool (HB.out.trans ht).symm, hw2⟩
              · have hje' : ((j : Int) == (k : Int)) = false := by simp; omega
                have HM := Lib.hid (after_more hij HY.out ht)
                go_wp2_with fail
                refine (is_ (disturbsOne_ y (afterL ls i j) V _ cv _ rfl (rd_of_own hown) (by omega)) (hz.out.trans ht)).mono ?_
                rintro e w2 ⟨rfl, hb2⟩
                have hw2 := below_next hb hb2
                have hown2 := own_next hown hb2
                have q0 := (hb2.cell (p := ⟨b, off + j * 3, none⟩) hbz).trans y0
                have q1 := (hb2.cell (p := ⟨b, off + j * 3 + 1, none⟩) hbz).trans y1
                have q2 := (hb2.cell (p := ⟨b, off + j * 3 + 2, none⟩) hbz).trans y2
                clear hown y0 y1 y2
                go_wp2_with (first
                  | (at_builtin; refine wpList_append_own _ rfl (.tmp 43) (.tmp 48) 24 rfl w.heap.size 34 i0 _ 3 24 Try.underlying24 hi0 hz0 hz1 hz2 rfl (by decide) _ _ _ rfl (hown2.alloc _) ⟨w2.heap.size, 0, none⟩ 1 1 [.int .i64 y.f, .int .i64 y.o, .int .i64 y.t] rfl rfl (World.news_of_block (cs := #[.int .i64 y.f, .int .i64 y.o, .int .i64 y.t]) (t := 34) (fr := (0, 0)) (heap_alloc_new w2 _)) (by intro u hu; simp at hu; rcases hu with rfl | rfl | rfl <;> rfl) (by unfold maxLen; omega) (by omega) (by have := hw2.size; simp; omega) ?_; intro v' w3 hown3 hgrow hnil))
                have hw3 : Below w.heap.size w w3 := ((hw2.alloc hw2.size _).grown hgrow (by have := hw2.size; simp; omega) (fun g hg => (hown2.lt g hg).1))
                obtain ⟨A', c', hv⟩ := own_value hown3
                subst hv
                clear hown2 hgrow hnil
                have hlen : (afterL ls i (j + 1)).length = (afterL ls i j).length + 1 := by rw [HM.out]; simp
                go_roundw
                case rel => exact ⟨j + 1, A', c', by omega, by omega, by go_num, by rw [hlen], by rw [hlen, HM.out, flat_append]; exact hown3, fun h => by omega, hw3⟩
                case measure => simp [intOf]; omega
            · have HM := Lib.hid (after_same hij ht)
              go_wp2_with fail
              refine (is_ (disturbsOne_ y (afterL ls i j) V _ cv _ rfl (rd_of_own hown) (by omega)) (hz.out.trans ht)).mono ?_
              rintro e w2 ⟨rfl, hb2⟩
              have hw2 := below_next hb hb2
              have hown2 := own_next hown hb2
              have hfin : k < j + 1 → accB (mpL ls i k) ls i k k = false := by
                intro h
                obtain rfl : j = k := by omega
                exact ht
              have HF := Lib.hid hfin
              clear hown hfin
              go_wp2
              go_roundw
              case rel => exact ⟨j + 1, V, cv, by omega, by omega, by go_num, by rw [HM.out], by rw [HM.out]; exact hown2, HF.out, hw2⟩
              case measure => simp [intOf]; omega
          · go_wp2
            go_ret
            exact ⟨ret_bool (HB.out.trans (HN.out (by omega))).symm, hb⟩
end Go.Proofs.Ytbcgokpamhgabaa

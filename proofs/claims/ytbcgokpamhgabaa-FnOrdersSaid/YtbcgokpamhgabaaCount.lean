/- The contracts of mayFollow, l23Needs and CountOrders. -/
import Derived.Test.YtbcgokpamhgabaaChecked
import Derived.Test.YtbcgokpamhgabaaMem
import Derived.Tactics
import Derived.Tactics2
import Derived.WalkKit
import Derived.WalkSpells
import Derived.WalkLawsBesides
import Derived.Deep.QuietTactic
import Derived.BigQuiet
import Derived.BigGuardPart
import Derived.Lib.QuietBelow
import Derived.OwnWalk
import Derived.KernelRfl
import Derived.Test.YtbcgokpamhgabaaOrdB
import Derived.Test.YtbcgokpamhgabaaMust
import Derived.Test.YtbcgokpamhgabaaCountP
import Derived.Test.YtbcgokpamhgabaaBoard
import Derived.Test.YtbcgokpamhgabaaTail
set_option linter.unusedVariables false
set_option maxRecDepth 100000
namespace Go.Proofs.Ytbcgokpamhgabaa
open Go.RowKit Go.Sort

set_option maxHeartbeats 1000000 in
theorem mayFollow_ (ls : List Ln) (A : Option Addr) (c d k : Nat) (w : World) (hr : Rd w w.heap.size A (flat ls)) (hm : ls.length ≤ 10) (hk : k < ls.length) (hd : B63 d) :
    Calls Try.prog 99 #[.slice A ls.length c, .int .i64 d, .int .i64 k] w fun e w' => e = .returned (.bool (okB ls k d k)) ∧ Below w.heap.size w w' := by
  obtain ⟨b, off, y, rfl, hbl, hy, y0, y1, y2⟩ := hr.line hk
  have HY := Lib.hid hy
  have k0 : (0 : Int) ≤ (k : Int) := by omega
  have k1 : (k : Int) < (ls.length : Int) := by omega
  clear hy
  go_enter Try.func99, Try.ntmps99
  go_wp2_with fail
  go_loopw [7] (fun iv wr => ∃ i : Nat, i ≤ k ∧ iv = .int .i64 i ∧ okB ls k d i = true ∧ Below w.heap.size w wr) (fun iv _ => k - (intOf iv).toNat)
  case atStart => exact ⟨0, Nat.zero_le _, rfl, rfl, Below.refl _ _⟩
  case round =>
    obtain ⟨i, hi, rfl, hok, hb⟩ := hrel
    by_cases hik : i < k
    · obtain ⟨b2, o2, x, hA, hl2, hx, x0, x1, x2⟩ := (hr.below hb).line (show i < ls.length by omega)
      injection hA with hA
      injection hA with e1 e2
      subst e1 e2
      have z0 := (hb.cell (p := ⟨b, off + k * 3, none⟩) hbl).trans y0
      have z1 := (hb.cell (p := ⟨b, off + k * 3 + 1, none⟩) hbl).trans y1
      have z2 := (hb.cell (p := ⟨b, off + k * 3 + 2, none⟩) hbl).trans y2
      have HN := Lib.hid (ok_next (s := d) hx HY.out)
      have HOK := Lib.hid hok
      have i0 : (0 : Int) ≤ (i : Int) := by omega
      have i1 : (i : Int) < (ls.length : Int) := by omega
      have i2 : (i : Int) < (k : Int) := by omega
      have hbz : b < wr.heap.size := by have := hb.size; omega
      have hc : ∀ (a : Addr) (p : Regrown) (W : World), a.block < W.heap.size → (grow (redrawn W p.d) p.os).cell? a = W.cell? a := fun a p W h => (below_regrown W p.d p.os).cell h
      clear hx hok y0 y1 y2
      rcases Bool.eq_false_or_eq_true (d.testBit i) with hbt | hbt
      · have HX : Hid (okB ls k d (i + 1) = true) := Lib.hid (by rw [HN.out, HOK.out, hbt]; rfl)
        go_wp2_with fail
        refine wp_region_quiet_below (by kernel_rfl) (by kernel_rfl) ?_
        repeat (go_big_quiet_step (first | (go_at_call 98; exact rg_same (is_ (hasBit_ d i hd (by omega) _) hbt))))
        refine wpQuiet_nil ?_
        intro w3 hw3
        obtain ⟨p3, hp3⟩ := hw3
        have hb3 := of_rg hp3
        clear hp3 p3 hc
        have hw3 : Below w.heap.size w w3 := below_next hb hb3
        go_wp2
        go_roundw
        case rel => exact ⟨i + 1, by omega, by go_num, HX.out, hw3⟩
        case measure => simp [intOf]; omega
      · rcases Bool.eq_false_or_eq_true (disturbB x y) with hdz | hdz
        · have HX : Hid (okB ls k d k = false) := Lib.hid (ok_down (i := i + 1) (by omega) (by rw [HN.out, hbt, hdz]; simp))
          go_wp2_with fail
          refine wp_region_quiet_below (by kernel_rfl) (by kernel_rfl) ?_
          repeat (go_big_quiet_step (first | (go_at_call 98; exact rg_same (is_ (hasBit_ d i hd (by omega) _) hbt)) | (go_at_call 26; exact Calls.regrown_of (is_ (iDoDisturb_ x y _) hdz))))
          refine wpQuiet_nil ?_
          intro w3 hw3
          obtain ⟨p3, hp3⟩ := hw3
          have hb3 := of_rg hp3
          clear hp3 p3 hc
          have hw3 : Below w.heap.size w w3 := below_next hb hb3
          go_wp2
          go_ret
          exact ⟨ret_bool HX.out.symm, hw3⟩
        · have HX : Hid (okB ls k d (i + 1) = true) := Lib.hid (by rw [HN.out, HOK.out, hbt, hdz]; rfl)
          go_wp2_with fail
          refine wp_region_quiet_below (by kernel_rfl) (by kernel_rfl) ?_
          repeat (go_big_quiet_step (first | (go_at_call 98; exact rg_same (is_ (hasBit_ d i hd (by omega) _) hbt)) | (go_at_call 26; exact Calls.regrown_of (is_ (iDoDisturb_ x y _) hdz))))
          refine wpQuiet_nil ?_
          intro w3 hw3
          obtain ⟨p3, hp3⟩ := hw3
          have hb3 := of_rg hp3
          clear hp3 p3 hc
          have hw3 : Below w.heap.size w w3 := below_next hb hb3
          go_wp2
          go_roundw
          case rel => exact ⟨i + 1, by omega, by go_num, HX.out, hw3⟩
          case measure => simp [intOf]; omega
    · have e : i = k := by omega
      subst e
      go_wp2
      go_ret
      exact ⟨ret_bool hok.symm, hb⟩
def countL (ls : List Ln) : Int := if 10 < ls.length then -1 else val ls (2 ^ ls.length - 1)
theorem count_no {ls : List Ln} (h : 10 < ls.length) : countL ls = -1 := by rw [countL, if_pos h]
theorem count_yes {ls : List Ln} (h : ls.length ≤ 10) : countL ls = val ls (2 ^ ls.length - 1) := by rw [countL, if_neg (by omega)]
set_option maxHeartbeats 2000000 in
theorem iCountOrders_ (ls : List Ln) (A : Option Addr) (c : Nat) (w : World) (hr : Rd w w.heap.size A (flat ls)) (hm : ls.length ≤ 9223372036854775807) :
    Calls Try.prog 23 #[.slice A ls.length c] w fun e w' => e = .returned (.int .i64 (countL ls)) ∧ Below w.heap.size w w' := by
  by_cases h10 : 10 < ls.length
  · have HL := Lib.hid (count_no h10)
    go_enter Try.func23, Try.ntmps23
    go_wp2
    go_ret
    exact ⟨ret_int HL.out.symm, Below.refl _ _⟩
  · have h10' : ls.length ≤ 10 := by omega
    have HL := Lib.hid (count_yes h10')
    have infoInt' : (Try.prog.info? 3).map (fun i => (i.zero, i.size, i.bytes)) = some (some (.int .i64 0), 1, 8) := by kernel_rfl
    obtain ⟨i0, hi0, hz0, hz1, hz2⟩ := info_parts infoInt'
    have hsh := i64_pow ls.length (by omega)
    have hN1 : pow2 ls.length ≤ 1024 := by
      have : 2 ^ ls.length ≤ 2 ^ 10 := Nat.pow_le_pow_right (by omega) h10'
      simpa [pow2] using this
    have hN0 : 0 < pow2 ls.length := Nat.two_pow_pos _
    have hNe : Hid (pow2 ls.length = 2 ^ ls.length) := Lib.hid rfl
    generalize pow2 ls.length = N at hsh hN1 hN0 hNe
    have n0 : (0 : Int) < (N : Int) := by omega
    clear infoInt'
    go_enter Try.func23, Try.ntmps23
    go_wp2_with (first | (at_make; refine wpList_make_full _ rfl (.tmp 12) (.tmp 12) 69 rfl w.heap.size 3 i0 _ 1 Try.underlying69 hi0 hz0 hz1 .i64 .i64 _ _ N rfl rfl hsh hsh (by rw [hz2]; omega) (by unfold maxLen; omega) (Nat.le_refl _) ?_; intro w1 hown hg; have hb1 : Below w.heap.size w w1 := (Below.refl _ _).grown hg (Nat.le_refl _) (by simp); rw [made_ints] at hown; obtain ⟨z, _, u0, v0⟩ := own_at1 hown hN0))
    have hown1 := own_set1 hown 0 1
    rw [pl_start ls N hN0] at hown1
    have hw1 : Below w.heap.size w (w1.setCell ⟨w.heap.size, 0, none⟩ (.int .i64 1)) := hb1.setCell (by simp) _
    clear hown hg hb1 u0 v0
    go_wp2_with fail
    go_loopw [18] (fun dv wr => ∃ d : Nat, d ≤ N ∧ dv = .int .i64 d ∧ wr.ownsRow w.heap.size 3 1 (.slice (some ⟨w.heap.size, 0, none⟩) N N) N (ints (pl ls N d 0)) ∧ Below w.heap.size w wr) (fun dv _ => N - (intOf dv).toNat)
    case atStart => exact ⟨0, Nat.zero_le _, rfl, hown1, hw1⟩
    case round =>
      obtain ⟨d, hd, rfl, hownd, hb⟩ := hrel
      clear hown1 hw1
      by_cases hdn : d < N
      · have hB : B63 d := by unfold B63; omega
        have d0 : (0 : Int) ≤ (d : Int) := by omega
        have d1 : (d : Int) < (N : Int) := by omega
        go_wp2_with fail
        go_loopw [6] (fun jv wj => ∃ j : Nat, j ≤ ls.length ∧ jv = .int .i64 j ∧ wj.ownsRow w.heap.size 3 1 (.slice (some ⟨w.heap.size, 0, none⟩) N N) N (ints (pl ls N d j)) ∧ Below w.heap.size w wj) (fun jv _ => ls.length - (intOf jv).toNat)
        case atStart => exact ⟨0, Nat.zero_le _, rfl, hownd, hb⟩
        case round =>
          obtain ⟨j, hj, rfl, hownj, hbj⟩ := hrel
          clear hownd
          by_cases hjn : j < ls.length
          · have HO := Lib.hid hownj
            have j0 : (0 : Int) ≤ (j : Int) := by omega
            have j1 : (j : Int) < (ls.length : Int) := by omega
            have RJ : Rd wr wr.heap.size A (flat ls) := (hr.below hbj).more hbj.size
            rcases Bool.eq_false_or_eq_true (d.testBit j) with hbt | hbt
            · have HX := Lib.hid (pl_no (N := N) hjn (.inl hbt))
              clear hownj
              go_wp2_with fail
              refine (is_ (hasBit_ d j hB (by omega) _) hbt).mono ?_
              rintro e w2 ⟨rfl, rfl⟩
              go_wp2
              go_roundw
              case rel => exact ⟨j + 1, by omega, by go_num, by rw [HX.out]; exact HO.out, hbj⟩
              case measure => simp [intOf]; omega
            · rcases Bool.eq_false_or_eq_true (okB ls j d j) with hok | hok
              · have hpj := i64_pow j (by omega)
                obtain ⟨S, hS⟩ : ∃ S : Nat, S = 2 ^ j + d := ⟨_, rfl⟩
                have hor : bits .or .i64 (d : Int) ((pow2 j : Nat) : Int) = (S : Int) := by rw [i64_or d (pow2 j) hB (b63_pow2 (by omega)), hS, ← or_add hbt]; rfl
                have hSN : S < N := by
                  rw [hS, ← or_add hbt, hNe.out]
                  exact Nat.or_lt_two_pow (by rw [← hNe.out]; exact hdn) (Nat.pow_lt_pow_right (by omega) hjn)
                have HY := Lib.hid (pl_yes (N := N) hjn hbt hok)
                rw [← hS] at HY
                have HP := Lib.hid (push_at ls d j)
                have s0 : (0 : Int) ≤ (S : Int) := by omega
                have s1 : (S : Int) < (N : Int) := by omega
                have hSl : Hid (S < N) := Lib.hid hSN
                have hdl : Hid (d < N) := Lib.hid hdn
                clear hownj hS hSN
                go_wp2_with fail
                refine (is_ (hasBit_ d j hB (by omega) _) hbt).mono ?_
                rintro e w2 ⟨rfl, rfl⟩
                go_wp2_with fail
                refine (is_ (mayFollow_ ls A c d j _ RJ h10' hjn hB) hok).mono ?_
                rintro e w2 ⟨rfl, hb2⟩
                have hw2 := below_next hbj hb2
                have hown2 := own_next HO.out hb2
                obtain ⟨z1, hz1', u1, v1⟩ := own_at1 hown2 hSl.out
                obtain ⟨z2, hz2', u2, v2⟩ := own_at1 hown2 hdl.out
                have e1 : z1 = pushW ls d j S := by rw [pl_get hSl.out] at hz1'; injection hz1' with h; exact h.symm
                have e2 : z2 = val ls d := by rw [pl_get hdl.out, HP.out] at hz2'; injection hz2' with h; exact h.symm
                have E1 := Lib.hid e1
                have E2 := Lib.hid e2
                have hzz : w.heap.size < w2.heap.size := (hown2.lt w.heap.size rfl).2
                have hc : ∀ (a : Addr) (p : Regrown) (W : World), a.block < W.heap.size → (grow (redrawn W p.d) p.os).cell? a = W.cell? a := fun a p W h => (below_regrown W p.d p.os).cell h
                have HO2 := Lib.hid hown2
                clear hz1' hz2' e1 e2 hown2
                go_wp2_with fail
                refine region_tail 13 (by kernel_rfl) (by kernel_rfl) ?_
                simp only [List.take_succ_cons, List.take_zero, List.drop_succ_cons, List.drop_zero]
                repeat (go_big_quiet_step (fail))
                refine wpQuiet_nil ?_
                intro w3 hw3
                obtain ⟨p3, hp3⟩ := hw3
                have hb3 := of_rg hp3
                clear hp3 p3
                have hown3 := own_next HO2.out hb3
                have hw4 := below_next hw2 hb3
                obtain ⟨z3, _, u3, v3⟩ := own_at1 hown3 hSl.out
                have HQ := Lib.hid (own_set1 hown3 S (wrap64 (z1 + z2)))
                have HW := Lib.hid (wr_64 (z1 + z2))
                clear hown3
                go_wp2
                go_roundw
                case rel => exact ⟨j + 1, by omega, by go_num, by rw [HY.out, ← E1.out, ← E2.out, HW.out]; exact HQ.out, hw4.setCell (by simp) _⟩
                case measure => simp [intOf]; omega
              · have HX := Lib.hid (pl_no (N := N) hjn (.inr hok))
                clear hownj
                go_wp2_with fail
                refine (is_ (hasBit_ d j hB (by omega) _) hbt).mono ?_
                rintro e w2 ⟨rfl, rfl⟩
                go_wp2_with fail
                refine (is_ (mayFollow_ ls A c d j _ RJ h10' hjn hB) hok).mono ?_
                rintro e w2 ⟨rfl, hb2⟩
                go_wp2
                go_roundw
                case rel => exact ⟨j + 1, by omega, by go_num, by rw [HX.out]; exact own_next HO.out hb2, below_next hbj hb2⟩
                case measure => simp [intOf]; omega
          · have e : j = ls.length := by omega
            subst e
            rw [pl_row] at hownj
            go_wp2
            go_roundw
            case rel => exact ⟨d + 1, by omega, by go_num, hownj, hbj⟩
            case measure => simp [intOf]; omega
      · have e : d = N := by omega
        subst e
        obtain ⟨M, hM⟩ : ∃ M : Nat, M + 1 = d := ⟨d - 1, by omega⟩
        have hMi : (d : Int) - 1 = (M : Int) := by omega
        have hMw : IntKind.i64.wrap ((d : Int) - 1) = (M : Int) := by rw [hMi]; exact IntWalk.i64_in _ (by omega)
        have m0 : (0 : Int) ≤ (M : Int) := by omega
        have m1 : (M : Int) < (d : Int) := by omega
        obtain ⟨z, hz, u0, v0⟩ := own_at1 hownd (show M < d by omega)
        have e1 : z = countL ls := by
          rw [pl_get (by omega), push_end ls M d (by omega)] at hz
          injection hz with h
          rw [← h, HL.out, ← hNe.out]
          congr 1
          omega
        have E1 := Lib.hid e1
        clear e1 hz hM
        go_wp2
        go_ret
        exact ⟨ret_int E1.out, hb⟩
end Go.Proofs.Ytbcgokpamhgabaa

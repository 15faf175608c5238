/- The contract of the reference's CountOrders. -/
import Derived.Test.YtbefkagmgpcfdaaChecked
import Derived.Test.YtbefkagmgpcfdaaMem
import Derived.Tactics
import Derived.Tactics2
import Derived.WalkKit
import Derived.WalkSpells
import Derived.WalkLawsBesides
import Derived.Deep.QuietTactic
import Derived.BigQuiet
import Derived.BigGuardPart
import Derived.Lib.QuietBelow
import Derived.OwnWalk
import Derived.KernelRfl
import Derived.Test.YtbefkagmgpcfdaaOrdB
import Derived.Test.YtbefkagmgpcfdaaMust
import Derived.Test.YtbefkagmgpcfdaaCountP
import Derived.Test.YtbefkagmgpcfdaaBoard
import Derived.Test.YtbefkagmgpcfdaaTail
import Derived.Test.YtbefkagmgpcfdaaCount
set_option linter.unusedVariables false
namespace Go.Proofs.Ytbefkagmgpcfdaa
open Go.RowKit Go.Sort

set_option maxHeartbeats 2000000 in
theorem sCountOrders_ (ls : List Ln) (A : Option Addr) (c : Nat) (w : World) (hr : Rd w w.heap.size A (flat ls)) (hm : ls.length ≤ 9223372036854775807) :
    Calls Try.prog 35 #[.slice A ls.length c] w fun e w' => e = .returned (.int .i64 (countL ls)) ∧ Below w.heap.size w w' := by
  by_cases h10 : 10 < ls.length
  · have HL := Lib.hid (count_no h10)
    go_enter Try.func35, Try.ntmps35
    go_wp2
    go_ret
    exact ⟨ret_int HL.out.symm, Below.refl _ _⟩
  · have h10' : ls.length ≤ 10 := by omega
    have HL := Lib.hid (count_yes h10')
    have infoInt' : (Try.prog.info? 3).map (fun i => (i.zero, i.size, i.bytes)) = some (some (.int .i64 0), 1, 8) := by kernel_rfl
    obtain ⟨i0, hi0, hz0, hz1, hz2⟩ := info_parts infoInt'
    have hsh := i64_pow ls.length (by omega)
    have hN1 : pow2 ls.length ≤ 1024 := by
      have : 2 ^ ls.length ≤ 2 ^ 10 := Nat.pow_le_pow_right (by omega) h10'
      simpa [pow2] using this
    have hN0 : 0 < pow2 ls.length := Nat.two_pow_pos _
    have hNe : Hid (pow2 ls.length = 2 ^ ls.length) := Lib.hid rfl
    generalize pow2 ls.length = N at hsh hN1 hN0 hNe
    have n0 : (0 : Int) < (N : Int) := by omega
    clear infoInt'
    go_enter Try.func35, Try.ntmps35
    go_wp2_with fail
    refine (l23Needs_ ls A c w hr h10').mono ?_
    rintro e w1 ⟨A1, c1, rfl, own1, hb1⟩
    go_wp2_with (first | (at_make; refine wpList_make_full _ rfl (.tmp 15) (.tmp 15) 56 rfl w1.heap.size 3 i0 _ 1 Try.underlying56 hi0 hz0 hz1 .i64 .i64 _ _ N rfl rfl hsh hsh (by rw [hz2]; omega) (by unfold maxLen; omega) (Nat.le_refl _) ?_; intro w2 hown hg; have hb2 : Below w1.heap.size w1 w2 := (Below.refl _ _).grown hg (Nat.le_refl _) (by simp); rw [made_ints] at hown; obtain ⟨z, _, u0, v0⟩ := own_at1 hown hN0))
    have hown1 := own_set1 hown 0 1
    rw [wl_start ls hN0] at hown1
    have hw2 : Below w1.heap.size w1 (w2.setCell ⟨w1.heap.size, 0, none⟩ (.int .i64 1)) := hb2.setCell (by simp) _
    have rdN := rd_of_own own1
    clear hown hg hb2 u0 v0
    go_wp2_with fail
    go_loopw [6] (fun sv wr => ∃ s : Nat, 1 ≤ s ∧ s ≤ N ∧ sv = .int .i64 s ∧ wr.ownsRow w1.heap.size 3 1 (.slice (some ⟨w1.heap.size, 0, none⟩) N N) N (ints (wl ls s ++ List.replicate (N - s) 0)) ∧ Below w1.heap.size w1 wr) (fun sv _ => N - (intOf sv).toNat)
    case atStart => exact ⟨1, by omega, by omega, rfl, hown1, hw2⟩
    case round =>
      obtain ⟨s, hs1, hs, rfl, howns, hb⟩ := hrel
      clear hown1 hw2
      by_cases hsn : s < N
      · have hB : B63 s := by unfold B63; omega
        rw [wl_mid ls hsn] at howns
        go_wp2_with fail
        go_loopw [7] (fun kv wk => ∃ k : Nat, k ≤ ls.length ∧ kv = .int .i64 k ∧ wk.ownsRow w1.heap.size 3 1 (.slice (some ⟨w1.heap.size, 0, none⟩) N N) N (ints (wl ls s ++ [accW (wl ls s) ls s k] ++ List.replicate (N - (s + 1)) 0)) ∧ Below w1.heap.size w1 wk) (fun kv _ => ls.length - (intOf kv).toNat)
        case atStart => exact ⟨0, Nat.zero_le _, rfl, howns, hb⟩
        case round =>
          obtain ⟨k, hk, rfl, hownk, hbk⟩ := hrel
          clear howns
          by_cases hkn : k < ls.length
          · obtain ⟨b, off, q, rfl, hbl, hq, x0⟩ := (rdN.below hbk).int (show k < (needL ls ls.length).length by rw [needL_length]; exact hkn)
            rw [needL_get hkn] at hq
            injection hq with hq
            have hbi := bit_of s k hB
            have hql := need_lt ls k k
            have hq2 : 2 ^ k ≤ 2 ^ 10 := Nat.pow_le_pow_right (by omega) (by omega)
            have hand := i64_and (needN ls k k) s (b63_of (by omega)) hB
            have heq : (((needN ls k k &&& s : Nat) : Int) == ((needN ls k k : Nat) : Int)) = okB ls k s k := by
              rw [Bool.eq_iff_iff, ← need_ok, beq_iff_eq]
              omega
            have hcnd : Hid (condB ls s k = (s.testBit k && okB ls k s k)) := Lib.hid rfl
            generalize needN ls k k = qn at hq hand heq hql
            generalize qn &&& s = qs at hand heq
            subst hq
            have k0 : (0 : Int) ≤ (k : Int) := by omega
            have k1 : (k : Int) < (ls.length : Int) := by omega
            have s0 : (0 : Int) ≤ (s : Int) := by omega
            have s1 : (s : Int) < (N : Int) := by omega
            have HO := Lib.hid hownk
            have hbz : b < wr.heap.size := by have := hbk.size; omega
            have hc : ∀ (a : Addr) (p : Regrown) (W : World), a.block < W.heap.size → (grow (redrawn W p.d) p.os).cell? a = W.cell? a := fun a p W h => (below_regrown W p.d p.os).cell h
            clear hownk hql hq2
            rcases Bool.eq_false_or_eq_true (s.testBit k) with hbt | hbt
            · rw [hbt] at hbi
              rcases Bool.eq_false_or_eq_true (okB ls k s k) with hok | hok
              · rw [hok] at heq
                have hpk := i64_pow k (by omega)
                have hle := bit_le hbt
                have hDs := bit_sub hbt
                obtain ⟨D, hD⟩ : ∃ D : Nat, D = s - 2 ^ k := ⟨_, rfl⟩
                have hsub : (s : Int) - ((pow2 k : Nat) : Int) = (D : Int) := by unfold pow2; omega
                have hwsub : IntKind.i64.wrap ((s : Int) - ((pow2 k : Nat) : Int)) = (D : Int) := by rw [hsub]; exact IntWalk.i64_in _ (by omega)
                have hDl : Hid (D < s) := Lib.hid (by omega)
                have d0 : (0 : Int) ≤ (D : Int) := by omega
                have d1 : (D : Int) < (N : Int) := by omega
                have hsl : Hid (s < N) := Lib.hid hsn
                obtain ⟨z1, hz1', u1, v1⟩ := own_at1 HO.out hsl.out
                obtain ⟨z2, hz2', u2, v2⟩ := own_at1 HO.out (show D < N by omega)
                have e1 : z1 = accW (wl ls s) ls s k := by
                  rw [List.append_assoc, List.getElem?_append_right (by rw [wl_length]; exact Nat.le_refl _), wl_length, Nat.sub_self] at hz1'
                  simp at hz1'
                  exact hz1'.symm
                have e2 : (wl ls s)[D]? = some z2 := by
                  rw [List.append_assoc, List.getElem?_append_left (by rw [wl_length]; exact hDl.out)] at hz2'
                  exact hz2'
                have HX := Lib.hid (acc_yes (L := wl ls s) (show condB ls s k = true by rw [hcnd.out, hbt, hok]; rfl) (hD ▸ e2))
                have E1 := Lib.hid e1
                have hzz : w1.heap.size < wr.heap.size := (HO.out.lt w1.heap.size rfl).2
                clear hz1' hz2' e1 e2 hle hDs hD
                go_wp2_with fail
                refine wp_region_quiet_below (by kernel_rfl) (by kernel_rfl) ?_
                repeat (go_big_quiet_step (fail))
                refine wpQuiet_nil ?_
                intro w3 hw3
                obtain ⟨p3, hp3⟩ := hw3
                have hb3 := of_rg hp3
                clear hp3 p3
                have hw3 : Below w1.heap.size w1 w3 := hbk.trans (hb3.mono hbk.size)
                have hown3 := own_next HO.out hb3
                have HO3 := Lib.hid hown3
                have t1 := (hb3.cell (p := ⟨w1.heap.size, s, none⟩) hzz).trans u1
                have t2 := (hb3.cell (p := ⟨w1.heap.size, D, none⟩) hzz).trans u2
                have hzz3 : w1.heap.size < w3.heap.size := (hown3.lt w1.heap.size rfl).2
                clear u1 u2 v1 v2 hown3
                go_wp2_with fail
                refine region_tail 15 (by kernel_rfl) (by kernel_rfl) ?_
                simp only [List.take_succ_cons, List.take_zero, List.drop_succ_cons, List.drop_zero]
                repeat (go_big_quiet_step (fail))
                refine wpQuiet_nil ?_
                intro w4 hw4
                obtain ⟨p4, hp4⟩ := hw4
                have hb4 := of_rg hp4
                clear hp4 p4
                have hown4 := own_next HO3.out hb4
                have hw4 : Below w1.heap.size w1 w4 := hw3.trans (hb4.mono hw3.size)
                obtain ⟨z4, _, u4, v4⟩ := own_at1 hown4 hsl.out
                have HQ := Lib.hid (own_set1 hown4 s (wrap64 (z1 + z2)))
                have HW := Lib.hid (wr_64 (z1 + z2))
                clear hown4
                go_wp2
                go_roundw
                case rel => exact ⟨k + 1, by omega, by go_num, by rw [HX.out, ← E1.out, HW.out, ← set_mid _ _ _ _ (wl_length ls s)]; exact HQ.out, hw4.setCell (by simp) _⟩
                case measure => simp [intOf]; omega
              · rw [hok] at heq
                have HX := Lib.hid (acc_no (L := wl ls s) (show condB ls s k = false by rw [hcnd.out, hok, Bool.and_false]))
                go_wp2_with fail
                refine wp_region_quiet_below (by kernel_rfl) (by kernel_rfl) ?_
                repeat (go_big_quiet_step (fail))
                refine wpQuiet_nil ?_
                intro w3 hw3
                obtain ⟨p3, hp3⟩ := hw3
                have hb3 := of_rg hp3
                clear hp3 p3
                have hw3 : Below w1.heap.size w1 w3 := hbk.trans (hb3.mono hbk.size)
                go_wp2
                go_roundw
                case rel => exact ⟨k + 1, by omega, by go_num, by rw [HX.out]; exact own_next HO.out hb3, hw3⟩
                case measure => simp [intOf]; omega
            · rw [hbt] at hbi
              have HX := Lib.hid (acc_no (L := wl ls s) (show condB ls s k = false by rw [hcnd.out, hbt, Bool.false_and]))
              go_wp2_with fail
              refine wp_region_quiet_below (by kernel_rfl) (by kernel_rfl) ?_
              repeat (go_big_quiet_step (fail))
              refine wpQuiet_nil ?_
              intro w3 hw3
              obtain ⟨p3, hp3⟩ := hw3
              have hb3 := of_rg hp3
              clear hp3 p3
              have hw3 : Below w1.heap.size w1 w3 := hbk.trans (hb3.mono hbk.size)
              go_wp2
              go_roundw
              case rel => exact ⟨k + 1, by omega, by go_num, by rw [HX.out]; exact own_next HO.out hb3, hw3⟩
              case measure => simp [intOf]; omega
          · have e : k = ls.length := by omega
            subst e
            rw [wl_end ls (by omega)] at hownk
            go_wp2
            go_roundw
            case rel => exact ⟨s + 1, by omega, by omega, by go_num, hownk, hbk⟩
            case measure => simp [intOf]; omega
      · have e : s = N := by omega
        subst e
        obtain ⟨M, hM⟩ : ∃ M : Nat, M + 1 = s := ⟨s - 1, by omega⟩
        have hMi : (s : Int) - 1 = (M : Int) := by omega
        have hMw : IntKind.i64.wrap ((s : Int) - 1) = (M : Int) := by rw [hMi]; exact IntWalk.i64_in _ (by omega)
        have m0 : (0 : Int) ≤ (M : Int) := by omega
        have m1 : (M : Int) < (s : Int) := by omega
        obtain ⟨z, hz, u0, v0⟩ := own_at1 howns (show M < s by omega)
        have e1 : z = countL ls := by
          rw [Nat.sub_self, List.replicate_zero, List.append_nil, wl_get (by omega)] at hz
          injection hz with h
          rw [← h, HL.out, ← hNe.out]
          congr 1
          omega
        have E1 := Lib.hid e1
        clear e1 hz hM
        go_wp2
        go_ret
        exact ⟨ret_int E1.out, hb1.trans (hb.mono hb1.size)⟩
end Go.Proofs.Ytbefkagmgpcfdaa

/- The walk of the law FnBackwards. -/
import Derived.Test.YtbcgokpamhgabaaChecked
import Derived.Test.YtbcgokpamhgabaaKb01
import Derived.Tactics
import Derived.Tactics2
import Derived.WalkKit
import Derived.WalkSpells
import Derived.WalkLawsBesides
import Derived.Deep.QuietTactic
import Derived.BigQuiet
import Derived.BigGuardPart
import Derived.Lib.QuietBelow
import Derived.OwnWalk
import Derived.KernelRfl
import Derived.Deep.RegionHeld3
import Derived.Deep.RegionWith
import Derived.RegionTactic
import Derived.Test.YtbcgokpamhgabaaKb05
import Derived.Test.YtbcgokpamhgabaaKb30
import Derived.Test.YtbcgokpamhgabaaKb43
namespace Go.Proofs.Ytbcgokpamhgabaa
set_option linter.unusedVariables false
set_option maxRecDepth 100000
open Go.RowKit Go.Sort

/-- Is (y, x) among the first i pairs? -/
def thereL (ps : List (Nat × Nat)) (y x i : Nat) : Bool := (ps.take i).any fun z => z.1 == y && z.2 == x
theorem thereL_next {ps : List (Nat × Nat)} {y x i : Nat} {z : Nat × Nat} (h : ps[i]? = some z) : thereL ps y x (i + 1) = (thereL ps y x i || (z.1 == y && z.2 == x)) := by
  rw [thereL, List.take_add_one, h]
  simp [thereL]
theorem thereL_all {ps : List (Nat × Nat)} {y x n : Nat} (hn : ps.length = n) (h : (y, x) ∈ ps) : thereL ps y x n = true := by
  subst hn
  rw [thereL, List.take_length, List.any_eq_true]
  exact ⟨_, h, by simp⟩
theorem holes_pop {w h s : Nat} (hb : BdOk w h s) : (holesL ⟨w, h, s⟩).length = popc s := by rw [holesL_yes hb, popc, bits_49 hb]
set_option maxHeartbeats 16000000 in
theorem fnBackwards_walk (xs : List UInt8) (A : Option Addr) (c : Nat) (w : World) (rd : Rd w w.heap.size A (bts xs)) (hm : xs.length ≤ 9223372036854775807) :
    Calls Try.prog 9 #[.slice A xs.length c] w fun e w' => e = .returned (.bool true) ∧ Below w.heap.size w w' := by
  by_cases hbig : (1048576 : Int) < (xs.length : Int)
  · go_enter Try.func9, Try.ntmps9
    go_wp2_with (go_at_call 12; refine (big_ _ _ _ _).mono ?_; rintro e w1 ⟨rfl, rfl⟩)
    go_ret
    exact ⟨rfl, Below.refl _ _⟩
  · have hm1 : xs.length ≤ 1048576 := by omega
    have hm2 : (xs.length : Int) ≤ 1048576 := by omega
    have RC := Lib.hid rd
    clear rd hm
    go_enter Try.func9, Try.ntmps9
    go_wp2_with (go_at_call 12; refine (big_ _ _ _ _).mono ?_; rintro e w1 ⟨rfl, rfl⟩)
    refine (drawAim_ xs A c _ RC.out hm1).mono ?_
    rintro e w1 ⟨x, y, s, p, g, hbd, h16, hP, hG, rfl, hw1⟩
    have hpi : I64 (p : Int) := posB_i64 hP
    have hgi : I64 (g : Int) := posB_i64 hG
    obtain ⟨hf1, hf2, hf3⟩ := back_facts hbd h16 hP hG
    have hLl := reachL_le ⟨x, y, s⟩ g true
    have hSl : (startsL ⟨x, y, s⟩ g).length ≤ 49 := Nat.le_trans (List.length_filter_le _ _) (holesL_le _)
    have hHl := holesL_le ⟨x, y, s⟩
    have HBIT : Hid (∀ k ∈ holesL ⟨x, y, s⟩, s.testBit k = true) := Lib.hid fun k hk => (hole_bit hbd hk).2
    have HBD := Lib.hid hbd
    have H16 := Lib.hid h16
    obtain ⟨L, hL⟩ : ∃ L, reachL ⟨x, y, s⟩ g true = L := ⟨_, rfl⟩
    obtain ⟨S, hS⟩ : ∃ S, startsL ⟨x, y, s⟩ g = S := ⟨_, rfl⟩
    obtain ⟨hs, hhs⟩ : ∃ hs, holesL ⟨x, y, s⟩ = hs := ⟨_, rfl⟩
    obtain ⟨cb, hcb⟩ : ∃ cb, leadsB ⟨x, y, s⟩ p g = cb := ⟨_, rfl⟩
    rw [hL] at hf1 hf2 hf3 hLl
    rw [hS] at hf3 hSl
    rw [hhs] at hf3 hHl HBIT
    rw [hcb] at hf2
    obtain ⟨nL, hnL⟩ : ∃ nL, L.length = nL := ⟨_, rfl⟩
    obtain ⟨nS, hnS⟩ : ∃ nS, S.length = nS := ⟨_, rfl⟩
    obtain ⟨nH, hnH⟩ : ∃ nH, hs.length = nH := ⟨_, rfl⟩
    have HCN : Hid ((((reachL ⟨x, y, s⟩ g true).length : Nat) : Int) = (nL : Int)) := Lib.hid (by rw [hL, hnL])
    rw [hnL] at hLl
    rw [hnS] at hSl
    rw [hnH] at hHl
    have HF1 := Lib.hid hf1
    have HF2 := Lib.hid hf2
    have HF3 := Lib.hid hf3
    have HL := Lib.hid hL
    have HS := Lib.hid hS
    have HH := Lib.hid hhs
    have HCB := Lib.hid hcb
    have HNL := Lib.hid hnL
    have HNS := Lib.hid hnS
    have HNH := Lib.hid hnH
    have BX1 := Lib.hid (box_new 42 w1 x y s)
    have hw2 := hw1.alloc hw1.size (.cells #[.int .i64 x, .int .i64 y, .int .i64 s] 42)
    clear hbd h16 hP hG hf1 hf2 hf3 hL hS hhs hcb hnL hnS hnH hw1
    go_upto_region 4 with fail
    generalize w1.alloc (.cells #[.int .i64 x, .int .i64 y, .int .i64 s] 42) = v1 at *
    generalize w1.heap.size = B at *
    obtain ⟨c0, c1, c2⟩ := BX1.out.cells
    go_wp2_with fail
    refine (iBackOf_ ⟨x, y, s⟩ g hgi _).mono ?_
    rintro e w5 ⟨AL, cL, rfl, ownL, hb5⟩
    rw [HL.out, HNL.out] at ownL
    rw [HL.out, HNL.out]
    have RL5 := Lib.hid (rd_of_own ownL)
    have BX5 := Lib.hid (BX1.out.next hb5)
    have hw5 := below_next hw2 hb5
    clear hb5 ownL c0 c1 c2 BX1 hw2
    obtain ⟨c0, c1, c2⟩ := BX5.out.cells
    go_upto_region 5 with fail
    go_cut [48] (fun v wc => v = .bool false ∧ Below w5.heap.size w5 wc)
    case first =>
      have HX := Lib.hid ((Below.refl w5.heap.size w5).drew)
      go_region_held3 (fun w' => w'.cell? ⟨B, 0, none⟩ = some (.int .i64 x) ∧ w'.cell? ⟨B, 1, none⟩ = some (.int .i64 y) ∧ w'.cell? ⟨B, 2, none⟩ = some (.int .i64 s)) (first | exact ⟨c0, c1, c2⟩) (first
        | (go_at_call 65; refine (hasN_ L nL HNL.out AL cL _ _ (by first | exact HF1.out | exact HF2.out) (by omega) _ (RL5.out.next HX.out)).mono ?_; rintro e wX ⟨rfl, rfl⟩)
        | (go_at_call 69; refine (is_ (sCanReach_ ⟨x, y, s⟩ p g hpi hgi _) HCB.out).mono ?_; rintro e wX ⟨rfl, hbX⟩; (
          have hZ := below_next HX.out hbX
          have HX' := Lib.hid hZ
          clear HX hZ hbX c0 c1 c2
          have HX := HX'
          clear HX'
          obtain ⟨c0, c1, c2⟩ := (BX5.out.next HX.out).cells
          ))
        | (go_at_call 70; refine (isI_ (iCountBack_ ⟨x, y, s⟩ g hgi _) HCN.out).mono ?_; rintro e wX ⟨rfl, hbX⟩; (
          have hZ := below_next HX.out hbX
          have HX' := Lib.hid hZ
          clear HX hZ hbX c0 c1 c2
          have HX := HX'
          clear HX'
          obtain ⟨c0, c1, c2⟩ := (BX5.out.next HX.out).cells
          )))
      all_goals
        go_wp2_with fail
        go_meet
        exact ⟨rfl, HX.out⟩
    case rest =>
      obtain ⟨rfl, hb6⟩ := hcut
      have BX6 := Lib.hid (BX5.out.next hb6)
      have RL6 := Lib.hid (RL5.out.next hb6)
      have hw6 := below_next hw5 hb6
      clear hb6 c0 c1 c2 BX5 RL5 hw5
      obtain ⟨c0, c1, c2⟩ := BX6.out.cells
      go_wp2_with fail
      refine (iStartsFor_ x y s g HBD.out H16.out hgi _).mono ?_
      rintro e w7 ⟨AS, cS, rfl, ownS, hb7⟩
      rw [HS.out, HNS.out] at ownS
      rw [HS.out, HNS.out]
      have RS7 := Lib.hid (rd_of_own ownS)
      have BX7 := Lib.hid (BX6.out.next hb7)
      have RL7 := Lib.hid (RL6.out.next hb7)
      have hw7 := below_next hw6 hb7
      clear hb7 c0 c1 c2 BX6 RL6 hw6 ownS
      obtain ⟨c0, c1, c2⟩ := BX7.out.cells
      go_wp2_with fail
      refine (sHolesOf_ ⟨x, y, s⟩ _).mono ?_
      rintro e w8 ⟨AH, cH, rfl, rdH, hb8⟩
      rw [HH.out] at rdH
      rw [HH.out, HNH.out]
      have RH8 := Lib.hid rdH
      have BX8 := Lib.hid (BX7.out.next hb8)
      have RL8 := Lib.hid (RL7.out.next hb8)
      have RS8 := Lib.hid (RS7.out.next hb8)
      have hw8 := below_next hw7 hb8
      clear hb8 c0 c1 c2 BX7 RL7 RS7 hw7 rdH
      go_wp2_with fail
      go_loopw [9] (fun kv wr => ∃ k : Nat, kv = .int .i64 k ∧ k ≤ nH ∧ Below w8.heap.size w8 wr) (fun kv _ => nH - (intOf kv).toNat)
      case atStart => exact ⟨0, rfl, Nat.zero_le _, Below.refl _ _⟩
      case round =>
        obtain ⟨k, rfl, hk, hwr⟩ := hrel
        have BXr := Lib.hid (BX8.out.next hwr)
        have RLr := Lib.hid (RL8.out.next hwr)
        have RSr := Lib.hid (RS8.out.next hwr)
        have RHr := Lib.hid (RH8.out.next hwr)
        have hwc := below_next hw8 hwr
        by_cases hlt : k < nH
        · have hx : hs[k]? = some (hs[k]'(by rw [HNH.out]; exact hlt)) := List.getElem?_eq_getElem _
          generalize hs[k]'(by rw [HNH.out]; exact hlt) = j at hx
          have hj := List.mem_of_getElem? hx
          have hbit := HBIT.out j hj
          obtain ⟨r, hr⟩ : ∃ r, decide (j ∈ S) = r := ⟨_, rfl⟩
          have HR1 := Lib.hid hr
          have HR2 : Hid (decide (fullB s j ∈ L) = r) := Lib.hid (by rw [← HF3.out j hj, hr])
          obtain ⟨bb, off, hA, hbb, x0⟩ := rd_nat RHr.out hx
          subst hA
          have HC0 := Lib.hid x0
          obtain ⟨c0, c1, c2⟩ := BXr.out.cells
          have k0' : (0 : Int) ≤ (k : Int) := by omega
          have k1' : (k : Int) < (nH : Int) := by omega
          have HX := Lib.hid ((Below.refl wr.heap.size wr).drew)
          clear hx hr hj
          go_upto_region 12 with fail
          go_cut [74] (fun v wc => v = .bool false ∧ Below wr.heap.size wr wc)
          case first =>
            go_region_with (first
              | (go_at_call 65; refine (hasN_ _ _ (by first | exact HNS.out | exact HNL.out) _ _ _ _ (by first | exact HR1.out | exact HR2.out) (by omega) _ (by first | exact RSr.out.next HX.out | exact RLr.out.next HX.out)).mono ?_; rintro e wX ⟨rfl, rfl⟩)
              | (go_at_call 73; refine (sFullBut_ x y s HBD.out j hbit _).mono ?_; rintro e wX ⟨rfl, hbX⟩; (
                have hZ := below_next HX.out hbX
                have HX' := Lib.hid hZ
                clear HX hZ hbX c0 c1 c2 x0
                have HX := HX'
                clear HX'
                obtain ⟨c0, c1, c2⟩ := (BXr.out.next HX.out).cells
                have x0 := (HX.out.cell (p := ⟨bb, off + k, none⟩) hbb).trans HC0.out
                )))
            all_goals
              go_wp2_with fail
              go_meet
              exact ⟨by first | rfl | simp, HX.out⟩
          case rest =>
            obtain ⟨rfl, hbr⟩ := hcut
            go_wp2
            go_roundw
            case rel => exact ⟨k + 1, by go_num, by omega, below_next hwr hbr⟩
            case measure => simp [intOf]; omega
        · have RCr := Lib.hid ((RC.out.below hwc).more hwc.size)
          clear BXr RLr RSr RHr
          go_wp2_with fail
          refine (drawSolvable_ xs A c _ RCr.out hm1).mono ?_
          rintro e w9 ⟨b, rfl, hb9⟩
          have BB9 := Lib.hid (box_new 42 w9 b.f b.o b.t)
          have hw9 := below_next hwc hb9
          have hw10 := hw9.alloc hw9.size (.cells #[.int .i64 b.f, .int .i64 b.o, .int .i64 b.t] 42)
          clear hb9 hw9 RCr
          go_upto_region 15 with fail
          generalize w9.alloc (.cells #[.int .i64 b.f, .int .i64 b.o, .int .i64 b.t] 42) = v2 at *
          generalize w9.heap.size = SB at *
          obtain ⟨d0, d1, d2⟩ := BB9.out.cells
          go_wp2_with fail
          refine (sCountHolesA_ b _).mono ?_
          rintro e w11 ⟨rfl, hb11⟩
          have BB11 := Lib.hid (BB9.out.next hb11)
          have hw11 := below_next hw10 hb11
          clear hb11 BB9 hw10 d0 d1 d2
          obtain ⟨nh, hnh⟩ : ∃ nh, (holesL b).length = nh := ⟨_, rfl⟩
          have HNB := Lib.hid hnh
          rw [hnh]
          clear hnh
          obtain ⟨d0, d1, d2⟩ := BB11.out.cells
          by_cases h9 : (9 : Int) < (nh : Int)
          · go_wp2_with fail
            go_ret
            exact ⟨rfl, hw11⟩
          · rcases Bool.eq_false_or_eq_true (smallB b) with hSm | hSm
            · obtain ⟨bw, bh, sb, rfl, hb', h16', s16'⟩ := smallB_nat hSm
              have BS11 : Hid (Box 42 w11 SB bw bh sb) := Lib.hid BB11.out
              clear BB11 d0 d1 d2
              obtain ⟨d0, d1, d2⟩ := BS11.out.cells
              have hn12 : popc sb = nh := by rw [← holes_pop hb', HNB.out]
              obtain ⟨hq1, hq2, hq3⟩ := pairs_facts hb' h16'
              have HB1 := Lib.hid hb'
              have HB2 := Lib.hid h16'
              have HC1 : Hid ((((reachL ⟨bw, bh, sb⟩ 0 true).length : Nat) : Int) = 1) := Lib.hid (by rw [hq3]; rfl)
              have hOl : (someL ⟨bw, bh, sb⟩).length ≤ 49 := Nat.le_trans (List.length_filter_le _ _) (holesL_le _)
              have hPl : (pairsL ⟨bw, bh, sb⟩).length ≤ 2401 := by
                have h1 := pairsK_le (F := finN ⟨bw, bh, sb⟩) (fun x => finals_le _ _) (holesL ⟨bw, bh, sb⟩) (holesL ⟨bw, bh, sb⟩).length
                have h2 := holesL_le ⟨bw, bh, sb⟩
                show (pairsK _ _ _).length ≤ _
                omega
              obtain ⟨PS, hPS⟩ : ∃ PS, pairsL ⟨bw, bh, sb⟩ = PS := ⟨_, rfl⟩
              obtain ⟨SO, hSO⟩ : ∃ SO, someL ⟨bw, bh, sb⟩ = SO := ⟨_, rfl⟩
              rw [hPS] at hq1 hq2 hPl
              rw [hSO] at hq1 hq2 hOl
              obtain ⟨nP, hnP⟩ : ∃ nP, PS.length = nP := ⟨_, rfl⟩
              obtain ⟨nO, hnO⟩ : ∃ nO, SO.length = nO := ⟨_, rfl⟩
              rw [hnP] at hq2 hPl
              rw [hnO] at hq2 hOl
              have HQ1 := Lib.hid hq1
              have HQ2 := Lib.hid hq2
              have HPS := Lib.hid hPS
              have HSO := Lib.hid hSO
              have HNP := Lib.hid hnP
              have HNO := Lib.hid hnO
              have HN12 := Lib.hid hn12
              clear hb' h16' s16' hq1 hq2 hq3 hPS hSO hnP hnO hn12
              go_wp2_with fail
              refine (is_ (sIsSmall_ ⟨bw, bh, sb⟩ _) hSm).mono ?_
              rintro e w12 ⟨rfl, hb12⟩
              have BS12 := Lib.hid (BS11.out.next hb12)
              have hw12 := below_next hw11 hb12
              clear hb12 BS11 hw11 d0 d1 d2
              obtain ⟨d0, d1, d2⟩ := BS12.out.cells
              go_wp2_with fail
              refine (iPairsOf_ bw bh sb HB1.out HB2.out nh HN12.out (by omega) _).mono ?_
              rintro e w13 ⟨AP, cP, base, v0, rfl, prs, hb13⟩
              rw [HPS.out, HNP.out] at prs
              rw [HPS.out, HNP.out]
              have PR13 := Lib.hid prs
              have BS13 := Lib.hid (BS12.out.next hb13)
              have hw13 := below_next hw12 hb13
              clear hb13 BS12 hw12 d0 d1 d2 prs
              obtain ⟨d0, d1, d2⟩ := BS13.out.cells
              go_wp2_with fail
              refine (iSolvableHoles_ bw bh sb HB1.out HB2.out _).mono ?_
              rintro e w14 ⟨AO, cO, rfl, ownO, hb14⟩
              rw [HSO.out, HNO.out] at ownO
              rw [HSO.out, HNO.out]
              have RO14 := Lib.hid (rd_of_own ownO)
              have PR14 := Lib.hid (PR13.out.next hb14)
              have BS14 := Lib.hid (BS13.out.next hb14)
              have hw14 := below_next hw13 hb14
              clear hb14 BS13 hw13 d0 d1 d2 ownO PR13
              obtain ⟨d0, d1, d2⟩ := BS14.out.cells
              go_wp2_with fail
              go_loopw [13] (fun kv wr => ∃ k : Nat, k ≤ nP ∧ kv = .int .i64 k ∧ Below w14.heap.size w14 wr) (fun kv _ => nP - (intOf kv).toNat)
              case atStart => exact ⟨0, Nat.zero_le _, rfl, Below.refl _ _⟩
              case round =>
                obtain ⟨k, hk, rfl, hwr⟩ := hrel
                by_cases hlt : k < nP
                · have hx : PS[k]? = some (PS[k]'(by rw [HNP.out]; exact hlt)) := List.getElem?_eq_getElem _
                  generalize PS[k]'(by rw [HNP.out]; exact hlt) = z at hx
                  obtain ⟨k1, m1⟩ := z
                  have hz := HQ1.out _ (List.mem_of_getElem? hx)
                  have HKS : Hid (decide (k1 ∈ SO) = true) := Lib.hid (decide_eq_true hz.1)
                  have HT := Lib.hid (thereL_all HNP.out hz.2)
                  have HXK := Lib.hid hx
                  have ROr := Lib.hid (RO14.out.next hwr)
                  obtain ⟨gb, og, rb, hA, hgb, y0, hrb, z0, z1⟩ := (PR14.out.next hwr).row HNP.out hx
                  subst hA
                  have k0' : (0 : Int) ≤ (k : Int) := by omega
                  have k1' : (k : Int) < (nP : Int) := by omega
                  clear hx hz
                  go_wp2_with fail
                  refine (hasN_ SO nO HNO.out AO cO k1 true HKS.out (by omega) _ ROr.out).mono ?_
                  rintro e wX ⟨rfl, rfl⟩
                  go_wp2_with fail
                  clear y0 z0 z1 hgb hrb
                  go_loopw [14, 15] (fun tv iv wx => ∃ i : Nat, i ≤ nP ∧ iv = .int .i64 i ∧ tv = .bool (thereL PS m1 k1 i) ∧ Below w14.heap.size w14 wx) (fun _ iv _ => nP - (intOf iv).toNat)
                  case atStart => exact ⟨0, Nat.zero_le _, rfl, rfl, hwr⟩
                  case round =>
                    obtain ⟨i, hi, rfl, rfl, hwx⟩ := hrel
                    by_cases hil : i < nP
                    · have hx2 : PS[i]? = some (PS[i]'(by rw [HNP.out]; exact hil)) := List.getElem?_eq_getElem _
                      generalize PS[i]'(by rw [HNP.out]; exact hil) = z2 at hx2
                      obtain ⟨k2, m2⟩ := z2
                      obtain ⟨gb3, og3, rb3, hA3, hgb3, y0, hrb3, z0, z1⟩ := (PR14.out.next hwx).row HNP.out HXK.out
                      obtain ⟨rfl, rfl⟩ : gb = gb3 ∧ og = og3 := by simpa using hA3
                      obtain ⟨gb2, og2, rb2, hA2, hgb2, a0, hrb2, a1, a2⟩ := (PR14.out.next hwx).row HNP.out hx2
                      obtain ⟨rfl, rfl⟩ : gb = gb2 ∧ og = og2 := by simpa using hA2
                      clear hA3
                      have HTN := Lib.hid (thereL_next (y := m1) (x := k1) hx2)
                      have i0' : (0 : Int) ≤ (i : Int) := by omega
                      have i1' : (i : Int) < (nP : Int) := by omega
                      generalize thereL PS m1 k1 i = ub at *
                      clear hx2 hA2
                      cases ub with
                      | true =>
                        go_upto_region 28 with fail
                        go_region
                        all_goals
                          go_wp2
                          go_roundw
                          case rel => exact ⟨i + 1, by omega, by go_num, by rw [HTN.out]; rfl, hwx.drew⟩
                          case measure => simp [intOf]; omega
                      | false =>
                        rcases Bool.eq_false_or_eq_true (k2 == m1) with hA | hA <;> rcases Bool.eq_false_or_eq_true (m2 == k1) with hB | hB <;> have HA := Lib.hid hA <;> have HB := Lib.hid hB <;> clear hA hB
                        · have ha1 : ((k2 : Int) == (m1 : Int)) = true := by have := HA.out; simp at this ⊢; omega
                          have ha2 : decide ((k2 : Int) = (m1 : Int)) = true := by have := HA.out; simp at this ⊢; omega
                          have hb1 : ((m2 : Int) == (k1 : Int)) = true := by have := HB.out; simp at this ⊢; omega
                          have hb2 : decide ((m2 : Int) = (k1 : Int)) = true := by have := HB.out; simp at this ⊢; omega
                          go_upto_region 28 with fail
                          go_region
                          all_goals
                            go_wp2
                            go_roundw
                            case rel => exact ⟨i + 1, by omega, by go_num, by rw [HTN.out]; rw [HA.out, HB.out]; rfl, hwx.drew⟩
                            case measure => simp [intOf]; omega
                        · have ha1 : ((k2 : Int) == (m1 : Int)) = true := by have := HA.out; simp at this ⊢; omega
                          have ha2 : decide ((k2 : Int) = (m1 : Int)) = true := by have := HA.out; simp at this ⊢; omega
                          have hb1 : ((m2 : Int) == (k1 : Int)) = false := by have := HB.out; simp at this ⊢; omega
                          have hb2 : decide ((m2 : Int) = (k1 : Int)) = false := by have := HB.out; simp at this ⊢; omega
                          go_upto_region 28 with fail
                          go_region
                          all_goals
                            go_wp2
                            go_roundw
                            case rel => exact ⟨i + 1, by omega, by go_num, by rw [HTN.out]; rw [HA.out, HB.out]; rfl, hwx.drew⟩
                            case measure => simp [intOf]; omega
                        · have ha1 : ((k2 : Int) == (m1 : Int)) = false := by have := HA.out; simp at this ⊢; omega
                          have ha2 : decide ((k2 : Int) = (m1 : Int)) = false := by have := HA.out; simp at this ⊢; omega
                          have hb1 : ((m2 : Int) == (k1 : Int)) = true := by have := HB.out; simp at this ⊢; omega
                          have hb2 : decide ((m2 : Int) = (k1 : Int)) = true := by have := HB.out; simp at this ⊢; omega
                          go_upto_region 28 with fail
                          go_region
                          all_goals
                            go_wp2
                            go_roundw
                            case rel => exact ⟨i + 1, by omega, by go_num, by rw [HTN.out]; rw [HA.out, HB.out]; rfl, hwx.drew⟩
                            case measure => simp [intOf]; omega
                        · have ha1 : ((k2 : Int) == (m1 : Int)) = false := by have := HA.out; simp at this ⊢; omega
                          have ha2 : decide ((k2 : Int) = (m1 : Int)) = false := by have := HA.out; simp at this ⊢; omega
                          have hb1 : ((m2 : Int) == (k1 : Int)) = false := by have := HB.out; simp at this ⊢; omega
                          have hb2 : decide ((m2 : Int) = (k1 : Int)) = false := by have := HB.out; simp at this ⊢; omega
                          go_upto_region 28 with fail
                          go_region
                          all_goals
                            go_wp2
                            go_roundw
                            case rel => exact ⟨i + 1, by omega, by go_num, by rw [HTN.out]; rw [HA.out, HB.out]; rfl, hwx.drew⟩
                            case measure => simp [intOf]; omega
                    · have hin : i = nP := by omega
                      subst hin
                      rw [HT.out]
                      go_wp2
                      go_roundw
                      case rel => exact ⟨k + 1, by omega, by go_num, hwx⟩
                      case measure => simp [intOf]; omega
                · have hkn : k = nP := by omega
                  subst hkn
                  have hq2 := HQ2.out
                  have HQ3 : Hid (0 < nO ↔ 0 < k) := Lib.hid (by rw [decide_eq_decide] at hq2; exact hq2)
                  clear hq2 hlt
                  rcases Nat.eq_zero_or_pos k with hk0 | hk0
                  · have ho : nO = 0 := by have := HQ3.out; omega
                    have q1 : decide ((0 : Int) < (nO : Int)) = false := by simp; omega
                    have q2 : decide ((0 : Int) < (k : Int)) = false := by simp; omega
                    have q3 : decide (0 < nO) = false := by simp; omega
                    have q4 : decide (0 < k) = false := by simp; omega
                    clear d0 d1 d2
                    obtain ⟨d0, d1, d2⟩ := (BS14.out.next hwr).cells
                    have hwR := below_next hw14 hwr
                    go_wp2_with fail
                    refine (isI_ (iCountBack_ ⟨bw, bh, sb⟩ 0 (by constructor <;> omega) _) HC1.out).mono ?_
                    rintro e wE ⟨rfl, hbE⟩
                    have hwE := below_next hwR hbE
                    clear hbE
                    go_wp2
                    go_ret
                    exact ⟨rfl, hwE⟩
                  · have ho : 0 < nO := HQ3.out.2 hk0
                    have q1 : decide ((0 : Int) < (nO : Int)) = true := by simp; omega
                    have q2 : decide ((0 : Int) < (k : Int)) = true := by simp; omega
                    have q3 : decide (0 < nO) = true := by simp; omega
                    have q4 : decide (0 < k) = true := by simp; omega
                    clear d0 d1 d2
                    obtain ⟨d0, d1, d2⟩ := (BS14.out.next hwr).cells
                    have hwR := below_next hw14 hwr
                    go_wp2_with fail
                    refine (isI_ (iCountBack_ ⟨bw, bh, sb⟩ 0 (by constructor <;> omega) _) HC1.out).mono ?_
                    rintro e wE ⟨rfl, hbE⟩
                    have hwE := below_next hwR hbE
                    clear hbE
                    go_wp2
                    go_ret
                    exact ⟨rfl, hwE⟩
            · clear HNB
              go_wp2_with fail
              refine (is_ (sIsSmall_ b _) hSm).mono ?_
              rintro e w12 ⟨rfl, hb12⟩
              have hw12 := below_next hw11 hb12
              clear hb12
              go_wp2_with fail
              go_ret
              exact ⟨rfl, hw12⟩
end Go.Proofs.Ytbcgokpamhgabaa

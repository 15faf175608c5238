/- The walk of the law FnMeetings. -/
import Derived.Test.YtbcgokpamhgabaaChecked
import Derived.Test.YtbcgokpamhgabaaMem
import Derived.Tactics
import Derived.Tactics2
import Derived.WalkKit
import Derived.WalkSpells
import Derived.WalkLawsBesides
import Derived.Deep.QuietTactic
import Derived.BigQuiet
import Derived.BigGuardPart
import Derived.Lib.QuietBelow
import Derived.OwnWalk
import Derived.KernelRfl
import Derived.Test.YtbcgokpamhgabaaOpenC
import Derived.Test.YtbcgokpamhgabaaDrawJ
import Derived.Test.YtbcgokpamhgabaaMeetingsM
import Derived.Test.YtbcgokpamhgabaaReachF
import Derived.Test.YtbcgokpamhgabaaComM
import Derived.Test.YtbcgokpamhgabaaPegs
set_option linter.unusedVariables false
set_option maxRecDepth 100000
namespace Go.Proofs.Ytbcgokpamhgabaa
open Go.RowKit Go.Sort

theorem max_int (a c : Nat) : (if (a : Int) < (c : Int) then (c : Int) else (a : Int)) = ((max a c : Nat) : Int) := by
  split <;> omega
theorem rd_lit2 (w : World) (cs : Array Value) (t : TypeId) : Rd (w.alloc (.cells cs t)) (w.alloc (.cells cs t)).heap.size (some ⟨w.heap.size, 0, none⟩) cs.toList := fun _ =>
  ⟨w.heap.size, 0, rfl, by simp, fun j u hu => by
    have := World.news_of_block (cs := cs) (t := t) (fr := (0, 0)) (heap_alloc_new w (Obj.cells cs t)) j u hu
    rwa [Addr.add_lit] at this⟩
theorem com_135 (A A' : Option Addr) (c c' : Nat) (W : World) (ra : Rd W W.heap.size A (ints [1, 3, 5])) (rb : Rd W W.heap.size A' (ints [3, 4, 5])) :
    Calls Try.prog 84 #[.slice A 3 c, .slice A' 3 c'] W fun e w' => ∃ (B : Option Addr) (d : Nat), e = .returned (.slice B 2 d) ∧ Rd w' w'.heap.size B (ints [3, 5]) ∧ Below W.heap.size W w' := by
  have h := iCommonOf_ [1, 3, 5] [3, 4, 5] A A' c c' W ra rb (by simp) (by simp)
  rw [com_law] at h
  refine h.mono ?_
  rintro e w' ⟨B, d, rfl, own, hb⟩
  exact ⟨B, d, rfl, rd_of_own own, hb⟩
theorem same_35 (A A' : Option Addr) (c c' : Nat) (W : World) (ra : Rd W W.heap.size A (ints [3, 5])) (rb : Rd W W.heap.size A' (ints [3, 5])) :
    Calls Try.prog 83 #[.slice A 2 c, .slice A' 2 c'] W fun e w' => e = .returned (.bool true) ∧ Below W.heap.size W w' :=
  sameInts_ [3, 5] 2 rfl A A' c c' (by omega) W ra rb
theorem totL_le (b : Ln) (p : Int) : ∀ k, totL (lenL b p) k ≤ 65536 * k
  | 0 => Nat.le_refl _
  | k + 1 => by
    have h1 := totL_le b p k
    have h2 := lenL_le b p k
    rw [totL]
    omega
theorem mxL_le (b : Ln) (p : Int) : ∀ k, mxL (lenL b p) k ≤ 65536
  | 0 => Nat.zero_le _
  | k + 1 => by
    have h1 := mxL_le b p k
    have h2 := lenL_le b p k
    rw [mxL]
    omega
set_option maxHeartbeats 4000000 in
theorem fnMeetings_walk (xs : List UInt8) (A : Option Addr) (c : Nat) (w : World) (rd : Rd w w.heap.size A (bts xs)) (hm : xs.length ≤ 9223372036854775807) :
    Calls Try.prog 10 #[.slice A xs.length c] w fun e w' => e = .returned (.bool true) ∧ Below w.heap.size w w' := by
  by_cases hbig : (1048576 : Int) < (xs.length : Int)
  · go_enter Try.func10, Try.ntmps10
    go_wp2_with (go_at_call 12; refine (big_ _ _ _ _).mono ?_; rintro e w1 ⟨rfl, rfl⟩)
    go_ret
    exact ⟨rfl, Below.refl _ _⟩
  · have hm1 : xs.length ≤ 1048576 := by omega
    have hm2 : (xs.length : Int) ≤ 1048576 := by omega
    have RC := Lib.hid rd
    clear rd hm
    go_enter Try.func10, Try.ntmps10
    go_wp2_with (go_at_call 12; refine (big_ _ _ _ _).mono ?_; rintro e w1 ⟨rfl, rfl⟩)
    refine (drawAim_ xs A c _ RC.out hm1).mono ?_
    rintro e w1 ⟨x, y, s, p, g, hbd, h16, hP, hG, rfl, hw1⟩
    have hpi : I64 (p : Int) := posB_i64 hP
    have hgi : I64 (g : Int) := posB_i64 hG
    have HBD := Lib.hid hbd
    have HP := Lib.hid hP
    have HG := Lib.hid hG
    have H16 := Lib.hid h16
    have hp16 := pop16 hbd h16 hP
    have hg16 := pop16 hbd h16 hG
    have HPG : Hid (pegsB ⟨x, y, s⟩ p = (popc p : Nat)) := Lib.hid (by rw [pegsB, if_pos hP, Int.toNat_natCast])
    have HGG : Hid (pegsB ⟨x, y, s⟩ g = (popc g : Nat)) := Lib.hid (by rw [pegsB, if_pos hG, Int.toNat_natCast])
    have HML := Lib.hid (meet_law hbd h16 hP hG)
    obtain ⟨wd, hwd16, hwd, hmx, htot⟩ := wide_law hbd h16 hP
    have HWD := Lib.hid hwd
    have HMX := Lib.hid hmx
    have HTOT := Lib.hid htot
    have HBK := Lib.hid (back_law hbd h16 hG)
    obtain ⟨n0, hn0⟩ : ∃ n0, popc p = n0 := ⟨_, rfl⟩
    obtain ⟨g0, hg0⟩ : ∃ g0, popc g = g0 := ⟨_, rfl⟩
    rw [hn0] at HPG HML hp16
    rw [hg0] at HGG HML hg16
    obtain ⟨D, hD⟩ : ∃ D : Int, (n0 : Int) - (g0 : Int) = D := ⟨_, rfl⟩
    have hD1 : D ≤ 16 := by omega
    have hD0 : -16 ≤ D := by omega
    rw [hD] at HML
    have HWR : Hid (IntKind.i64.wrap (pegsB ⟨x, y, s⟩ p - pegsB ⟨x, y, s⟩ g) = D) := Lib.hid (by rw [HPG.out, HGG.out, IntKind.wrap_i64]; omega)
    obtain ⟨cb, hcb⟩ : ∃ cb, leadsB ⟨x, y, s⟩ p g = cb := ⟨_, rfl⟩
    have HCB := Lib.hid hcb
    rw [hcb] at HML
    have HD := Lib.hid hD
    have BX1 := Lib.hid (box_new 42 w1 x y s)
    have hw2 := hw1.alloc hw1.size (.cells #[.int .i64 x, .int .i64 y, .int .i64 s] 42)
    clear hbd h16 hP hG hn0 hg0 hwd hmx htot hcb hD hw1
    go_upto_region 4 with fail
    generalize w1.alloc (.cells #[.int .i64 x, .int .i64 y, .int .i64 s] 42) = v1 at *
    generalize w1.heap.size = B at *
    obtain ⟨c0, c1, c2⟩ := BX1.out.cells
    go_cut [6] (fun v wc => v = .int .i64 D ∧ Below v1.heap.size v1 wc)
    case first =>
      have BX3 := BX1
      have HX := Lib.hid ((Below.refl v1.heap.size v1).drew)
      have hWR := HWR.out
      go_region_held3 (fun w' => w'.cell? ⟨B, 0, none⟩ = some (.int .i64 x) ∧ w'.cell? ⟨B, 1, none⟩ = some (.int .i64 y) ∧ w'.cell? ⟨B, 2, none⟩ = some (.int .i64 s)) (first | exact ⟨c0, c1, c2⟩) (first
        | (go_at_call 34; refine (sCountPegs_ ⟨x, y, s⟩ _ (by first | exact hpi | exact hgi) _).mono ?_; rintro e wX ⟨rfl, hbX⟩; have hY := below_next HX.out hbX; have HX' := Lib.hid hY; clear HX hY hbX c0 c1 c2; have HX := HX'; clear HX'; obtain ⟨c0, c1, c2⟩ := (BX3.out.next HX.out).cells))
      all_goals
        go_wp2_with fail
        go_meet
        exact ⟨rfl, HX.out⟩
    case rest =>
      obtain ⟨rfl, hb2⟩ := hcut
      have BX2 := Lib.hid (BX1.out.next hb2)
      have hw3 := below_next hw2 hb2
      clear hb2 c0 c1 c2 BX1 hw2
      obtain ⟨c0, c1, c2⟩ := BX2.out.cells
      go_wp2_with fail
      refine (is_ (sCanReach_ ⟨x, y, s⟩ p g hpi hgi _) HCB.out).mono ?_
      rintro e w4 ⟨rfl, hb4⟩
      have BX4 := Lib.hid (BX2.out.next hb4)
      have hw4 := below_next hw3 hb4
      clear hb4 c0 c1 c2 BX2 hw3
      go_wp2_with fail
      go_loopw [8] (fun nv wr => ∃ n : Nat, nv = .int .i64 n ∧ n ≤ 17 ∧ Below w4.heap.size w4 wr) (fun nv _ => 17 - (intOf nv).toNat)
      case atStart => exact ⟨0, rfl, by omega, Below.refl _ _⟩
      case round =>
        obtain ⟨n, rfl, hn, hwr⟩ := hrel
        have BXr := Lib.hid (BX4.out.next hwr)
        have hwc := below_next hw4 hwr
        obtain ⟨c0, c1, c2⟩ := BXr.out.cells
        by_cases hle : (n : Int) ≤ D
        · have hni : I64 (n : Int) := by constructor <;> omega
          obtain ⟨hl0, hmem⟩ := HML.out n hle
          have hln := meetL_le ⟨x, y, s⟩ p g n
          obtain ⟨L, hL⟩ : ∃ L, meetL ⟨x, y, s⟩ p g n = L := ⟨_, rfl⟩
          obtain ⟨nL, hnL⟩ : ∃ nL, L.length = nL := ⟨_, rfl⟩
          rw [hL] at hl0 hmem hln
          rw [hnL] at hl0 hln
          have HME := Lib.hid hmem
          have HNL := Lib.hid hnL
          have HL := Lib.hid hL
          have HL0 : Hid (cb = decide (0 < nL)) := Lib.hid hl0.symm
          have HWN : Hid (IntKind.i64.wrap ((n0 : Int) - (n : Int)) = ((n0 - n : Nat) : Int)) := Lib.hid (by have := HD.out; rw [IntKind.wrap_i64]; omega)
          obtain ⟨v, hv⟩ : ∃ v, n0 - n = v := ⟨_, rfl⟩
          rw [hv] at HWN
          have hv' : v + n = n0 := by have := HD.out; omega
          have HV := Lib.hid hv'
          clear hl0 hmem hnL hL hv hv'
          go_wp2_with fail
          refine (iMeetingOf_ ⟨x, y, s⟩ p g n hpi hgi hni _).mono ?_
          rintro e w9 ⟨AM, cM, rfl, own9, hb9⟩
          rw [HL.out, HNL.out] at own9 ⊢
          have RM9 := Lib.hid (rd_of_own own9)
          have BX9 := Lib.hid (BXr.out.next hb9)
          have hw9 := below_next hwc hb9
          have hwr9 := below_next hwr hb9
          clear own9 hb9 c0 c1 c2 BXr
          have hcb := HL0.out
          subst hcb
          clear HL0
          go_wp2_with fail
          go_loopw [10] (fun kv wk => ∃ k : Nat, kv = .int .i64 k ∧ k ≤ nL ∧ Below w9.heap.size w9 wk) (fun kv _ => nL - (intOf kv).toNat)
          case atStart => exact ⟨0, rfl, Nat.zero_le _, Below.refl _ _⟩
          case round =>
            obtain ⟨k, rfl, hk, hwk⟩ := hrel
            by_cases hkl : k < nL
            · obtain ⟨gb, off, z, hA, hgb, hz, hd⟩ := RM9.out.int (k := k) (by rw [HNL.out]; exact hkl)
              subst hA
              obtain ⟨m, rfl, hY1, hY2, hY3, hY4⟩ := HME.out z (List.mem_of_getElem? hz)
              have HD := Lib.hid hd
              have HY3 := Lib.hid hY3
              have HY4 := Lib.hid hY4
              have hmi : I64 (m : Int) := posB_i64 hY1
              have hPM : pegsB ⟨x, y, s⟩ m = (v : Nat) := by rw [pegsB, if_pos hY1, Int.toNat_natCast, show popc m = v by have := HV.out; omega]
              have hPP := HPG.out
              have hWN := HWN.out
              obtain ⟨c0, c1, c2⟩ := (BX9.out.next hwk).cells
              have d0 := (hwk.cell (p := ⟨gb, off + k, none⟩) hgb).trans HD.out
              have HX := Lib.hid hwk.drew
              clear hz hd hY1 hY2 hY3 hY4
              go_upto_region 15 with fail
              go_region_held3 (fun w' => w'.cell? ⟨B, 0, none⟩ = some (.int .i64 x) ∧ w'.cell? ⟨B, 1, none⟩ = some (.int .i64 y) ∧ w'.cell? ⟨B, 2, none⟩ = some (.int .i64 s) ∧ w'.cell? ⟨gb, off + k, none⟩ = some (.int .i64 m)) (first | exact ⟨c0, c1, c2, d0⟩) (first
                | (go_at_call 34; refine (sCountPegs_ ⟨x, y, s⟩ _ (by first | exact hpi | exact hmi) _).mono ?_; rintro e wX ⟨rfl, hbX⟩; (
                  have hY := below_next HX.out hbX
                  have HX' := Lib.hid hY
                  clear HX hY hbX c0 c1 c2 d0
                  have HX := HX'
                  clear HX'
                  obtain ⟨c0, c1, c2⟩ := (BX9.out.next HX.out).cells
                  have d0 := (HX.out.cell (p := ⟨gb, off + k, none⟩) hgb).trans HD.out
                  ))
                | (go_at_call 69; refine (is_ (sCanReach_ ⟨x, y, s⟩ _ _ (by first | exact hpi | exact hmi) (by first | exact hmi | exact hgi) _) (by first | exact HY3.out | exact HY4.out)).mono ?_; rintro e wX ⟨rfl, hbX⟩; (
                  have hY := below_next HX.out hbX
                  have HX' := Lib.hid hY
                  clear HX hY hbX c0 c1 c2 d0
                  have HX := HX'
                  clear HX'
                  obtain ⟨c0, c1, c2⟩ := (BX9.out.next HX.out).cells
                  have d0 := (HX.out.cell (p := ⟨gb, off + k, none⟩) hgb).trans HD.out
                  )))
              all_goals
                go_wp2
                go_roundw
                case rel => exact ⟨k + 1, by go_num, by omega, HX.out⟩
                case measure => simp [intOf]; omega
            · go_wp2_with fail
              go_roundw
              case rel => exact ⟨n + 1, by go_num, by have := HD.out; omega, below_next hwr9 hwk⟩
              case measure => simp [intOf]; omega
        · go_wp2_with fail
          refine (isI_ (iWidestLayer_ ⟨x, y, s⟩ p hpi _) HWD.out).mono ?_
          rintro e w5 ⟨rfl, hb5⟩
          have BX5 := Lib.hid (BXr.out.next hb5)
          have hw5 := below_next hwc hb5
          clear hb5 c0 c1 c2 BXr
          have hwd0 : decide ((wd : Int) < 0) = false := by simp
          go_wp2_with fail
          go_loopw [12, 13, 14] (fun tv mv iv wr => ∃ k : Nat, iv = .int .i64 k ∧ k ≤ 16 ∧ tv = .int .i64 (totL (lenL ⟨x, y, s⟩ p) k : Nat) ∧ mv = .int .i64 (mxL (lenL ⟨x, y, s⟩ p) k : Nat) ∧ Below w5.heap.size w5 wr) (fun _ _ iv _ => 16 - (intOf iv).toNat)
          case atStart => exact ⟨0, rfl, Nat.zero_le _, rfl, rfl, Below.refl _ _⟩
          case round =>
            obtain ⟨k, rfl, hk, rfl, rfl, hwk⟩ := hrel
            obtain ⟨c0, c1, c2⟩ := (BX5.out.next hwk).cells
            have hwc' := below_next hw5 hwk
            by_cases hk16 : k < 16
            · have hki : I64 (k : Int) := by constructor <;> omega
              have HT : Hid (totL (lenL ⟨x, y, s⟩ p) (k + 1) = totL (lenL ⟨x, y, s⟩ p) k + lenL ⟨x, y, s⟩ p k) := Lib.hid rfl
              have HM : Hid (mxL (lenL ⟨x, y, s⟩ p) (k + 1) = max (mxL (lenL ⟨x, y, s⟩ p) k) (lenL ⟨x, y, s⟩ p k)) := Lib.hid rfl
              have hTb := totL_le ⟨x, y, s⟩ p k
              have hMb := mxL_le ⟨x, y, s⟩ p k
              have hjb := lenL_le ⟨x, y, s⟩ p k
              have HJ : Hid ((layerL ⟨x, y, s⟩ p k false).length = lenL ⟨x, y, s⟩ p k) := Lib.hid rfl
              go_wp2_with fail
              refine (iLayerOf_ ⟨x, y, s⟩ p k hpi hki _).mono ?_
              rintro e w6 ⟨AL, cL, rfl, -, hb6⟩
              rw [HJ.out]
              have hw6 := below_next hwk hb6
              clear hb6 c0 c1 c2 HJ
              generalize totL (lenL ⟨x, y, s⟩ p) k = T at *
              generalize mxL (lenL ⟨x, y, s⟩ p) k = M at *
              generalize lenL ⟨x, y, s⟩ p k = j at *
              have hT0 : (T : Int) ≤ 1048576 := by omega
              go_wp2
              go_roundw
              case rel => exact ⟨k + 1, by go_num, by omega, by rw [HT.out]; go_num, by rw [HM.out]; go_num, hw6⟩
              case measure => simp [intOf]; omega
            · obtain rfl : k = 16 := by omega
              rw [HTOT.out, ← HMX.out]
              have hwdi : I64 (wd : Int) := by constructor <;> omega
              have HJ : Hid ((layerL ⟨x, y, s⟩ p wd false).length = lenL ⟨x, y, s⟩ p wd) := Lib.hid rfl
              have hrb := reachL_le ⟨x, y, s⟩ p false
              have hjb := lenL_le ⟨x, y, s⟩ p wd
              obtain ⟨R, hR⟩ : ∃ R, (reachL ⟨x, y, s⟩ p false).length = R := ⟨_, rfl⟩
              have HR := Lib.hid hR
              rw [hR] at hrb ⊢
              obtain ⟨j, hj⟩ : ∃ j, lenL ⟨x, y, s⟩ p wd = j := ⟨_, rfl⟩
              rw [hj] at HJ hjb ⊢
              clear hR hj HTOT HMX
              go_wp2_with fail
              refine (sReachOf_ ⟨x, y, s⟩ p hpi _).mono ?_
              rintro e w6 ⟨AR, cR, rfl, -, hb6⟩
              rw [HR.out]
              have BX6 := Lib.hid ((BX5.out.next hwk).next hb6)
              have hw6 := below_next hwc' hb6
              clear hb6 c0 c1 c2
              obtain ⟨c0, c1, c2⟩ := BX6.out.cells
              go_wp2_with fail
              refine (iLayerOf_ ⟨x, y, s⟩ p wd hpi hwdi _).mono ?_
              rintro e w7 ⟨AL, cL, rfl, -, hb7⟩
              rw [HJ.out]
              have BX7 := Lib.hid (BX6.out.next hb7)
              have hw7 := below_next hw6 hb7
              clear hb7 c0 c1 c2 BX6
              obtain ⟨c0, c1, c2⟩ := BX7.out.cells
              go_wp2_with fail
              refine (iBackLayer_ ⟨x, y, s⟩ g 0 hgi (by constructor <;> omega) _).mono ?_
              rintro e w8 ⟨AB, cB, rfl, -, hb8⟩
              rw [HBK.out]
              have hw8 := below_next hw7 hb8
              have hwA := hw8.alloc hw8.size (.cells #[.int .i64 1, .int .i64 3, .int .i64 5] 3)
              have hwB := hwA.alloc hwA.size (.cells #[.int .i64 3, .int .i64 4, .int .i64 5] 3)
              have RA := Lib.hid ((rd_lit2 w8 #[.int .i64 1, .int .i64 3, .int .i64 5] 3).laid (.cells #[.int .i64 3, .int .i64 4, .int .i64 5] 3))
              have RB := Lib.hid (rd_lit2 (w8.alloc (.cells #[.int .i64 1, .int .i64 3, .int .i64 5] 3)) #[.int .i64 3, .int .i64 4, .int .i64 5] 3)
              clear hb8 c0 c1 c2
              go_wp2_with fail
              refine (com_135 _ _ _ _ _ RA.out (by simpa [ints] using RB.out)).mono ?_
              rintro e w9 ⟨AC, cC, rfl, rdC, hb9⟩
              have hw9 := below_next hwB hb9
              have hwC := hw9.alloc hw9.size (.cells #[.int .i64 3, .int .i64 5] 3)
              have RC9 := Lib.hid (rdC.laid (.cells #[.int .i64 3, .int .i64 5] 3))
              have RD := Lib.hid (rd_lit2 w9 #[.int .i64 3, .int .i64 5] 3)
              clear rdC hb9
              go_wp2_with fail
              refine (same_35 _ _ _ _ _ RC9.out RD.out).mono ?_
              rintro e wE ⟨rfl, hbE⟩
              have hwE := below_next hwC hbE
              clear hbE
              go_wp2
              go_ret
              exact ⟨rfl, hwE⟩
end Go.Proofs.Ytbcgokpamhgabaa

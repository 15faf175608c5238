/- The walk of the law FnNormal. -/
import Derived.Test.YtbcgokpamhgabaaChecked
import Derived.Test.YtbcgokpamhgabaaMem
import Derived.Tactics
import Derived.Tactics2
import Derived.WalkKit
import Derived.WalkSpells
import Derived.WalkLawsBesides
import Derived.Deep.QuietTactic
import Derived.BigQuiet
import Derived.BigGuardPart
import Derived.Lib.QuietBelow
import Derived.OwnWalk
import Derived.KernelRfl
import Derived.Test.YtbcgokpamhgabaaOpenC
import Derived.Test.YtbcgokpamhgabaaDrawF
import Derived.Test.YtbcgokpamhgabaaNormalP
import Derived.Test.YtbcgokpamhgabaaIsN
import Derived.Test.YtbcgokpamhgabaaSame
import Derived.Test.YtbcgokpamhgabaaLayersI
import Derived.Test.YtbcgokpamhgabaaLines
import Derived.Laws.AppendOwnNone
import Derived.Deep.DeepCutAuto
set_option linter.unusedVariables false
set_option maxRecDepth 100000
namespace Go.Proofs.Ytbcgokpamhgabaa
open Go.RowKit Go.Sort

theorem sSwapAt_n (ls : List Ln) (A : Option Addr) (c n : Nat) (k : Int) (hk : I64 k) (w : World) (e : ls.length = n) (hr : Rd w w.heap.size A (flat ls)) (hn : n ≤ 1048576) :
    Calls Try.prog 15 #[.slice A n c, .int .i64 k] w (GivesSliceB w 34 3 n (flat (swapL ls k)) (canSwapB ls k)) := by
  subst e
  exact sSwapAt_ ls A c k hk w hr hn

theorem iNormalForm_ok (ls : List Ln) (A : Option Addr) (c n : Nat) (w : World) (e : ls.length = n) (h10 : n ≤ 10) (hr : Rd w w.heap.size A (flat ls)) :
    Calls Try.prog 14 #[.slice A n c] w (GivesSliceB w 34 3 n (flat (nfL ls)) true) := by
  subst e
  have h1 := nfB_yes h10
  have h2 := nfL_length ls h1
  have h := iNormalForm_ ls A c w hr (by omega)
  rw [h1, h2] at h
  exact h
theorem iSameJumps_ok (xs ys : List Ln) (A A' : Option Addr) (n m c c' : Nat) (w : World) (hx : xs.length = n) (hy : ys.length = m) (hn : n ≤ 10) (hm : m ≤ 10) (hr : Rd w w.heap.size A (flat xs)) (hr' : Rd w w.heap.size A' (flat ys)) :
    Calls Try.prog 19 #[.slice A n c, .slice A' m c'] w fun e w' => e = .returned (.bool (eqB xs ys)) ∧ Below w.heap.size w w' := by
  subst hx hy
  exact iSameJumps_ xs ys A A' c c' w hr hr' (by omega) (by omega)
theorem iIsNormal_ok (ls : List Ln) (A : Option Addr) (c n : Nat) (w : World) (e : ls.length = n) (h10 : n ≤ 10) (hr : Rd w w.heap.size A (flat ls)) :
    Calls Try.prog 20 #[.slice A n c] w fun e w' => e = .returned (.bool (isnB ls)) ∧ Below w.heap.size w w' := by
  subst e
  exact iIsNormal_ ls A c w hr (by omega)
theorem sAreSame_ok (xs ys : List Ln) (A A' : Option Addr) (n m c c' : Nat) (w : World) (hx : xs.length = n) (hy : ys.length = m) (hn : n ≤ 10) (hm : m ≤ 10) (hr : Rd w w.heap.size A (flat xs)) (hr' : Rd w w.heap.size A' (flat ys)) :
    Calls Try.prog 21 #[.slice A n c, .slice A' m c'] w fun e w' => e = .returned (.bool (sameB xs ys)) ∧ Below w.heap.size w w' := by
  subst hx hy
  exact sAreSame_ xs ys A A' c c' w hr hr' (by omega) (by omega)
theorem iLayersOf_ok (ls : List Ln) (A : Option Addr) (c n : Nat) (w : World) (e : ls.length = n) (h10 : n ≤ 10) (hr : Rd w w.heap.size A (flat ls)) :
    Calls Try.prog 17 #[.slice A n c] w (GivesRows w 24 34 (layersL ls)) := by
  subst e
  exact iLayersOf_ ls A c w hr (by omega)

set_option maxHeartbeats 4000000 in
theorem fnNormal_walk (xs : List UInt8) (A : Option Addr) (c : Nat) (w : World) (rd : Rd w w.heap.size A (bts xs)) (hm : xs.length ≤ 9223372036854775807) :
    Calls Try.prog 3 #[.slice A xs.length c] w fun e w' => e = .returned (.bool true) ∧ Below w.heap.size w w' := by
  obtain ⟨i0, hi, hz0, hz1, hz2⟩ := info_parts infoLine
  by_cases hbig : (1048576 : Int) < (xs.length : Int)
  · go_enter Try.func3, Try.ntmps3
    go_wp2_with (go_at_call 12; refine (big_ _ _ _ _).mono ?_; rintro e w1 ⟨rfl, rfl⟩)
    go_ret
    exact ⟨rfl, Below.refl _ _⟩
  · have hm1 : xs.length ≤ 1048576 := by omega
    have hm2 : (xs.length : Int) ≤ 1048576 := by omega
    have RC := Lib.hid rd
    clear rd hm
    go_enter Try.func3, Try.ntmps3
    go_wp2_with (go_at_call 12; refine (big_ _ _ _ _).mono ?_; rintro e w1 ⟨rfl, rfl⟩)
    refine (drawJumps_ xs A c _ RC.out hm1).mono ?_
    rintro e w1 ⟨l, Al, cl, hl, rfl, rd1, hw1⟩
    obtain ⟨n, hn⟩ : ∃ n, l.length = n := ⟨_, rfl⟩
    have HN := Lib.hid hn
    rw [hn] at hl ⊢
    clear hn
    have RL := Lib.hid rd1
    clear rd1
    go_wp2_with fail
    refine (iNormalForm_ok l Al cl n _ HN.out (by omega) RL.out).mono ?_
    rintro e w2 ⟨Am, cm, rfl, own2, hb2⟩
    have RM2 := Lib.hid (rd_of_own own2)
    have RL2 := Lib.hid (RL.out.next hb2)
    have hw2 := below_next hw1 hb2
    have HNM : Hid ((nfL l).length = n) := Lib.hid (by rw [nfL_length l (nfB_yes (by rw [HN.out]; omega)), HN.out])
    clear own2 hb2 RL hw1
    go_upto_region 5 with fail
    go_cut [6] (fun v wc => ∃ (A' : Option Addr) (c' : Nat), v = .slice A' n c' ∧ Rd wc wc.heap.size A' (flat l) ∧ Below w2.heap.size w2 wc)
    case first =>
      cases Al with
      | none =>
        have hnil := rd_none RL2.out
        have h0 : l = [] := by
          cases l with
          | nil => rfl
          | cons x xs => simp [flat_cons] at hnil
        subst h0
        have e0 : n = 0 := HN.out.symm
        subst e0
        go_wp2_with fail
        go_meet
        exact ⟨_, _, rfl, Rd.nil, (Below.refl _ _).alloc (Nat.le_refl _) _⟩
      | some ad =>
        have hl3 : Hid ((flat l).length = n * 3) := Lib.hid (by rw [flat_length, HN.out])
        have hr1 := Lib.hid (rd_news (RL2.out.laid (.cells #[] 34)))
        go_wp2_with (at_builtin; refine wpList_append_own _ rfl (.tmp 26) (.tmp 27) 24 rfl w2.heap.size 34 i0 _ 3 24 Try.underlying24 hi hz0 hz1 hz2 rfl (by decide) _ _ _ rfl (World.ownsRow_lit w2 #[] 0 (Nat.le_refl _) (by simp [maxLen]) rfl) ad n cl (flat l) rfl hl3.out hr1.out (flat_one l) (by unfold maxLen; omega) (by omega) (by simp) ?_; intro v' w3 hown' hgrow hnil)
        obtain ⟨A', c', hv⟩ := own_value hown'
        subst hv
        have hw3 : Below w2.heap.size w2 w3 := ((Below.refl w2.heap.size w2).alloc (Nat.le_refl _) _).grown hgrow (by simp) (fun g hg => by have hg' : some w2.heap.size = some g := hg; injection hg' with hg'; omega)
        go_meet
        exact ⟨A', c', by simp, by simpa using rd_of_own hown', hw3⟩
    case rest =>
      obtain ⟨Ax, cx, rfl, rdx, hb3⟩ := hcut
      have hw3 := below_next hw2 hb3
      have RM3 := Lib.hid (RM2.out.next hb3)
      have RL3 := Lib.hid (RL2.out.next hb3)
      have RX3 := Lib.hid rdx
      clear RM2 RL2 rdx hb3 hw2
      go_wp2_with fail
      go_loopw [6, 7] (fun xv kv wr => ∃ (k : Nat) (ks : List Int) (A' : Option Addr) (c' : Nat), kv = .int .i64 k ∧ k ≤ 20 ∧ xv = .slice A' n c' ∧ Rd wr wr.heap.size A' (flat (swaps l ks)) ∧ Below wc.heap.size wc wr) (fun _ kv _ => 20 - (intOf kv).toNat)
      case atStart => exact ⟨0, [], Ax, cx, rfl, by omega, rfl, RX3.out, Below.refl _ _⟩
      case round =>
        obtain ⟨k, ks, A', c', rfl, hk, rfl, rdx, hwr⟩ := hrel
        have RX := Lib.hid rdx
        have HLN : Hid ((swaps l ks).length = n) := Lib.hid (by rw [swaps_len, HN.out])
        clear rdx
        by_cases hlt : k < 20
        · go_wp2_with fail
          refine (at_ xs A c k _ (((RC.out.below hw3).more hw3.size).next hwr) hm1 (by omega)).mono ?_
          rintro e w4 ⟨v, hv, rfl, rfl⟩
          have hv' : (v : Int) ≤ 255 := by omega
          have hmod : (v : Int) % 10 = ((v % 10 : Nat) : Int) := by omega
          have hvm : v % 10 < 10 := Nat.mod_lt _ (by omega)
          generalize v % 10 = q at *
          go_wp2_with fail
          refine (sSwapAt_n (swaps l ks) A' c' n (q : Int) (by unfold I64; omega) _ HLN.out RX.out (by omega)).mono ?_
          rintro e w5 ⟨A5, c5, rfl, own5, hb5⟩
          have RX5 := Lib.hid (rd_of_own own5)
          have HKS := Lib.hid (swaps_next l ks (q : Int))
          have hwr5 := below_next hwr hb5
          clear own5 hb5 RX hmod
          go_wp2
          go_roundw
          case rel => exact ⟨k + 1, ks ++ [(q : Int)], A5, c5, by go_num, by omega, rfl, by rw [HKS.out]; exact RX5.out, hwr5⟩
          case measure => simp [intOf]; omega
        · have HEND := Lib.hid (normal_end l (by rw [HN.out]; omega) ks)
          have RM4 := Lib.hid (RM3.out.next hwr)
          have RL4 := Lib.hid (RL3.out.next hwr)
          have hw4 := below_next hw3 hwr
          have HNMM : Hid ((nfL (nfL l)).length = n) := Lib.hid (by rw [nfL_length _ HEND.out.2.2.1, HNM.out])
          have HNX : Hid ((nfL (swaps l ks)).length = n) := Lib.hid (by rw [nfL_length _ HEND.out.2.1, HLN.out])
          clear RM3 RL3 RX3 hwr hw3
          go_wp2_with fail
          refine (iNormalForm_ok (swaps l ks) A' c' n _ HLN.out (by omega) RX.out).mono ?_
          rintro e w5 ⟨Ay, cy, rfl, own5, hb5⟩
          have RY5 := Lib.hid (rd_of_own own5)
          have RX5 := Lib.hid (RX.out.next hb5)
          have RM5 := Lib.hid (RM4.out.next hb5)
          have RL5 := Lib.hid (RL4.out.next hb5)
          have hw5 := below_next hw4 hb5
          clear own5 hb5 RX RM4 RL4 hw4
          go_wp2_with fail
          refine (iNormalForm_ok (nfL l) Am cm n _ HNM.out (by omega) RM5.out).mono ?_
          rintro e w6 ⟨Az, cz, rfl, own6, hb6⟩
          have RZ6 := Lib.hid (rd_of_own own6)
          have RY6 := Lib.hid (RY5.out.next hb6)
          have RX6 := Lib.hid (RX5.out.next hb6)
          have RM6 := Lib.hid (RM5.out.next hb6)
          have RL6 := Lib.hid (RL5.out.next hb6)
          have hw6 := below_next hw5 hb6
          clear own6 hb6 RX5 RY5 RM5 RL5 hw5
          go_wp2_with fail
          refine (iLayersOf_ok l Al cl n _ HN.out (by omega) RL6.out).mono ?_
          rintro e w7 ⟨AR, cR, vs, rfl, gr, hb7⟩
          have RZ7 := Lib.hid (RZ6.out.next hb7)
          have RY7 := Lib.hid (RY6.out.next hb7)
          have RX7 := Lib.hid (RX6.out.next hb7)
          have RM7 := Lib.hid (RM6.out.next hb7)
          have RL7 := Lib.hid (RL6.out.next hb7)
          have hw7 := below_next hw6 hb7
          have HALL := Lib.hid (layersL_facts l)
          have HLAY := Lib.hid (swaps_layers l ks)
          have HCALM : Hid (∀ (k i j : Nat) (r : List Ln) (x y : Ln), (layersL l)[k]? = some r → r[i]? = some x → r[j]? = some y → j < i → disturbB x y = false) := Lib.hid fun k i j r x y h1 h2 h3 h4 => calm_at h1 h2 h3 h4
          have hrl : allN (layersL l) = n := by rw [(layersL_facts l).2, HN.out]
          have hrl2 : (layersL l).length ≤ allN (layersL l) := full_len (layersL_facts l).1
          obtain ⟨R, hR⟩ : ∃ R, layersL l = R := ⟨_, rfl⟩
          rw [hR] at gr HLAY HCALM hrl hrl2 ⊢
          have HR := Lib.hid hR
          have GR := Lib.hid gr
          have HRL := Lib.hid hrl
          have hR8 : R.length ≤ 8 := by omega
          clear hb7 RX6 RY6 RM6 RL6 RZ6 hw6 hR gr hrl hrl2 HALL
          go_wp2_with fail
          go_loopw [13, 14] (fun sv kv wr => ∃ k : Nat, kv = .int .i64 k ∧ k ≤ R.length ∧ sv = .int .i64 (allN (R.take k) : Nat) ∧ Below w7.heap.size w7 wr) (fun _ kv _ => R.length - (intOf kv).toNat)
          case atStart => exact ⟨0, rfl, Nat.zero_le _, by simp [allN], Below.refl _ _⟩
          case round =>
            obtain ⟨k, rfl, hk, rfl, hwr⟩ := hrel
            by_cases hkl : k < R.length
            · obtain ⟨g, Ai, ci, r, rfl, hg, hr, hv, ho, hc0, hf⟩ := (GR.out.next hwr).row hkl
              have HT := Lib.hid (allN_take hr)
              have hle1 : allN (R.take k) ≤ 8 := by have := allN_take_le R k; have := HRL.out; omega
              have hle2 : r.length ≤ 8 := by have := allN_mem (List.mem_of_getElem? hr); have := HRL.out; omega
              have RO := Lib.hid (rd_of_own ho)
              have HRR := Lib.hid hr
              have k0 : (0 : Int) ≤ (k : Int) := by omega
              have k1 : (k : Int) < (R.length : Int) := by omega
              generalize allN (R.take k) = S at *
              clear hr hv ho hf
              go_wp2_with fail
              go_loopw [15] (fun jv wx => ∃ j : Nat, jv = .int .i64 j ∧ j ≤ r.length ∧ Below wr.heap.size wr wx) (fun jv _ => r.length - (intOf jv).toNat)
              case atStart => exact ⟨0, rfl, Nat.zero_le _, Below.refl _ _⟩
              case round =>
                obtain ⟨j, rfl, hj, hwx⟩ := hrel
                have hcx := (hwx.cell (p := ⟨g, k, none⟩) hg).trans hc0
                have hgx : g < wr.heap.size := Nat.lt_of_lt_of_le hg hwx.size
                by_cases hjl : j < r.length
                · go_wp2_with fail
                  go_loopw [16] (fun iv wy => ∃ i : Nat, iv = .int .i64 i ∧ i ≤ j ∧ Below wr.heap.size wr wy) (fun iv _ => j - (intOf iv).toNat)
                  case atStart => exact ⟨0, rfl, Nat.zero_le _, Below.refl _ _⟩
                  case round =>
                    obtain ⟨i, rfl, hi', hwy⟩ := hrel
                    have hcy := (hwy.cell (p := ⟨g, k, none⟩) hgx).trans hcx
                    have hgy : g < wr.heap.size := Nat.lt_of_lt_of_le hgx hwy.size
                    have RY := (RO.out.next hwx).next hwy
                    by_cases hij : i < j
                    · obtain ⟨bb, off, y, rfl, hbl, hy, y0, y1, y2⟩ := RY.line hjl
                      obtain ⟨bb', off', z, e2, _, hz, z0, z1, z2⟩ := RY.line (k := i) (by omega)
                      obtain ⟨rfl, rfl⟩ : bb = bb' ∧ off = off' := by simpa using e2
                      have hd := HCALM.out k j i r y z HRR.out hy hz hij
                      have j0 : (0 : Int) ≤ (j : Int) := by omega
                      have j1 : (j : Int) < (r.length : Int) := by omega
                      have i0 : (0 : Int) ≤ (i : Int) := by omega
                      have i1 : (i : Int) < (r.length : Int) := by omega
                      have i2 : (i : Int) < (j : Int) := by omega
                      have HD := Lib.hid hd
                      have HWY := Lib.hid hwy
                      clear hcx hc0 hd RY hy hz hwy
                      have hc : ∀ (a : Addr) (p : Regrown) (W : World), a.block < W.heap.size → (grow (redrawn W p.d) p.os).cell? a = W.cell? a := fun a p W h => (below_regrown W p.d p.os).cell h
                      go_wp2_with fail
                      refine wp_region_quiet_below (by kernel_rfl) (by kernel_rfl) ?_
                      repeat (go_big_quiet_step (first | (go_at_call 18; exact Calls.regrown_of (is_ (sDoDisturb_ y z _) HD.out))))
                      refine wpQuiet_nil ?_
                      intro w8 hw8
                      obtain ⟨p8, hp8⟩ := hw8
                      have hb8 := of_rg hp8
                      clear hp8 p8
                      have hw8 := below_next HWY.out hb8
                      clear hc
                      go_wp2
                      go_roundw
                      case rel => exact ⟨i + 1, by go_num, by omega, hw8⟩
                      case measure => simp [intOf]; omega
                    · go_wp2
                      go_roundw
                      case rel => exact ⟨j + 1, by go_num, by omega, hwx.trans (hwy.mono hwx.size)⟩
                      case measure => simp [intOf]; omega
                · go_wp2
                  go_roundw
                  case rel => exact ⟨k + 1, by go_num, by omega, by rw [HT.out]; have : j = r.length := by omega
                                                                    subst this; go_num, hwr.trans (hwx.mono hwr.size)⟩
                  case measure => simp [intOf]; omega
            · have ek : k = R.length := by omega
              subst ek
              have HA : Hid (allN (R.take R.length) = n) := Lib.hid (by rw [List.take_length]; exact HRL.out)
              have HE1 := Lib.hid HEND.out.2.2.2.1
              have HE2 := Lib.hid HEND.out.2.2.2.2.1
              have HE3 := Lib.hid HEND.out.2.2.2.2.2.1
              have HE4 := Lib.hid HEND.out.2.2.2.2.2.2.1
              have HE5 := Lib.hid HEND.out.2.2.2.2.2.2.2
              have hw8 := below_next hw7 hwr
              have RX8 := Lib.hid (RX7.out.next hwr)
              have RY8 := Lib.hid (RY7.out.next hwr)
              have RZ8 := Lib.hid (RZ7.out.next hwr)
              have RM8 := Lib.hid (RM7.out.next hwr)
              have RL8 := Lib.hid (RL7.out.next hwr)
              clear hwr hw7 RX7 RY7 RZ7 RM7 RL7 GR
              rw [HA.out]
              go_wp2_with fail
              refine (is_ (iSameJumps_ok (nfL l) (nfL (swaps l ks)) Am Ay n n cm cy _ HNM.out HNX.out (by omega) (by omega) RM8.out RY8.out) HE1.out).mono ?_
              rintro e w9 ⟨rfl, hb9⟩
              have hw9 := below_next hw8 hb9
              have RX9 := Lib.hid (RX8.out.next hb9)
              have RZ9 := Lib.hid (RZ8.out.next hb9)
              have RM9 := Lib.hid (RM8.out.next hb9)
              have RL9 := Lib.hid (RL8.out.next hb9)
              clear hb9 RX8 RY8 RZ8 RM8 RL8 hw8
              go_wp2_with fail
              refine (is_ (iSameJumps_ok (nfL l) (nfL (nfL l)) Am Az n n cm cz _ HNM.out HNMM.out (by omega) (by omega) RM9.out RZ9.out) HE2.out).mono ?_
              rintro e w10 ⟨rfl, hb10⟩
              have hw10 := below_next hw9 hb10
              have RX10 := Lib.hid (RX9.out.next hb10)
              have RM10 := Lib.hid (RM9.out.next hb10)
              have RL10 := Lib.hid (RL9.out.next hb10)
              clear hb10 RX9 RZ9 RM9 RL9 hw9
              go_wp2_with fail
              refine (is_ (iIsNormal_ok (nfL l) Am cm n _ HNM.out (by omega) RM10.out) HE3.out).mono ?_
              rintro e w11 ⟨rfl, hb11⟩
              have hw11 := below_next hw10 hb11
              have RX11 := Lib.hid (RX10.out.next hb11)
              have RM11 := Lib.hid (RM10.out.next hb11)
              have RL11 := Lib.hid (RL10.out.next hb11)
              clear hb11 RX10 RM10 RL10 hw10
              go_wp2_with fail
              refine (is_ (sAreSame_ok l (nfL l) Al Am n n cl cm _ HN.out HNM.out (by omega) (by omega) RL11.out RM11.out) HE4.out).mono ?_
              rintro e w12 ⟨rfl, hb12⟩
              have hw12 := below_next hw11 hb12
              have RX12 := Lib.hid (RX11.out.next hb12)
              have RM12 := Lib.hid (RM11.out.next hb12)
              have RL12 := Lib.hid (RL11.out.next hb12)
              clear hb12 RX11 RM11 RL11 hw11
              obtain ⟨B, hB⟩ : ∃ B, eqB l (nfL l) = B := ⟨_, rfl⟩
              have HB := Lib.hid hB
              clear hB
              go_wp2_with fail
              refine (is_ (iIsNormal_ok l Al cl n _ HN.out (by omega) RL12.out) (HE5.out.trans HB.out)).mono ?_
              rintro e w13 ⟨rfl, hb13⟩
              have hw13 := below_next hw12 hb13
              have RX13 := Lib.hid (RX12.out.next hb13)
              have RM13 := Lib.hid (RM12.out.next hb13)
              have RL13 := Lib.hid (RL12.out.next hb13)
              clear hb13 RX12 RM12 RL12 hw12
              go_wp2_with fail
              refine (is_ (iSameJumps_ok l (nfL l) Al Am n n cl cm _ HN.out HNM.out (by omega) (by omega) RL13.out RM13.out) HB.out).mono ?_
              rintro e w14 ⟨rfl, hb14⟩
              have hw14 := below_next hw13 hb14
              have RX14 := Lib.hid (RX13.out.next hb14)
              clear hb14 RX13 RM13 RL13 hw13
              go_wp2_with fail
              refine (iLayersOf_ok (swaps l ks) A' c' n _ HLN.out (by omega) RX14.out).mono ?_
              rintro e w15 ⟨AQ, cQ, vQ, rfl, -, hb15⟩
              have hw15 := below_next hw14 hb15
              rw [HLAY.out]
              clear hb15 hw14 RX14
              go_wp2_with fail
              refine (isI_ (iCompareJumps_ ⟨1, 0, 3⟩ ⟨1, 0, 2⟩ _) (show cmpL ⟨1, 0, 3⟩ ⟨1, 0, 2⟩ = 1 by decide)).mono ?_
              rintro e w16 ⟨rfl, hb16⟩
              have hw16 := below_next hw15 hb16
              go_wp2
              go_ret
              exact ⟨rfl, hw16⟩
end Go.Proofs.Ytbcgokpamhgabaa

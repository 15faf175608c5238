/- The contract of the reference's l22Ways. -/
import Derived.Test.YtliljgmpdfdakaaChecked
import Derived.Test.YtliljgmpdfdakaaMem
import Derived.Tactics
import Derived.Tactics2
import Derived.WalkKit
import Derived.WalkSpells
import Derived.WalkLawsBesides
import Derived.Deep.QuietTactic
import Derived.BigQuiet
import Derived.BigGuardPart
import Derived.Lib.QuietBelow
import Derived.OwnWalk
import Derived.KernelRfl
import Derived.Test.YtliljgmpdfdakaaWayQ
import Derived.Test.YtliljgmpdfdakaaReachF
import Derived.Test.YtliljgmpdfdakaaStuckG
set_option linter.unusedVariables false
set_option maxRecDepth 20000
namespace Go.Proofs.Ytliljgmpdfdakaa
open Go.RowKit Go.Sort

theorem set_twice (out : List Int) (x : Nat) (s v : Int) : (out.set x s).set x v = out.set x v := by simp [List.set_set]
/-- The call hands back a table that has the ways of all that p leads to. -/
def GivesWays (W : World) (N : Nat) (R : List Nat) (f : Nat → Int) (e : Ending) (w' : World) : Prop :=
  ∃ (A : Option Addr) (c : Nat) (out : List Int), e = .returned (.slice A N c) ∧ out.length = N ∧ (∀ x ∈ R, out[x]? = some (f x)) ∧ w'.ownsRow W.heap.size 3 1 (.slice A N c) N (ints out) ∧ Below W.heap.size W w'
set_option maxHeartbeats 8000000 in
theorem l22Ways_ (w h s q : Nat) (gs av : Int) (hS : smallB ⟨w, h, s⟩ = true) (hP : posB ⟨w, h, s⟩ q = true) (W : World) :
    Calls Try.prog 43 #[.agg #[.int .i64 w, .int .i64 h, .int .i64 s], .int .i64 q, .int .i64 gs, .int .i64 av] W
      (GivesWays W (2 ^ (w * h)) (reachL ⟨w, h, s⟩ q false) (ways (linesL ⟨w, h, s⟩) gs av)) := by
  have hb : BdOk w h s := by
    obtain ⟨w', h', s', e, hb, _, _⟩ := smallB_nat hS
    injection e with e1 e2 e3
    have e1 : w = w' := by omega
    have e2 : h = h' := by omega
    have e3 : s = s' := by omega
    subst e1; subst e2; subst e3
    exact hb
  have h16 : w * h ≤ 16 := by
    obtain ⟨w', h', s', e, _, h16, _⟩ := smallB_nat hS
    injection e with e1 e2 e3
    have e1 : w = w' := by omega
    have e2 : h = h' := by omega
    subst e1; subst e2
    exact h16
  have hq : q &&& s = q := by
    obtain ⟨q', e, hq⟩ := posB_nat hP
    have e : q = q' := by omega
    subst e
    exact hq
  have hql := posB_lt hb hq
  have hq64 : I64 (q : Int) := posB_i64 hP
  have HPQ := Lib.hid hP
  obtain ⟨m1, m2, m3⟩ := area_bounds hb.w1 hb.w7 hb.h1 hb.h7
  have hsh := i64_pow (w * h) (by omega)
  have HST := Lib.hid (stays_of hb)
  have HLS := Lib.hid (lsFo_of hb)
  have HLK := Lib.hid (lsOk_of hb)
  have hle := linesL_le ⟨w, h, s⟩
  have HRM := Lib.hid (fun x => reachL_mem (back := false) hS hP x)
  have HRP := Lib.hid (fun x (hx : x ∈ reachL ⟨w, h, s⟩ q false) => reach_pos hx)
  have hrle := reachL_le ⟨w, h, s⟩ q false
  have HND : Hid (reachL ⟨w, h, s⟩ q false).Nodup := Lib.hid (trues_sorted _ _)
  have HCL : Hid (∀ x ∈ reachL ⟨w, h, s⟩ q false, x < 2 ^ (w * h) ∧ ∀ l ∈ linesL ⟨w, h, s⟩, canJ x l = true → flip x l ∈ reachL ⟨w, h, s⟩ q false) := Lib.hid fun x hx => by
    have hx' := (reachL_mem hS hP x).1 hx
    refine ⟨?_, fun l hl hc => (reachL_mem hS hP _).2 (bfs_closed (back := false) hql (stays_of hb) hx' hl hc)⟩
    have := (List.getElem?_eq_some_iff.1 hx').1
    rw [bfs, (bst_inv hql (stays_of hb) _).len] at this
    exact this
  obtain ⟨ls, hls⟩ : ∃ ls, linesL ⟨w, h, s⟩ = ls := ⟨_, rfl⟩
  rw [hls] at HST HLS HLK hle HCL
  have HL := Lib.hid hls
  obtain ⟨R, hR⟩ : ∃ R, reachL ⟨w, h, s⟩ q false = R := ⟨_, rfl⟩
  rw [hR] at HRM HRP hrle HND HCL
  have HR := Lib.hid hR
  have hN1 : 2 ^ (w * h) ≤ 65536 := Nat.pow_le_pow_right (n := 2) (j := 16) (by omega) h16
  have HPC : Hid (∀ x, x < 2 ^ (w * h) → popc x ≤ w * h) := Lib.hid fun x hx => popc_le x hx (by omega)
  obtain ⟨N, hN⟩ : ∃ N, N = 2 ^ (w * h) := ⟨_, rfl⟩
  rw [← hN] at HST hql hN1 HCL HPC ⊢
  rw [show pow2 (w * h) = N from hN.symm] at hsh
  have hN0 : 0 < N := by omega
  obtain ⟨F, hF⟩ : ∃ F, ways ls gs av = F := ⟨_, rfl⟩
  have HFF := Lib.hid hF
  rw [hls, hR, hF]
  obtain ⟨j0, hj0, jz0, jz1, jz2⟩ := info_parts infoInt
  obtain ⟨wh, hwh⟩ : ∃ n, w * h = n := ⟨_, rfl⟩
  rw [hwh] at HPC
  have HWI : Hid ((w : Int) * (h : Int) = (wh : Int)) := Lib.hid (by rw [← hwh, Int.natCast_mul])
  have hwh49 : wh ≤ 49 := by omega
  clear hls hR hN hF hS hP hq hwh
  go_enter Try.func43, Try.ntmps43
  go_wp2_with fail
  refine (sLinesOf_ ⟨w, h, s⟩ _).mono ?_
  rintro e W1 ⟨A1, k1, rfl, rd1, hb1⟩
  rw [HL.out] at rd1 ⊢
  obtain ⟨hc, hf⟩ := bcell hb1
  have hz1' : W.heap.size < W1.heap.size := by have := hb1.size; simp at this; omega
  have hW1 : Below W.heap.size W W1 := below_step ((Below.refl _ _).alloc (Nat.le_refl _) _) hb1 (by simp)
  have c0 : W1.cell? ⟨W.heap.size, 0, none⟩ = some (.int .i64 w) := by rw [hc _ _ (by simp)]; simp [go_sem]
  have c1 : W1.cell? ⟨W.heap.size, 1, none⟩ = some (.int .i64 h) := by rw [hc _ _ (by simp)]; simp [go_sem]
  have c2 : W1.cell? ⟨W.heap.size, 2, none⟩ = some (.int .i64 s) := by rw [hc _ _ (by simp)]; simp [go_sem]
  clear hc hf
  go_wp2_with fail
  refine (sReachOf_ ⟨w, h, s⟩ q hq64 _).mono ?_
  rintro e W2 ⟨A2, k2, rfl, own2, hb2⟩
  rw [HR.out] at own2 ⊢
  have rd2 := rd_of_own own2
  have hW2 := below_next hW1 hb2
  have rd1' := rd1.next hb2
  replace c0 := (hb2.cell (p := ⟨W.heap.size, 0, none⟩) hz1').trans c0
  replace c1 := (hb2.cell (p := ⟨W.heap.size, 1, none⟩) hz1').trans c1
  replace c2 := (hb2.cell (p := ⟨W.heap.size, 2, none⟩) hz1').trans c2
  have hz2' : W.heap.size < W2.heap.size := by have := hb2.size; omega
  clear own2 rd1 hb1
  go_wp2_with (first | (at_make; refine wpList_make_full _ rfl (.tmp 26) (.tmp 26) 59 rfl W2.heap.size 3 j0 _ 1 Try.underlying59 hj0 jz0 jz1 .i64 .i64 _ _ N rfl rfl hsh hsh (by rw [jz2]; omega) (by unfold maxLen; omega) (Nat.le_refl _) ?_; intro W3 hown hg; have hb4 : Below W2.heap.size W2 W3 := (Below.refl _ _).grown hg (Nat.le_refl _) (by simp); rw [made_ints] at hown))
  have HO0 := Lib.hid hown
  clear hown hg
  go_loopw [12] (fun kv wr => ∃ (cc : Nat) (out : List Int), cc ≤ wh + 1 ∧ kv = .int .i64 cc ∧ OutOk R F N cc 0 out ∧ wr.ownsRow W2.heap.size 3 1 (.slice (some ⟨W2.heap.size, 0, none⟩) N N) N (ints out) ∧ Below W2.heap.size W2 wr) (fun kv _ => wh + 1 - (intOf kv).toNat)
  case atStart => exact ⟨0, _, Nat.zero_le _, rfl, ok_start R F N, HO0.out, hb4⟩
  case round =>
    obtain ⟨cc, out, hcc, rfl, hok, own, hw⟩ := hrel
    have HOK := Lib.hid hok
    have HO := Lib.hid own
    have b0 := (hw.cell (p := ⟨W.heap.size, 0, none⟩) hz2').trans c0
    have b1 := (hw.cell (p := ⟨W.heap.size, 1, none⟩) hz2').trans c1
    have b2 := (hw.cell (p := ⟨W.heap.size, 2, none⟩) hz2').trans c2
    have hzr : W.heap.size < wr.heap.size := by have := hw.size; omega
    clear hok own
    by_cases hcw : cc ≤ wh
    · have cw : (cc : Int) ≤ (w : Int) * (h : Int) := by rw [HWI.out]; omega
      go_wp2_with fail
      go_loopw [13] (fun kv wx => ∃ (i : Nat) (out : List Int), i ≤ R.length ∧ kv = .int .i64 i ∧ OutOk R F N cc i out ∧ wx.ownsRow W2.heap.size 3 1 (.slice (some ⟨W2.heap.size, 0, none⟩) N N) N (ints out) ∧ Below W2.heap.size W2 wx) (fun kv _ => R.length - (intOf kv).toNat)
      case atStart => exact ⟨0, _, Nat.zero_le _, rfl, HOK.out, HO.out, hw⟩
      case round =>
        obtain ⟨i, out, hi', rfl, hok, own, hw⟩ := hrel
        have HOK := Lib.hid hok
        have HO := Lib.hid own
        have hsz := hw.size
        have b0 := (hw.cell (p := ⟨W.heap.size, 0, none⟩) hz2').trans c0
        have b1 := (hw.cell (p := ⟨W.heap.size, 1, none⟩) hz2').trans c1
        have b2 := (hw.cell (p := ⟨W.heap.size, 2, none⟩) hz2').trans c2
        have hzr : W.heap.size < wr.heap.size := by omega
        clear hok own
        by_cases hil : i < R.length
        · have hx : R[i]? = some R[i] := List.getElem?_eq_getElem hil
          generalize R[i] = x at hx
          have hxm := List.mem_of_getElem? hx
          have hxc := HCL.out x hxm
          have hxl := hxc.1
          have HXC := Lib.hid hxc.2
          have x63 : B63 x := by unfold B63; omega
          have x64 : I64 (x : Int) := by unfold I64; omega
          have hpx := HRP.out x hxm
          have HPG : Hid (pegsB ⟨w, h, s⟩ x = ((popc x : Nat) : Int)) := Lib.hid (by rw [pegsB, if_pos hpx, Int.toNat_natCast])
          have HX := Lib.hid hx
          have HW49 := Lib.hid (ways_sum (ls := ls) (p := x) (gs := gs) (av := av) HLS.out)
          have HWG := Lib.hid (ways_goal (ls := ls) (p := x) (gs := gs) (av := av) HLS.out)
          have HWS := Lib.hid (ways_stuck (ls := ls) (p := x) (gs := gs) (av := av) HLS.out)
          rw [HFF.out] at HW49 HWG HWS
          obtain ⟨rb, roff, y, hA, hrb, hy, hrc⟩ := rd2.int (k := i) (by rw [natL_length]; exact hil)
          rw [natL_get hx] at hy
          injection hy with hy
          subst hy
          subst hA
          have rc := (hw.cell (p := ⟨rb, roff + i, none⟩) hrb).trans hrc
          have hrz : rb < wr.heap.size := by omega
          have i0' : (0 : Int) ≤ (i : Int) := by omega
          have i1' : (i : Int) < (R.length : Int) := by omega
          obtain ⟨px, hpxx⟩ : ∃ n, popc x = n := ⟨_, rfl⟩
          rw [hpxx] at HPG
          clear hx hxm hxc hpx
          rcases Bool.eq_false_or_eq_true ((px : Int) == (cc : Int)) with hpc | hpc
          · have hpc' : popc x = cc := by have : (px : Int) = (cc : Int) := by simpa using hpc
                                          omega
            have hpn : ((px : Int) != (cc : Int)) = false := by simpa using hpc
            go_wp2_with fail
            refine (isI_ (sCountPegs_ ⟨w, h, s⟩ x x64 _) HPG.out).mono ?_
            rintro e w2 ⟨rfl, hb2'⟩
            have hw2 : Below W2.heap.size W2 w2 := hw.trans (hb2'.mono hsz)
            have HO2 := Lib.hid (own_next HO.out hb2')
            have hs2 := hw2.size
            clear b0 b1 b2
            rcases Bool.eq_false_or_eq_true ((x : Int) == gs) with hgo | hgo
            · have HF1 := Lib.hid (HWG.out (show (x : Int) = gs by simpa using hgo))
              obtain ⟨z, _, u0, v0⟩ := own_at1 HO2.out hxl
              have HQ := Lib.hid (own_set1 HO2.out x 1)
              go_wp2
              go_roundw
              case rel => exact ⟨i + 1, out.set x 1, by omega, by go_num, by rw [← HF1.out]; exact ok_set HOK.out HX.out hpc' hxl, HQ.out, hw2.setCell (by simp) _⟩
              case measure => simp [intOf]; omega
            · have hgn : (x : Int) ≠ gs := by simpa using hgo
              have HGN := Lib.hid hgn
              clear hgn
              rcases Bool.eq_false_or_eq_true (decide (gs < 0)) with hg0 | hg0
              · have hg0' : gs < 0 := of_decide_eq_true hg0
                rcases Bool.eq_false_or_eq_true (stuckL ls x) with hst | hst
                · have HF1 := Lib.hid (HWS.out hg0' hst)
                  go_wp2_with fail
                  refine (is_ (l20Stuck_ ls A1 k1 x x63 HLK.out (by omega) _ ((rd1'.below hw2).more hw2.size)) hst).mono ?_
                  rintro e w4 ⟨rfl, hb4'⟩
                  have HO4 := Lib.hid (own_next HO2.out hb4')
                  have hw4 : Below W2.heap.size W2 w4 := hw2.trans (hb4'.mono hs2)
                  obtain ⟨z, _, u0, v0⟩ := own_at1 HO4.out hxl
                  have HQ := Lib.hid (own_set1 HO4.out x 1)
                  go_wp2
                  go_roundw
                  case rel => exact ⟨i + 1, out.set x 1, by omega, by go_num, by rw [← HF1.out]; exact ok_set HOK.out HX.out hpc' hxl, HQ.out, hw4.setCell (by simp) _⟩
                  case measure => simp [intOf]; omega
                · have HSUM : Hid (F x = wsum F av ls x) := Lib.hid (HW49.out HGN.out (by rw [hst, Bool.and_false]))
                  go_wp2_with fail
                  refine (is_ (l20Stuck_ ls A1 k1 x x63 HLK.out (by omega) _ ((rd1'.below hw2).more hw2.size)) hst).mono ?_
                  rintro e w4 ⟨rfl, hb4'⟩
                  have HO4 := Lib.hid (own_next HO2.out hb4')
                  have hw4 : Below W2.heap.size W2 w4 := hw2.trans (hb4'.mono hs2)
                  have HX0 : Hid (out.set x (wsum F av (ls.take 0) x) = out) := Lib.hid (set_zero (ok_zero HOK.out HND.out HX.out hpc' hxl))
                  go_wp2_with fail
                  go_loopw [15] (fun kv wy => ∃ k : Nat, k ≤ ls.length ∧ kv = .int .i64 k ∧ wy.ownsRow W2.heap.size 3 1 (.slice (some ⟨W2.heap.size, 0, none⟩) N N) N (ints (out.set x (wsum F av (ls.take k) x))) ∧ Below W2.heap.size W2 wy) (fun kv _ => ls.length - (intOf kv).toNat)
                  case atStart => exact ⟨0, Nat.zero_le _, rfl, by rw [HX0.out]; exact HO4.out, hw4⟩
                  case round =>
                    obtain ⟨k, hk, rfl, ownk, hwk⟩ := hrel
                    have HK := Lib.hid ownk
                    clear ownk
                    by_cases hkl : k < ls.length
                    · obtain ⟨bb, off, l, rfl, hbl, hll, x0', x1', x2'⟩ := rd1'.line hkl
                      have y0 := (hwk.cell (p := ⟨bb, off + k * 3, none⟩) hbl).trans x0'
                      have y1 := (hwk.cell (p := ⟨bb, off + k * 3 + 1, none⟩) hbl).trans x1'
                      have y2 := (hwk.cell (p := ⟨bb, off + k * 3 + 2, none⟩) hbl).trans x2'
                      have hlm := List.mem_of_getElem? hll
                      have HCJ := Lib.hid (HXC.out l hlm)
                      have HL49 := Lib.hid (HLS.out l hlm)
                      obtain ⟨f, o, t, rfl, f1, o1, t1, hft, hot, hfo⟩ := HLS.out l hlm
                      have HPJ := Lib.hid (popc_jump (p := x) HL49.out)
                      have HSTEP := Lib.hid (wsum_take (f := F) (av := av) (p := x) hll)
                      have k0' : (0 : Int) ≤ (k : Int) := by omega
                      have k1' : (k : Int) < (ls.length : Int) := by omega
                      have hbz : bb < wr.heap.size := by have := hwk.size; omega
                      have pf := i64_pow f (by omega)
                      have po := i64_pow o (by omega)
                      have l63 : B63 (lbits ⟨f, o, t⟩) := by simp only [lbits, Int.toNat_natCast]; exact b63_or (b63_or (b63_pow2 (by omega)) (b63_pow2 (by omega))) (b63_pow2 (by omega))
                      have a1 := i64_and x (lbits ⟨f, o, t⟩) x63 l63
                      have a2 := i64_or (pow2 f) (pow2 o) (b63_pow2 (by omega)) (b63_pow2 (by omega))
                      have a3 := i64_xor x (lbits ⟨f, o, t⟩) x63 l63
                      rw [show x ^^^ lbits ⟨f, o, t⟩ = flip x ⟨f, o, t⟩ from rfl] at a3
                      have H0 : (((x &&& lbits ⟨f, o, t⟩ : Nat) : Int) == ((pow2 f ||| pow2 o : Nat) : Int)) = canJ x ⟨f, o, t⟩ := by
                        rw [canJ_and hft hot, Bool.eq_iff_iff]; simp; omega
                      generalize hLB : lbits ⟨f, o, t⟩ = LB at a1 a3 H0
                      generalize hQe : flip x ⟨f, o, t⟩ = Q at a3 HPJ HCJ
                      have HLB := Lib.hid hLB
                      have HQE := Lib.hid hQe
                      obtain ⟨sv, hsv⟩ : ∃ s, wsum F av (ls.take k) x = s := ⟨_, rfl⟩
                      rw [hsv] at HK HSTEP
                      clear hll hlm hft hot hfo hLB hQe l63 x0' x1' x2' hsv
                      have hc : ∀ (a : Addr) (p : Regrown) (W : World), a.block < W.heap.size → (grow (redrawn W p.d) p.os).cell? a = W.cell? a := fun a p W h => (below_regrown W p.d p.os).cell h
                      rcases Bool.eq_false_or_eq_true (canJ x ⟨f, o, t⟩) with h1 | h1
                      · rw [h1] at H0
                        rcases Bool.eq_false_or_eq_true ((t : Int) == av) with h2 | h2
                        · have HXX := Lib.hid (HSTEP.out.trans (wstep_av h2))
                          have h3 : ((t : Int) != av) = false := by simpa using h2
                          clear h1
                          go_wp2_with fail
                          refine wp_region_quiet_below (by kernel_rfl) (by kernel_rfl) ?_
                          repeat (go_big_quiet_step (first | (go_at_call 57; exact Calls.regrown_of (isI_ (l05Bits_ f o t (by omega) (by omega) (by omega) _) (congrArg Int.ofNat HLB.out)))))
                          refine wpQuiet_nil ?_
                          intro w5 hw5
                          obtain ⟨p5, hp5⟩ := hw5
                          have hb5 := of_rg hp5
                          clear hp5 p5
                          have hw5 : Below W2.heap.size W2 w5 := hwk.trans (hb5.mono hwk.size)
                          have HK5 := Lib.hid (own_next HK.out hb5)
                          go_wp2
                          go_roundw
                          case rel => exact ⟨k + 1, by omega, by go_num, by rw [HXX.out]; exact HK5.out, hw5⟩
                          case measure => simp [intOf]; omega
                        · have HXX := Lib.hid (HSTEP.out.trans (wstep_yes h1 h2))
                          have h3 : ((t : Int) != av) = true := by simpa using h2
                          have hQR := HCJ.out h1
                          have hQN := (HCL.out Q hQR).1
                          have hpq := HPJ.out h1
                          have hQF := ok_next HOK.out hQR (by omega) hQN
                          have hQx : Q ≠ x := by
                            intro e
                            rw [e] at hpq
                            omega
                          have HQF := Lib.hid (set_other (s := sv) hQF hQx)
                          have HXH := Lib.hid (set_here (s := sv) (show x < out.length by rw [HOK.out.1]; exact hxl))
                          have q0 : (0 : Int) ≤ (Q : Int) := by omega
                          have q1 : (Q : Int) < (N : Int) := by omega
                          clear h1 hQF
                          go_wp2_with fail
                          refine wp_region_quiet_below (by kernel_rfl) (by kernel_rfl) ?_
                          repeat (go_big_quiet_step (first | (go_at_call 57; exact Calls.regrown_of (isI_ (l05Bits_ f o t (by omega) (by omega) (by omega) _) (congrArg Int.ofNat HLB.out)))))
                          refine wpQuiet_nil ?_
                          intro w5 hw5
                          obtain ⟨p5, hp5⟩ := hw5
                          have hb5 := of_rg hp5
                          clear hp5 p5
                          have hw5 : Below W2.heap.size W2 w5 := hwk.trans (hb5.mono hwk.size)
                          have HK5 := Lib.hid (own_next HK.out hb5)
                          obtain ⟨z1, hz1, u1, v1⟩ := own_at1 HK5.out hxl
                          obtain ⟨z2, hz2, u2, v2⟩ := own_at1 HK5.out hQN
                          have e1 : z1 = sv := by rw [HXH.out] at hz1; injection hz1 with h; exact h.symm
                          have e2 : z2 = F Q := by rw [HQF.out] at hz2; injection hz2 with h; exact h.symm
                          have E1 := Lib.hid e1
                          have E2 := Lib.hid e2
                          have hzz : W2.heap.size < w5.heap.size := (HK5.out.lt W2.heap.size rfl).2
                          have t0 := (hb5.cell (p := ⟨bb, off + k * 3, none⟩) hbz).trans y0
                          have t1 := (hb5.cell (p := ⟨bb, off + k * 3 + 1, none⟩) hbz).trans y1
                          have t2 := (hb5.cell (p := ⟨bb, off + k * 3 + 2, none⟩) hbz).trans y2
                          have hbz5 : bb < w5.heap.size := by have := hb5.size; omega
                          clear hz1 hz2 e1 e2 y0 y1 y2
                          go_wp2_with fail
                          refine region_tail 18 (by kernel_rfl) (by kernel_rfl) ?_
                          simp only [List.take_succ_cons, List.take_zero, List.drop_succ_cons, List.drop_zero]
                          repeat (go_big_quiet_step (first | (go_at_call 57; exact Calls.regrown_of (isI_ (l05Bits_ f o t (by omega) (by omega) (by omega) _) (congrArg Int.ofNat HLB.out)))))
                          refine wpQuiet_nil ?_
                          intro w6 hw6
                          obtain ⟨p6, hp6⟩ := hw6
                          have hb6 := of_rg hp6
                          clear hp6 p6
                          have own6 := own_next HK5.out hb6
                          have hw6 : Below W2.heap.size W2 w6 := hw5.trans (hb6.mono hw5.size)
                          obtain ⟨z3, _, u3, v3⟩ := own_at1 own6 hxl
                          have HQ6 := Lib.hid (own_set1 own6 x (wrap64 (z1 + z2)))
                          clear own6
                          go_wp2
                          go_roundw
                          case rel => exact ⟨k + 1, by omega, by go_num, by rw [HXX.out, HQE.out, ← E1.out, ← E2.out, ← set_twice out x sv]; exact HQ6.out, hw6.setCell (by simp) _⟩
                          case measure => simp [intOf]; omega
                      · rw [h1] at H0
                        have HXX := Lib.hid (HSTEP.out.trans (wstep_no h1))
                        clear h1
                        go_wp2_with fail
                        refine wp_region_quiet_below (by kernel_rfl) (by kernel_rfl) ?_
                        repeat (go_big_quiet_step (first | (go_at_call 57; exact Calls.regrown_of (isI_ (l05Bits_ f o t (by omega) (by omega) (by omega) _) (congrArg Int.ofNat HLB.out)))))
                        refine wpQuiet_nil ?_
                        intro w5 hw5
                        obtain ⟨p5, hp5⟩ := hw5
                        have hb5 := of_rg hp5
                        clear hp5 p5
                        have hw5 : Below W2.heap.size W2 w5 := hwk.trans (hb5.mono hwk.size)
                        have HK5 := Lib.hid (own_next HK.out hb5)
                        go_wp2
                        go_roundw
                        case rel => exact ⟨k + 1, by omega, by go_num, by rw [HXX.out]; exact HK5.out, hw5⟩
                        case measure => simp [intOf]; omega
                    · have e : k = ls.length := by omega
                      subst e
                      have HKE := HK.out
                      rw [List.take_length, ← HSUM.out] at HKE
                      have HKF := Lib.hid HKE
                      clear HKE
                      go_wp2
                      go_roundw
                      case rel => exact ⟨i + 1, out.set x (F x), by omega, by go_num, ok_set HOK.out HX.out hpc' hxl, HKF.out, hwk⟩
                      case measure => simp [intOf]; omega
              · have HSUM : Hid (F x = wsum F av ls x) := Lib.hid (HW49.out HGN.out (by rw [hg0, Bool.false_and]))
                have HX0 : Hid (out.set x (wsum F av (ls.take 0) x) = out) := Lib.hid (set_zero (ok_zero HOK.out HND.out HX.out hpc' hxl))
                go_wp2_with fail
                go_loopw [15] (fun kv wy => ∃ k : Nat, k ≤ ls.length ∧ kv = .int .i64 k ∧ wy.ownsRow W2.heap.size 3 1 (.slice (some ⟨W2.heap.size, 0, none⟩) N N) N (ints (out.set x (wsum F av (ls.take k) x))) ∧ Below W2.heap.size W2 wy) (fun kv _ => ls.length - (intOf kv).toNat)
                case atStart => exact ⟨0, Nat.zero_le _, rfl, by rw [HX0.out]; exact HO2.out, hw2⟩
                case round =>
                  obtain ⟨k, hk, rfl, ownk, hwk⟩ := hrel
                  have HK := Lib.hid ownk
                  clear ownk
                  by_cases hkl : k < ls.length
                  · obtain ⟨bb, off, l, rfl, hbl, hll, x0', x1', x2'⟩ := rd1'.line hkl
                    have y0 := (hwk.cell (p := ⟨bb, off + k * 3, none⟩) hbl).trans x0'
                    have y1 := (hwk.cell (p := ⟨bb, off + k * 3 + 1, none⟩) hbl).trans x1'
                    have y2 := (hwk.cell (p := ⟨bb, off + k * 3 + 2, none⟩) hbl).trans x2'
                    have hlm := List.mem_of_getElem? hll
                    have HCJ := Lib.hid (HXC.out l hlm)
                    have HL49 := Lib.hid (HLS.out l hlm)
                    obtain ⟨f, o, t, rfl, f1, o1, t1, hft, hot, hfo⟩ := HLS.out l hlm
                    have HPJ := Lib.hid (popc_jump (p := x) HL49.out)
                    have HSTEP := Lib.hid (wsum_take (f := F) (av := av) (p := x) hll)
                    have k0' : (0 : Int) ≤ (k : Int) := by omega
                    have k1' : (k : Int) < (ls.length : Int) := by omega
                    have hbz : bb < wr.heap.size := by have := hwk.size; omega
                    have pf := i64_pow f (by omega)
                    have po := i64_pow o (by omega)
                    have l63 : B63 (lbits ⟨f, o, t⟩) := by simp only [lbits, Int.toNat_natCast]; exact b63_or (b63_or (b63_pow2 (by omega)) (b63_pow2 (by omega))) (b63_pow2 (by omega))
                    have a1 := i64_and x (lbits ⟨f, o, t⟩) x63 l63
                    have a2 := i64_or (pow2 f) (pow2 o) (b63_pow2 (by omega)) (b63_pow2 (by omega))
                    have a3 := i64_xor x (lbits ⟨f, o, t⟩) x63 l63
                    rw [show x ^^^ lbits ⟨f, o, t⟩ = flip x ⟨f, o, t⟩ from rfl] at a3
                    have H0 : (((x &&& lbits ⟨f, o, t⟩ : Nat) : Int) == ((pow2 f ||| pow2 o : Nat) : Int)) = canJ x ⟨f, o, t⟩ := by
                      rw [canJ_and hft hot, Bool.eq_iff_iff]; simp; omega
                    generalize hLB : lbits ⟨f, o, t⟩ = LB at a1 a3 H0
                    generalize hQe : flip x ⟨f, o, t⟩ = Q at a3 HPJ HCJ
                    have HLB := Lib.hid hLB
                    have HQE := Lib.hid hQe
                    obtain ⟨sv, hsv⟩ : ∃ s, wsum F av (ls.take k) x = s := ⟨_, rfl⟩
                    rw [hsv] at HK HSTEP
                    clear hll hlm hft hot hfo hLB hQe l63 x0' x1' x2' hsv
                    have hc : ∀ (a : Addr) (p : Regrown) (W : World), a.block < W.heap.size → (grow (redrawn W p.d) p.os).cell? a = W.cell? a := fun a p W h => (below_regrown W p.d p.os).cell h
                    rcases Bool.eq_false_or_eq_true (canJ x ⟨f, o, t⟩) with h1 | h1
                    · rw [h1] at H0
                      rcases Bool.eq_false_or_eq_true ((t : Int) == av) with h2 | h2
                      · have HXX := Lib.hid (HSTEP.out.trans (wstep_av h2))
                        have h3 : ((t : Int) != av) = false := by simpa using h2
                        clear h1
                        go_wp2_with fail
                        refine wp_region_quiet_below (by kernel_rfl) (by kernel_rfl) ?_
                        repeat (go_big_quiet_step (first | (go_at_call 57; exact Calls.regrown_of (isI_ (l05Bits_ f o t (by omega) (by omega) (by omega) _) (congrArg Int.ofNat HLB.out)))))
                        refine wpQuiet_nil ?_
                        intro w5 hw5
                        obtain ⟨p5, hp5⟩ := hw5
                        have hb5 := of_rg hp5
                        clear hp5 p5
                        have hw5 : Below W2.heap.size W2 w5 := hwk.trans (hb5.mono hwk.size)
                        have HK5 := Lib.hid (own_next HK.out hb5)
                        go_wp2
                        go_roundw
                        case rel => exact ⟨k + 1, by omega, by go_num, by rw [HXX.out]; exact HK5.out, hw5⟩
                        case measure => simp [intOf]; omega
                      · have HXX := Lib.hid (HSTEP.out.trans (wstep_yes h1 h2))
                        have h3 : ((t : Int) != av) = true := by simpa using h2
                        have hQR := HCJ.out h1
                        have hQN := (HCL.out Q hQR).1
                        have hpq := HPJ.out h1
                        have hQF := ok_next HOK.out hQR (by omega) hQN
                        have hQx : Q ≠ x := by
                          intro e
                          rw [e] at hpq
                          omega
                        have HQF := Lib.hid (set_other (s := sv) hQF hQx)
                        have HXH := Lib.hid (set_here (s := sv) (show x < out.length by rw [HOK.out.1]; exact hxl))
                        have q0 : (0 : Int) ≤ (Q : Int) := by omega
                        have q1 : (Q : Int) < (N : Int) := by omega
                        clear h1 hQF
                        go_wp2_with fail
                        refine wp_region_quiet_below (by kernel_rfl) (by kernel_rfl) ?_
                        repeat (go_big_quiet_step (first | (go_at_call 57; exact Calls.regrown_of (isI_ (l05Bits_ f o t (by omega) (by omega) (by omega) _) (congrArg Int.ofNat HLB.out)))))
                        refine wpQuiet_nil ?_
                        intro w5 hw5
                        obtain ⟨p5, hp5⟩ := hw5
                        have hb5 := of_rg hp5
                        clear hp5 p5
                        have hw5 : Below W2.heap.size W2 w5 := hwk.trans (hb5.mono hwk.size)
                        have HK5 := Lib.hid (own_next HK.out hb5)
                        obtain ⟨z1, hz1, u1, v1⟩ := own_at1 HK5.out hxl
                        obtain ⟨z2, hz2, u2, v2⟩ := own_at1 HK5.out hQN
                        have e1 : z1 = sv := by rw [HXH.out] at hz1; injection hz1 with h; exact h.symm
                        have e2 : z2 = F Q := by rw [HQF.out] at hz2; injection hz2 with h; exact h.symm
                        have E1 := Lib.hid e1
                        have E2 := Lib.hid e2
                        have hzz : W2.heap.size < w5.heap.size := (HK5.out.lt W2.heap.size rfl).2
                        have t0 := (hb5.cell (p := ⟨bb, off + k * 3, none⟩) hbz).trans y0
                        have t1 := (hb5.cell (p := ⟨bb, off + k * 3 + 1, none⟩) hbz).trans y1
                        have t2 := (hb5.cell (p := ⟨bb, off + k * 3 + 2, none⟩) hbz).trans y2
                        have hbz5 : bb < w5.heap.size := by have := hb5.size; omega
                        clear hz1 hz2 e1 e2 y0 y1 y2
                        go_wp2_with fail
                        refine region_tail 18 (by kernel_rfl) (by kernel_rfl) ?_
                        simp only [List.take_succ_cons, List.take_zero, List.drop_succ_cons, List.drop_zero]
                        repeat (go_big_quiet_step (first | (go_at_call 57; exact Calls.regrown_of (isI_ (l05Bits_ f o t (by omega) (by omega) (by omega) _) (congrArg Int.ofNat HLB.out)))))
                        refine wpQuiet_nil ?_
                        intro w6 hw6
                        obtain ⟨p6, hp6⟩ := hw6
                        have hb6 := of_rg hp6
                        clear hp6 p6
                        have own6 := own_next HK5.out hb6
                        have hw6 : Below W2.heap.size W2 w6 := hw5.trans (hb6.mono hw5.size)
                        obtain ⟨z3, _, u3, v3⟩ := own_at1 own6 hxl
                        have HQ6 := Lib.hid (own_set1 own6 x (wrap64 (z1 + z2)))
                        clear own6
                        go_wp2
                        go_roundw
                        case rel => exact ⟨k + 1, by omega, by go_num, by rw [HXX.out, HQE.out, ← E1.out, ← E2.out, ← set_twice out x sv]; exact HQ6.out, hw6.setCell (by simp) _⟩
                        case measure => simp [intOf]; omega
                    · rw [h1] at H0
                      have HXX := Lib.hid (HSTEP.out.trans (wstep_no h1))
                      clear h1
                      go_wp2_with fail
                      refine wp_region_quiet_below (by kernel_rfl) (by kernel_rfl) ?_
                      repeat (go_big_quiet_step (first | (go_at_call 57; exact Calls.regrown_of (isI_ (l05Bits_ f o t (by omega) (by omega) (by omega) _) (congrArg Int.ofNat HLB.out)))))
                      refine wpQuiet_nil ?_
                      intro w5 hw5
                      obtain ⟨p5, hp5⟩ := hw5
                      have hb5 := of_rg hp5
                      clear hp5 p5
                      have hw5 : Below W2.heap.size W2 w5 := hwk.trans (hb5.mono hwk.size)
                      have HK5 := Lib.hid (own_next HK.out hb5)
                      go_wp2
                      go_roundw
                      case rel => exact ⟨k + 1, by omega, by go_num, by rw [HXX.out]; exact HK5.out, hw5⟩
                      case measure => simp [intOf]; omega
                  · have e : k = ls.length := by omega
                    subst e
                    have HKE := HK.out
                    rw [List.take_length, ← HSUM.out] at HKE
                    have HKF := Lib.hid HKE
                    clear HKE
                    go_wp2
                    go_roundw
                    case rel => exact ⟨i + 1, out.set x (F x), by omega, by go_num, ok_set HOK.out HX.out hpc' hxl, HKF.out, hwk⟩
                    case measure => simp [intOf]; omega
          · have hpc' : popc x ≠ cc := by have : (px : Int) ≠ (cc : Int) := by simpa using hpc
                                          omega
            have hpn : ((px : Int) != (cc : Int)) = true := by simpa using hpc
            go_wp2_with fail
            refine (isI_ (sCountPegs_ ⟨w, h, s⟩ x x64 _) HPG.out).mono ?_
            rintro e w2 ⟨rfl, hb2'⟩
            have hw2 : Below W2.heap.size W2 w2 := hw.trans (hb2'.mono hsz)
            have HO2 := Lib.hid (own_next HO.out hb2')
            go_wp2
            go_roundw
            case rel => exact ⟨i + 1, out, by omega, by go_num, ok_skip HOK.out HX.out hpc', HO2.out, hw2⟩
            case measure => simp [intOf]; omega
        · have e : i = R.length := by omega
          subst e
          go_wp2
          go_roundw
          case rel => exact ⟨cc + 1, out, by omega, by go_num, ok_level HOK.out, HO.out, hw⟩
          case measure => simp [intOf]; omega
    · have e : cc = wh + 1 := by omega
      subst e
      have cw : ¬ (((wh + 1 : Nat) : Int) ≤ (w : Int) * (h : Int)) := by rw [HWI.out]; omega
      go_wp2
      go_ret
      exact ⟨_, N, out, rfl, HOK.out.1, fun x hx => ok_end HOK.out hx (by have := HPC.out x (HCL.out x hx).1; omega) (HCL.out x hx).1, own_base HO.out hW2.size, below_next hW2 hw⟩
end Go.Proofs.Ytliljgmpdfdakaa

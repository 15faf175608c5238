/- The contract of the reference's IndexOfGame. -/
import Derived.Test.YtliljgmpdfdakaaChecked
import Derived.Test.YtliljgmpdfdakaaMem
import Derived.Tactics
import Derived.Tactics2
import Derived.WalkKit
import Derived.WalkSpells
import Derived.WalkLawsBesides
import Derived.Deep.QuietTactic
import Derived.BigQuiet
import Derived.BigGuardPart
import Derived.Lib.QuietBelow
import Derived.OwnWalk
import Derived.KernelRfl
import Derived.Test.YtliljgmpdfdakaaIdx
set_option linter.unusedVariables false
set_option maxRecDepth 20000
namespace Go.Proofs.Ytliljgmpdfdakaa
open Go.RowKit Go.Sort

set_option maxHeartbeats 8000000 in
theorem sIndexOfGame_ (b : Ln) (p g : Int) (hp : I64 p) (hg : I64 g) (js : List Ln) (A0 : Option Addr) (c0' : Nat) (hm : js.length ≤ 9223372036854775807) (W : World) (rd : Rd W W.heap.size A0 (flat js)) :
    Calls Try.prog 28 #[.agg #[.int .i64 b.f, .int .i64 b.o, .int .i64 b.t], .int .i64 p, .int .i64 g, .slice A0 js.length c0'] W fun e w' => e = .returned (.int .i64 (indexI b p g js)) ∧ Below W.heap.size W w' := by
  rcases Bool.eq_false_or_eq_true (pairB b p g) with hO | hO
  · rcases Bool.eq_false_or_eq_true (solB b p g js) with hO2 | hO2
    · have hS : smallB b = true := by simp only [pairB, Bool.and_eq_true] at hO; exact hO.1.1
      have hP : posB b p = true := by simp only [pairB, Bool.and_eq_true] at hO; exact hO.1.2
      obtain ⟨w, h, s, rfl, hb, h16, s16⟩ := smallB_nat hS
      obtain ⟨q, rfl, hq⟩ := posB_nat hP
      have hql := posB_lt hb hq
      have HR : Hid (indexI ⟨w, h, s⟩ q g js = accI (ways (linesL ⟨w, h, s⟩) g (-1)) (linesL ⟨w, h, s⟩) q js js.length) := Lib.hid (by rw [indexI, hS, hO2]; rfl)
      have HPL := Lib.hid (sol_plays hb hq hO2)
      have HCL : Hid (∀ x ∈ reachL ⟨w, h, s⟩ q false, x < 2 ^ (w * h) ∧ posB ⟨w, h, s⟩ x = true ∧ ∀ l ∈ linesL ⟨w, h, s⟩, canJ x l = true → flip x l ∈ reachL ⟨w, h, s⟩ q false) := Lib.hid fun x hx => by
        have hx' := (reachL_mem hS hP x).1 hx
        refine ⟨?_, reach_pos hx, fun l hl hc => (reachL_mem hS hP _).2 (bfs_closed (back := false) hql (stays_of hb) hx' hl hc)⟩
        have := (List.getElem?_eq_some_iff.1 hx').1
        rw [bfs, (bst_inv hql (stays_of hb) _).len] at this
        exact this
      have HSELF := Lib.hid (reach_self hb hS hP hql)
      have HLS := Lib.hid (lsFo_of hb)
      have hle := linesL_le ⟨w, h, s⟩
      have hN1 : 2 ^ (w * h) ≤ 65536 := Nat.pow_le_pow_right (n := 2) (j := 16) (by omega) h16
      have HJL : Hid (∀ x : Nat, posB ⟨w, h, s⟩ x = true → jumpsL ⟨w, h, s⟩ x = (linesL ⟨w, h, s⟩).filter (canJ x)) := Lib.hid fun x hx => jumpsL_yes hx
      have HTB := Lib.hid (fun W' => l22Ways_ w h s q g (-1) hS hP W')
      obtain ⟨ls, hls⟩ : ∃ ls, linesL ⟨w, h, s⟩ = ls := ⟨_, rfl⟩
      rw [hls] at HR HPL HCL HLS hle HJL HTB
      obtain ⟨R, hR⟩ : ∃ R, reachL ⟨w, h, s⟩ q false = R := ⟨_, rfl⟩
      rw [hR] at HCL HSELF HTB
      obtain ⟨N, hN⟩ : ∃ N, 2 ^ (w * h) = N := ⟨_, rfl⟩
      rw [hN] at HCL hN1 HTB
      obtain ⟨F, hF⟩ : ∃ F, ways ls g (-1) = F := ⟨_, rfl⟩
      rw [hF] at HR HTB
      clear hls hR hN hql hF hS hP
      go_enter Try.func28, Try.ntmps28
      go_wp2_with fail
      refine (is_ (l15Ok_ ⟨w, h, s⟩ q g hp hg _) hO).mono ?_
      rintro e w1 ⟨rfl, hb1⟩
      obtain ⟨hc, hf⟩ := bcell hb1
      have z0 : W.heap.size < w1.heap.size := by have := hb1.size; (try simp at this); omega
      have hw1 : Below W.heap.size W w1 := below_step ((Below.refl _ _).alloc (Nat.le_refl _) _) hb1 (by (try simp))
      have c0 : w1.cell? ⟨W.heap.size, 0, none⟩ = some (.int .i64 w) := by rw [hc _ _ (by simp)]; simp [go_sem]
      have c1 : w1.cell? ⟨W.heap.size, 1, none⟩ = some (.int .i64 h) := by rw [hc _ _ (by simp)]; simp [go_sem]
      have c2 : w1.cell? ⟨W.heap.size, 2, none⟩ = some (.int .i64 s) := by rw [hc _ _ (by simp)]; simp [go_sem]
      clear hc hf hb1
      go_wp2_with fail
      refine (is_ (sIsSolution_ ⟨w, h, s⟩ q g hp js A0 c0' hm _ ((rd.below hw1).more hw1.size)) hO2).mono ?_
      rintro e w2 ⟨rfl, hb2⟩
      replace c0 := (hb2.cell (p := ⟨W.heap.size, 0, none⟩) z0).trans c0
      replace c1 := (hb2.cell (p := ⟨W.heap.size, 1, none⟩) z0).trans c1
      replace c2 := (hb2.cell (p := ⟨W.heap.size, 2, none⟩) z0).trans c2
      replace z0 : W.heap.size < (w2).heap.size := by have := hb2.size; omega
      have hw2 := below_next hw1 hb2
      clear hb2
      go_wp2_with fail
      refine (HTB.out _).mono ?_
      rintro e w3 ⟨AT, cT, out, rfl, hol, hrw, own, hb3⟩
      replace c0 := (hb3.cell (p := ⟨W.heap.size, 0, none⟩) z0).trans c0
      replace c1 := (hb3.cell (p := ⟨W.heap.size, 1, none⟩) z0).trans c1
      replace c2 := (hb3.cell (p := ⟨W.heap.size, 2, none⟩) z0).trans c2
      replace z0 : W.heap.size < (w3).heap.size := by have := hb3.size; omega
      have hw3 := below_next hw2 hb3
      have HRW := Lib.hid hrw
      have HRT := Lib.hid (rd_of_own own)
      have HRJ := Lib.hid (rd.below hw3)
      clear hb3 hrw own rd
      go_wp2_with fail
      go_loopw [1, 10, 11] (fun pv sv iv wr => ∃ i : Nat, i ≤ js.length ∧ iv = .int .i64 i ∧ pv = .int .i64 (posn q js i) ∧ sv = .int .i64 (accI F ls q js i) ∧ Below w3.heap.size w3 wr) (fun _ _ iv _ => js.length - (intOf iv).toNat)
      case atStart => exact ⟨0, Nat.zero_le _, rfl, rfl, rfl, Below.refl _ _⟩
      case round =>
        obtain ⟨i, hi, rfl, rfl, rfl, hwr⟩ := hrel
        have hsz := hwr.size
        by_cases hil : i < js.length
        · have hpj := HPL.out.at (List.getElem?_eq_getElem hil)
          have hjg : js[i]? = some js[i] := List.getElem?_eq_getElem hil
          obtain ⟨jb, joff, j, rfl, hjb, hj, y0, y1, y2⟩ := (HRJ.out.below' hwr hw3.size).line hil
          obtain rfl : js[i] = j := by rw [hjg] at hj; injection hj
          clear hjg
          have hxR := HPL.out.mem (fun x hx => (HCL.out x hx).2.2) i HSELF.out
          have HAN := Lib.hid (accI_next (F := F) (ls := ls) (q := q) hj)
          have HPN := Lib.hid (posn_next (q := q) hj)
          have hjl := hpj.1
          have hcj := hpj.2
          generalize js[i] = j at *
          obtain ⟨x, hx⟩ : ∃ x, posn q js i = x := ⟨_, rfl⟩
          obtain ⟨sv, hsv⟩ : ∃ x, accI F ls q js i = x := ⟨_, rfl⟩
          rw [hx, hsv] at HAN
          rw [hx] at hxR hcj HPN
          rw [hx, hsv]
          have HX := HCL.out x hxR
          have hxN := HX.1
          have hxP := Lib.hid HX.2.1
          have x63 : B63 x := by unfold B63; omega
          have hxi : I64 (x : Int) := by unfold I64; omega
          have HXR := Lib.hid hxR
          rw [idxAB hcj] at HAN
          obtain ⟨jf, jo, jt, rfl, jf1, jo1, jt1, hjft, hjot, hjfo⟩ := HLS.out j hjl
          have i0 : (0 : Int) ≤ (i : Int) := by omega
          have i1 : (i : Int) < (js.length : Int) := by omega
          have hjz : jb < wr.heap.size := by have := hw3.size; omega
          have l63 : B63 (lbits ⟨jf, jo, jt⟩) := by simp only [lbits, Int.toNat_natCast]; exact b63_or (b63_or (b63_pow2 (by omega)) (b63_pow2 (by omega))) (b63_pow2 (by omega))
          have a3 := i64_xor x (lbits ⟨jf, jo, jt⟩) x63 l63
          rw [show x ^^^ lbits ⟨jf, jo, jt⟩ = flip x ⟨jf, jo, jt⟩ from rfl] at a3
          generalize hLB : lbits ⟨jf, jo, jt⟩ = JB at a3
          have HJB := Lib.hid hLB
          obtain ⟨fl, hfl⟩ : ∃ fl, ls.filter (canJ x) = fl := ⟨_, rfl⟩
          have HFM : Hid (∀ l ∈ fl, l ∈ ls ∧ canJ x l = true) := Lib.hid fun l hl => by rw [← hfl] at hl; exact List.mem_filter.1 hl
          have hfle : fl.length ≤ ls.length := by rw [← hfl]; exact List.length_filter_le _ _
          have HJF : Hid (jumpsL ⟨w, h, s⟩ x = fl) := Lib.hid ((HJL.out x hxP.out).trans hfl)
          have HIB : Hid (∀ k, noneB fl k ⟨jf, jo, jt⟩ → (∀ l, fl[k]? = some l → eqL l ⟨jf, jo, jt⟩ = true) → idxB F ls x ⟨jf, jo, jt⟩ sv = (fl.take k).foldl (jstep F x) sv) := Lib.hid fun k h1 h2 => by
            rw [idxB, hfl, take_while fl k _ h1 h2]
          have d0 := (hwr.cell (p := ⟨W.heap.size, 0, none⟩) z0).trans c0
          have d1 := (hwr.cell (p := ⟨W.heap.size, 1, none⟩) z0).trans c1
          have d2 := (hwr.cell (p := ⟨W.heap.size, 2, none⟩) z0).trans c2
          have hzr : W.heap.size < wr.heap.size := by omega
          clear hpj hjl hx hsv hj hxR hjft hjot hjfo HX hcj hLB l63 hfl
          go_wp2_with fail
          refine (sJumpsOf_ ⟨w, h, s⟩ x hxi _).mono ?_
          rintro e w5 ⟨AL, cL, rfl, rdl, hb5⟩
          rw [HJF.out] at rdl ⊢
          have HRL := Lib.hid rdl
          have hw5 : Below w3.heap.size w3 w5 := hwr.trans (hb5.mono hwr.size)
          have hs5 := hb5.size
          have u0 := (hb5.cell (p := ⟨jb, joff + i * 3, none⟩) hjz).trans y0
          have u1 := (hb5.cell (p := ⟨jb, joff + i * 3 + 1, none⟩) hjz).trans y1
          have u2 := (hb5.cell (p := ⟨jb, joff + i * 3 + 2, none⟩) hjz).trans y2
          have hjz5 : jb < w5.heap.size := by omega
          clear rdl hb5 y0 y1 y2 d0 d1 d2
          go_wp2_with fail
          go_loopw [10, 13] (fun sw kv wx => ∃ k : Nat, k ≤ fl.length ∧ kv = .int .i64 k ∧ sw = .int .i64 ((fl.take k).foldl (jstep F x) sv) ∧ noneB fl k ⟨jf, jo, jt⟩ ∧ Below w5.heap.size w5 wx) (fun _ kv _ => fl.length - (intOf kv).toNat)
          case atStart => exact ⟨0, Nat.zero_le _, rfl, rfl, noneB_zero _ _, Below.refl _ _⟩
          case round =>
            obtain ⟨k, hk, rfl, rfl, hnb, hwk⟩ := hrel
            have HNB := Lib.hid hnb
            have hsk := hwk.size
            have t0 := (hwk.cell (p := ⟨jb, joff + i * 3, none⟩) hjz5).trans u0
            have t1 := (hwk.cell (p := ⟨jb, joff + i * 3 + 1, none⟩) hjz5).trans u1
            have t2 := (hwk.cell (p := ⟨jb, joff + i * 3 + 2, none⟩) hjz5).trans u2
            have hjzk : jb < wr.heap.size := by omega
            have hw6 : Below w3.heap.size w3 wr := hw5.trans (hwk.mono hw5.size)
            clear hnb
            by_cases hkl : k < fl.length
            · obtain ⟨bb, off, l, rfl, hbl, hl, x0, x1, x2⟩ := (HRL.out.next hwk).line hkl
              have HSN := Lib.hid (fold_take1 (jstep F x) sv hl)
              have hlf := HFM.out l (List.mem_of_getElem? hl)
              have hlm := hlf.1
              have hcl := hlf.2
              have hQR := (HCL.out x HXR.out).2.2 l hlm hcl
              obtain ⟨f, o, t, rfl, f1, o1, t1', hft, hot, hfo⟩ := HLS.out l hlm
              have k0 : (0 : Int) ≤ (k : Int) := by omega
              have k1 : (k : Int) < (fl.length : Int) := by omega
              have hneq := line_neq ⟨f, o, t⟩ ⟨jf, jo, jt⟩
              rcases Bool.eq_false_or_eq_true (eqL ⟨f, o, t⟩ ⟨jf, jo, jt⟩) with h1 | h1
              · rw [h1] at hneq
                have HTW := Lib.hid (HIB.out k HNB.out (fun l' hl' => by rw [hl] at hl'; injection hl' with hl'; rw [← hl']; exact h1))
                generalize (fl.take k).foldl (jstep F x) sv = sk at HTW HSN ⊢
                clear hl hft hot hfo h1 hlf hlm hcl hQR
                have hc : ∀ (a : Addr) (p : Regrown) (W : World), a.block < W.heap.size → (grow (redrawn W p.d) p.os).cell? a = W.cell? a := fun a p W h => (below_regrown W p.d p.os).cell h
                go_wp2_with fail
                refine wp_region_quiet_below (by kernel_rfl) (by kernel_rfl) ?_
                repeat (go_big_quiet_step (fail))
                refine wpQuiet_nil ?_
                intro w7 hw7
                obtain ⟨p7, hp7⟩ := hw7
                have hb7 := of_rg hp7
                clear hp7 p7
                have hwx : Below w3.heap.size w3 w7 := hw6.trans (hb7.mono hw6.size)
                have s0 := (hb7.cell (p := ⟨jb, joff + i * 3, none⟩) hjzk).trans t0
                have s1 := (hb7.cell (p := ⟨jb, joff + i * 3 + 1, none⟩) hjzk).trans t1
                have s2 := (hb7.cell (p := ⟨jb, joff + i * 3 + 2, none⟩) hjzk).trans t2
                clear hc
                go_wp2_with fail
                refine (isI_ (l05Bits_ jf jo jt (by omega) (by omega) (by omega) _) (congrArg Int.ofNat HJB.out)).mono ?_
                rintro e w8 ⟨rfl, hb8⟩
                have hw8 : Below w3.heap.size w3 w8 := hwx.trans (hb8.mono hwx.size)
                go_wp2
                go_roundw
                case rel => exact ⟨i + 1, by omega, by go_num, by rw [HPN.out], by rw [HAN.out, HTW.out], hw8⟩
                case measure => simp [intOf]; omega
              · have HNN := Lib.hid (noneB_next HNB.out hl h1)
                rw [h1] at hneq
                have hQN := (HCL.out _ hQR).1
                have HSX : Hid ((fl.take (k + 1)).foldl (jstep F x) sv = wrap64 ((fl.take k).foldl (jstep F x) sv + F (flip x ⟨f, o, t⟩))) := Lib.hid (by rw [HSN.out, jstep])
                generalize (fl.take k).foldl (jstep F x) sv = sk at HSX ⊢
                have l63 : B63 (lbits ⟨f, o, t⟩) := by simp only [lbits, Int.toNat_natCast]; exact b63_or (b63_or (b63_pow2 (by omega)) (b63_pow2 (by omega))) (b63_pow2 (by omega))
                have b3 := i64_xor x (lbits ⟨f, o, t⟩) x63 l63
                rw [show x ^^^ lbits ⟨f, o, t⟩ = flip x ⟨f, o, t⟩ from rfl] at b3
                generalize hLB : lbits ⟨f, o, t⟩ = LB at b3
                have HLB := Lib.hid hLB
                have hQv := HRW.out _ hQR
                generalize flip x ⟨f, o, t⟩ = Q at HSX hQN hQv b3
                generalize F Q = v at HSX hQv
                obtain ⟨tb, toff, hAT, htb, htc⟩ := rd_tab HRT.out (by omega)
                have tc := (hw6.cell (p := ⟨tb, toff + Q, none⟩) htb).trans (htc Q v hQv)
                subst hAT
                have htz : tb < wr.heap.size := by have := hw6.size; omega
                have q0 : (0 : Int) ≤ (Q : Int) := by omega
                have q1 : (Q : Int) < (N : Int) := by omega
                clear hl hft hot hfo h1 HSN hlf hlm hcl hQR hLB l63 hQv htc
                have hc : ∀ (a : Addr) (p : Regrown) (W : World), a.block < W.heap.size → (grow (redrawn W p.d) p.os).cell? a = W.cell? a := fun a p W h => (below_regrown W p.d p.os).cell h
                go_wp2_with fail
                refine wp_region_quiet_below (by kernel_rfl) (by kernel_rfl) ?_
                repeat (go_big_quiet_step (fail))
                refine wpQuiet_nil ?_
                intro w7 hw7
                obtain ⟨p7, hp7⟩ := hw7
                have hb7 := of_rg hp7
                clear hp7 p7
                have hwx : Below w3.heap.size w3 w7 := hw6.trans (hb7.mono hw6.size)
                have s0 := (hb7.cell (p := ⟨bb, off + k * 3, none⟩) hbl).trans x0
                have s1 := (hb7.cell (p := ⟨bb, off + k * 3 + 1, none⟩) hbl).trans x1
                have s2 := (hb7.cell (p := ⟨bb, off + k * 3 + 2, none⟩) hbl).trans x2
                have tc7 := (hb7.cell (p := ⟨tb, toff + Q, none⟩) htz).trans tc
                have htz7 : tb < w7.heap.size := by have := hb7.size; omega
                clear hc tc x0 x1 x2
                go_wp2_with fail
                refine (isI_ (l05Bits_ f o t (by omega) (by omega) (by omega) _) (congrArg Int.ofNat HLB.out)).mono ?_
                rintro e w8 ⟨rfl, hb8⟩
                have tc8 := (hb8.cell (p := ⟨tb, toff + Q, none⟩) htz7).trans tc7
                have hw8 : Below w5.heap.size w5 w8 := (hwk.trans (hb7.mono hsk)).trans (hb8.mono (by have := hb7.size; omega))
                go_wp2
                go_roundw
                case rel => exact ⟨k + 1, by omega, by go_num, by rw [HSX.out], HNN.out, hw8⟩
                case measure => simp [intOf]; omega
            · have e : k = fl.length := by omega
              subst e
              have HTW := Lib.hid (HIB.out fl.length HNB.out (fun l' hl' => by simp at hl'))
              generalize (fl.take fl.length).foldl (jstep F x) sv = sk at HTW ⊢
              have hc : ∀ (a : Addr) (p : Regrown) (W : World), a.block < W.heap.size → (grow (redrawn W p.d) p.os).cell? a = W.cell? a := fun a p W h => (below_regrown W p.d p.os).cell h
              go_wp2_with fail
              refine wp_region_quiet_below (by kernel_rfl) (by kernel_rfl) ?_
              repeat (go_big_quiet_step (fail))
              refine wpQuiet_nil ?_
              intro w7 hw7
              obtain ⟨p7, hp7⟩ := hw7
              have hb7 := of_rg hp7
              clear hp7 p7
              have hwx : Below w3.heap.size w3 w7 := hw6.trans (hb7.mono hw6.size)
              have s0 := (hb7.cell (p := ⟨jb, joff + i * 3, none⟩) hjzk).trans t0
              have s1 := (hb7.cell (p := ⟨jb, joff + i * 3 + 1, none⟩) hjzk).trans t1
              have s2 := (hb7.cell (p := ⟨jb, joff + i * 3 + 2, none⟩) hjzk).trans t2
              clear hc
              go_wp2_with fail
              refine (isI_ (l05Bits_ jf jo jt (by omega) (by omega) (by omega) _) (congrArg Int.ofNat HJB.out)).mono ?_
              rintro e w8 ⟨rfl, hb8⟩
              have hw8 : Below w3.heap.size w3 w8 := hwx.trans (hb8.mono hwx.size)
              go_wp2
              go_roundw
              case rel => exact ⟨i + 1, by omega, by go_num, by rw [HPN.out], by rw [HAN.out, HTW.out], hw8⟩
              case measure => simp [intOf]; omega
        · have e : i = js.length := by omega
          subst e
          go_wp2
          go_ret
          exact ⟨by rw [HR.out]; rfl, below_next hw3 hwr⟩
    · have HR : Hid (indexI b p g js = -1) := Lib.hid (by simp [indexI, hO2])
      go_enter Try.func28, Try.ntmps28
      go_wp2_with fail
      refine (is_ (l15Ok_ b p g hp hg _) hO).mono ?_
      rintro e w1 ⟨rfl, hb1⟩
      obtain ⟨hc, hf⟩ := bcell hb1
      have z0 : W.heap.size < w1.heap.size := by have := hb1.size; (try simp at this); omega
      have hw1 : Below W.heap.size W w1 := below_step ((Below.refl _ _).alloc (Nat.le_refl _) _) hb1 (by (try simp))
      have c0 : w1.cell? ⟨W.heap.size, 0, none⟩ = some (.int .i64 b.f) := by rw [hc _ _ (by simp)]; simp [go_sem]
      have c1 : w1.cell? ⟨W.heap.size, 1, none⟩ = some (.int .i64 b.o) := by rw [hc _ _ (by simp)]; simp [go_sem]
      have c2 : w1.cell? ⟨W.heap.size, 2, none⟩ = some (.int .i64 b.t) := by rw [hc _ _ (by simp)]; simp [go_sem]
      clear hc hf hb1
      go_wp2_with fail
      refine (is_ (sIsSolution_ b p g hp js A0 c0' hm _ ((rd.below hw1).more hw1.size)) hO2).mono ?_
      rintro e w2 ⟨rfl, hb2⟩
      have hw2 := below_next hw1 hb2
      go_wp2
      go_ret
      exact ⟨by rw [HR.out]; rfl, hw2⟩
  · have HR : Hid (indexI b p g js = -1) := Lib.hid (by
      rw [indexI]
      split
      · rename_i hh
        rw [Bool.and_eq_true] at hh
        have := sol_pos hh.2
        simp [pairB, hh.1, this.1, this.2] at hO
      · rfl)
    go_enter Try.func28, Try.ntmps28
    go_wp2_with fail
    refine (is_ (l15Ok_ b p g hp hg _) hO).mono ?_
    rintro e w1 ⟨rfl, hb1⟩
    obtain ⟨hc, hf⟩ := bcell hb1
    have z0 : W.heap.size < w1.heap.size := by have := hb1.size; (try simp at this); omega
    have hw1 : Below W.heap.size W w1 := below_step ((Below.refl _ _).alloc (Nat.le_refl _) _) hb1 (by (try simp))
    have c0 : w1.cell? ⟨W.heap.size, 0, none⟩ = some (.int .i64 b.f) := by rw [hc _ _ (by simp)]; simp [go_sem]
    have c1 : w1.cell? ⟨W.heap.size, 1, none⟩ = some (.int .i64 b.o) := by rw [hc _ _ (by simp)]; simp [go_sem]
    have c2 : w1.cell? ⟨W.heap.size, 2, none⟩ = some (.int .i64 b.t) := by rw [hc _ _ (by simp)]; simp [go_sem]
    clear hc hf hb1
    go_wp2
    go_ret
    exact ⟨by rw [HR.out]; rfl, hw1⟩
end Go.Proofs.Ytliljgmpdfdakaa

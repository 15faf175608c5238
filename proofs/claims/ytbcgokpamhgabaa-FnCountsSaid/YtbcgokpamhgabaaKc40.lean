/- The contracts of IsSolution and IndexOfGame. -/
import Derived.Test.YtbcgokpamhgabaaChecked
import Derived.Test.YtbcgokpamhgabaaKc01
import Derived.Tactics
import Derived.Tactics2
import Derived.WalkKit
import Derived.WalkSpells
import Derived.WalkLawsBesides
import Derived.Deep.QuietTactic
import Derived.BigQuiet
import Derived.BigGuardPart
import Derived.Lib.QuietBelow
import Derived.OwnWalk
import Derived.KernelRfl
import Derived.Test.YtbcgokpamhgabaaKc35
import Derived.Test.YtbcgokpamhgabaaKc26
import Derived.Test.YtbcgokpamhgabaaKc23
import Derived.Test.YtbcgokpamhgabaaKc09
import Derived.Test.YtbcgokpamhgabaaKc39
namespace Go.Proofs.Ytbcgokpamhgabaa
set_option linter.unusedVariables false
set_option maxRecDepth 20000
open Go.RowKit Go.Sort

/-- A line's box. -/
def Box3 (w : World) (b : Nat) (x0 x1 x2 : Value) : Prop := b < w.heap.size ∧ w.cell? ⟨b, 0, none⟩ = some x0 ∧ w.cell? ⟨b, 1, none⟩ = some x1 ∧ w.cell? ⟨b, 2, none⟩ = some x2
theorem Box3.kept {w w' : World} {b : Nat} {x0 x1 x2 : Value} {row : Option Nat} (h : Box3 w b x0 x1 x2) (hg : w.grownBy w' row) (hne : some b ≠ row) : Box3 w' b x0 x1 x2 := by
  obtain ⟨h0, a, b', c⟩ := h
  have hb := hg.block b h0 hne
  exact ⟨Nat.lt_of_lt_of_le h0 hg.size, (World.cell?_of_block (a := ⟨b, 0, none⟩) hb).trans a, (World.cell?_of_block (a := ⟨b, 1, none⟩) hb).trans b', (World.cell?_of_block (a := ⟨b, 2, none⟩) hb).trans c⟩
theorem rd_tab {w : World} {B : Nat} {A : Option Addr} {out : List Int} (h : Rd w B A (ints out)) (hn : 0 < out.length) :
    ∃ b off, A = some ⟨b, off, none⟩ ∧ b < B ∧ ∀ y v, out[y]? = some v → w.cell? ⟨b, off + y, none⟩ = some (.int .i64 v) := by
  obtain ⟨b, off, hA, hb, hc⟩ := h (by rw [ints_length]; exact hn)
  exact ⟨b, off, hA, hb, fun y v hv => hc y _ (by simp [ints, hv])⟩
set_option maxHeartbeats 8000000 in
theorem iIndexOfGame_ (b : Ln) (p g : Int) (hp : I64 p) (hg : I64 g) (js : List Ln) (A0 : Option Addr) (c0' : Nat) (hm : js.length ≤ 9223372036854775807) (W : World) (rd : Rd W W.heap.size A0 (flat js)) :
    Calls Try.prog 90 #[.agg #[.int .i64 b.f, .int .i64 b.o, .int .i64 b.t], .int .i64 p, .int .i64 g, .slice A0 js.length c0'] W fun e w' => e = .returned (.int .i64 (indexI b p g js)) ∧ Below W.heap.size W w' := by
  rcases Bool.eq_false_or_eq_true (smallB b) with hS | hS
  · rcases Bool.eq_false_or_eq_true (solB b p g js) with hO | hO
    · have hP := (sol_pos hO).1
      obtain ⟨w, h, s, rfl, hb, h16, s16⟩ := smallB_nat hS
      obtain ⟨q, rfl, hq⟩ := posB_nat hP
      have hql := posB_lt hb hq
      have HR : Hid (indexI ⟨w, h, s⟩ q g js = accI (ways (linesL ⟨w, h, s⟩) g (-1)) (linesL ⟨w, h, s⟩) q js js.length) := Lib.hid (by rw [indexI, hS, hO]; rfl)
      have HPL := Lib.hid (sol_plays hb hq hO)
      have HCL : Hid (∀ x ∈ reachL ⟨w, h, s⟩ q false, x < 2 ^ (w * h) ∧ ∀ l ∈ linesL ⟨w, h, s⟩, canJ x l = true → flip x l ∈ reachL ⟨w, h, s⟩ q false) := Lib.hid fun x hx => by
        have hx' := (reachL_mem hS hP x).1 hx
        refine ⟨?_, fun l hl hc => (reachL_mem hS hP _).2 (bfs_closed (back := false) hql (stays_of hb) hx' hl hc)⟩
        have := (List.getElem?_eq_some_iff.1 hx').1
        rw [bfs, (bst_inv hql (stays_of hb) _).len] at this
        exact this
      have HSELF := Lib.hid (reach_self hb hS hP hql)
      have HST := Lib.hid (stays_of hb)
      have HLS := Lib.hid (lsFo_of hb)
      have hle := linesL_le ⟨w, h, s⟩
      have hN1 : 2 ^ (w * h) ≤ 65536 := Nat.pow_le_pow_right (n := 2) (j := 16) (by omega) h16
      obtain ⟨ls, hls⟩ : ∃ ls, linesL ⟨w, h, s⟩ = ls := ⟨_, rfl⟩
      rw [hls] at HR HPL HCL HST HLS hle
      have HL := Lib.hid hls
      obtain ⟨R, hR⟩ : ∃ R, reachL ⟨w, h, s⟩ q false = R := ⟨_, rfl⟩
      rw [hR] at HCL HSELF
      obtain ⟨N, hN⟩ : ∃ N, 2 ^ (w * h) = N := ⟨_, rfl⟩
      rw [hN] at HST HCL hN1
      clear hls hR hN hql
      go_enter Try.func90, Try.ntmps90
      go_wp2_with fail
      refine (is_ (iIsSmall_ ⟨w, h, s⟩ _) hS).mono ?_
      rintro e w1 ⟨rfl, hb1⟩
      obtain ⟨hc, hf⟩ := bcell hb1
      have z0 : W.heap.size < w1.heap.size := by have := hb1.size; (try simp at this); omega
      have hw1 : Below W.heap.size W w1 := below_step ((Below.refl _ _).alloc (Nat.le_refl _) _) hb1 (by (try simp))
      have c0 : w1.cell? ⟨W.heap.size, 0, none⟩ = some (.int .i64 w) := by rw [hc _ _ (by simp)]; simp [go_sem]
      have c1 : w1.cell? ⟨W.heap.size, 1, none⟩ = some (.int .i64 h) := by rw [hc _ _ (by simp)]; simp [go_sem]
      have c2 : w1.cell? ⟨W.heap.size, 2, none⟩ = some (.int .i64 s) := by rw [hc _ _ (by simp)]; simp [go_sem]
      clear hc hf hb1
      go_wp2_with fail
      refine (is_ (iIsSolution_ ⟨w, h, s⟩ q g hp js A0 c0' hm _ ((rd.below hw1).more hw1.size)) hO).mono ?_
      rintro e w2 ⟨rfl, hb2⟩
      replace c0 := (hb2.cell (p := ⟨W.heap.size, 0, none⟩) z0).trans c0
      replace c1 := (hb2.cell (p := ⟨W.heap.size, 1, none⟩) z0).trans c1
      replace c2 := (hb2.cell (p := ⟨W.heap.size, 2, none⟩) z0).trans c2
      have hw2 := below_next hw1 hb2
      clear hb2
      go_wp2_with fail
      refine (counterOf_ ⟨w, h, s⟩ g (-1) _).mono ?_
      rintro e w3 ⟨A1, k1, M, rfl, rd1, hM, hlo, hm0, hb3⟩
      rw [HL.out] at rd1 ⊢
      have hw3 := below_next hw2 hb3
      have hWM : W.heap.size ≤ M := Nat.le_trans hw2.size hlo
      have rdj : Rd w3 W.heap.size A0 (flat js) := rd.below hw3
      have HM0 := Lib.hid (hm0 N (ways ls g (-1)))
      clear c0 c1 c2 hm0 hb3 rd
      obtain ⟨W4, hW4⟩ : ∃ W4, W4 = w3.alloc (.cells #[.slice A1 ls.length k1, .int .i64 g, .int .i64 (-1), .map (some M)] 123) := ⟨_, rfl⟩
      have HBX : Hid (Box4 W4 w3.heap.size (.slice A1 ls.length k1) (.int .i64 g) (.int .i64 (-1)) (.map (some M))) := Lib.hid (by
        subst hW4
        exact ⟨by simp, by simp [go_sem], by simp [go_sem], by simp [go_sem], by simp [go_sem]⟩)
      have hg4 : w3.grownBy W4 none := by subst hW4; exact World.grownBy_alloc _ _ _
      have HM4 := Lib.hid (HM0.out.kept hg4 (by simp))
      have rd4 : Rd W4 M A1 (flat ls) := rd1.grown hg4 (by omega) (fun g hg => by cases hg)
      have rdj4 : Rd W4 W.heap.size A0 (flat js) := rdj.grown hg4 (by have := hw3.size; omega) (fun g hg => by cases hg)
      have hM4 : M < W4.heap.size := Nat.lt_of_lt_of_le hM hg4.size
      have hz4 : W.heap.size < W4.heap.size := by omega
      have HW4 : Hid (Below W.heap.size W W4) := Lib.hid (hw3.grown hg4 hw3.size (fun k hk => by cases hk))
      have hM3 : M < w3.heap.size := hM
      clear hg4 rd1 rdj HM0
      go_wp2_with fail
      rw [← hW4]
      clear hW4
      go_loopw [1, 10, 33] (fun pv sv iv wr => ∃ i : Nat, i ≤ js.length ∧ iv = .int .i64 i ∧ pv = .int .i64 (posn q js i) ∧ sv = .int .i64 (accI (ways ls g (-1)) ls q js i) ∧ Memo wr M N (ways ls g (-1)) ∧ W4.grownBy wr (some M)) (fun _ _ iv _ => js.length - (intOf iv).toNat)
      case atStart => exact ⟨0, Nat.zero_le _, rfl, rfl, rfl, HM4.out, grown_refl _ _⟩
      case round =>
        obtain ⟨i, hi, rfl, rfl, rfl, hmm, hgr⟩ := hrel
        have HMM := Lib.hid hmm
        have HGR := Lib.hid hgr
        have hsz := hgr.size
        clear hmm
        by_cases hil : i < js.length
        · obtain ⟨jb, joff, j, rfl, hjb, hj, y0, y1, y2⟩ := (rdj4.grown hgr (by omega) (fun g hg => by injection hg with hg; omega)).line hil
          have hpj := HPL.out.at hj
          have hxR := HPL.out.mem (fun x hx => (HCL.out x hx).2) i HSELF.out
          have HAN := Lib.hid (accI_next (F := ways ls g (-1)) (ls := ls) (q := q) hj)
          have HPN := Lib.hid (posn_next (q := q) hj)
          have hjl := hpj.1
          have hcj := hpj.2
          obtain ⟨x, hx⟩ : ∃ x, posn q js i = x := ⟨_, rfl⟩
          obtain ⟨sv, hsv⟩ : ∃ x, accI (ways ls g (-1)) ls q js i = x := ⟨_, rfl⟩
          rw [hx, hsv] at HAN
          rw [hx] at hxR hcj HPN
          rw [hx, hsv]
          have hxN := (HCL.out x hxR).1
          have x63 : B63 x := by unfold B63; omega
          have HXR := Lib.hid hxR
          obtain ⟨jf, jo, jt, rfl, jf1, jo1, jt1, hjft, hjot, hjfo⟩ := HLS.out j hjl
          have HJF := Lib.hid hjft
          have HJO := Lib.hid hjot
          have i0 : (0 : Int) ≤ (i : Int) := by omega
          have i1 : (i : Int) < (js.length : Int) := by omega
          have hjz : jb < wr.heap.size := by omega
          obtain ⟨hbz, d0, d1, d2, d3⟩ := HBX.out.kept hgr (fun e => by injection e with e; omega)
          clear hpj hjl hx hsv hj hxR hjft hjot hjfo hgr
          go_wp2_with fail
          obtain ⟨W5, hW5⟩ : ∃ W5, W5 = wr.alloc (.cells #[.int .i64 jf, .int .i64 jo, .int .i64 jt] 34) := ⟨_, rfl⟩
          have HBJ : Hid (Box3 W5 wr.heap.size (.int .i64 jf) (.int .i64 jo) (.int .i64 jt)) := Lib.hid (by
            subst hW5
            exact ⟨by simp, by simp [go_sem], by simp [go_sem], by simp [go_sem]⟩)
          have hg5 : wr.grownBy W5 none := by subst hW5; exact World.grownBy_alloc _ _ _
          have HM5 := Lib.hid (HMM.out.kept hg5 (by simp))
          have HG5 := Lib.hid (grown_then HGR.out (hg5.but (some M)))
          have hs5 := HG5.out.size
          have hjM : wr.heap.size ≠ M := by omega
          have hz5 : wr.heap.size < W5.heap.size := HBJ.out.1
          obtain ⟨hbz5, e0, e1, e2, e3⟩ := HBX.out.kept HG5.out (fun e => by injection e with e; omega)
          clear hg5 y0 y1 y2 d0 d1 d2 d3
          rw [← hW5]
          clear hW5
          go_loopw [10, 40] (fun sw kv wx => ∃ k : Nat, k ≤ ls.length ∧ kv = .int .i64 k ∧ sw = .int .i64 ((ls.take k).foldl (istep (ways ls g (-1)) x) sv) ∧ noneB ls k ⟨jf, jo, jt⟩ ∧ Memo wx M N (ways ls g (-1)) ∧ W5.grownBy wx (some M)) (fun _ kv _ => ls.length - (intOf kv).toNat)
          case atStart => exact ⟨0, Nat.zero_le _, rfl, rfl, noneB_zero _ _, HM5.out, grown_refl _ _⟩
          case round =>
            obtain ⟨k, hk, rfl, rfl, hnb, hmk, hgk⟩ := hrel
            have HNB := Lib.hid hnb
            have HMK := Lib.hid hmk
            have HGK := Lib.hid hgk
            have HGA := Lib.hid (grown_then HG5.out hgk)
            have hszk := hgk.size
            have HBK := Lib.hid (HBJ.out.kept hgk (fun e => by injection e with e; omega))
            obtain ⟨hjz', g0, g1, g2⟩ := HBK.out
            have HBY := Lib.hid (HBX.out.kept HGA.out (fun e => by injection e with e; omega))
            obtain ⟨hbzk, d0, d1, d2, d3⟩ := HBY.out
            clear hmk hnb e0 e1 e2 e3
            by_cases hkl : k < ls.length
            · obtain ⟨bb, off, l, rfl, hbl, hl, x0, x1, x2⟩ := (rd4.grown HGA.out (by omega) (fun g hg => by injection hg with hg; omega)).line hkl
              have HSN := Lib.hid (fold_take1 (istep (ways ls g (-1)) x) sv hl)
              have HLM := Lib.hid (List.mem_of_getElem? hl)
              have HXC := Lib.hid ((HCL.out x HXR.out).2 l HLM.out)
              obtain ⟨f, o, t, rfl, f1, o1, t1, hft, hot, hfo⟩ := HLS.out l HLM.out
              have HF := Lib.hid hft
              have HO := Lib.hid hot
              have k0 : (0 : Int) ≤ (k : Int) := by omega
              have k1' : (k : Int) < (ls.length : Int) := by omega
              have hbz2 : bb < wr.heap.size := by omega
              have heq := line_eql ⟨f, o, t⟩ ⟨jf, jo, jt⟩
              rcases Bool.eq_false_or_eq_true (eqL ⟨f, o, t⟩ ⟨jf, jo, jt⟩) with h1 | h1
              · rw [h1] at heq
                have HTW : Hid (idxA (ways ls g (-1)) ls x ⟨jf, jo, jt⟩ sv = (ls.take k).foldl (istep (ways ls g (-1)) x) sv) := Lib.hid (by
                  rw [idxA, take_while ls k _ HNB.out (fun l' hl' => by rw [hl] at hl'; injection hl' with hl'; rw [← hl']; exact h1)])
                generalize (ls.take k).foldl (istep (ways ls g (-1)) x) sv = sk at HTW HSN ⊢
                clear hl hft hot hfo h1
                go_wp2_with fail
                refine (is2c (jumpFrom_ x jf jo jt x63 (by omega) (by omega) (by omega) HJF.out HJO.out _) (show _ = ((posn q js (i + 1) : Nat) : Int) by rw [hcj, if_pos rfl, HPN.out]) hcj).mono ?_
                rintro e w8 ⟨rfl, hb8⟩
                have hg8 := grown_then (grown_alloc HGA.out _) ((grown_below hb8 none).but (some M))
                have HM8 := Lib.hid (Memo.kept (M := M) (N := N) (f := ways ls g (-1)) (HMK.out.kept (World.grownBy_alloc _ _ none) (by simp)) (grown_below hb8 none) (by simp))
                go_wp2
                go_roundw
                case rel => exact ⟨i + 1, by omega, by go_num, rfl, by rw [HAN.out, HTW.out], HM8.out, hg8⟩
                case measure => simp [intOf]; omega
              · have HNN := Lib.hid (noneB_next HNB.out hl h1)
                rw [h1] at heq
                rcases Bool.eq_false_or_eq_true (canJ x ⟨f, o, t⟩) with h2 | h2
                · have hQR := HXC.out h2
                  have hQN := (HCL.out _ hQR).1
                  have HSX : Hid ((ls.take (k + 1)).foldl (istep (ways ls g (-1)) x) sv = wrap64 ((ls.take k).foldl (istep (ways ls g (-1)) x) sv + ways ls g (-1) (flip x ⟨f, o, t⟩))) := Lib.hid (by rw [HSN.out, istep, if_pos h2])
                  generalize (ls.take k).foldl (istep (ways ls g (-1)) x) sv = sk at HSX ⊢
                  obtain ⟨Q, hQ⟩ : ∃ Q, flip x ⟨f, o, t⟩ = Q := ⟨_, rfl⟩
                  rw [hQ] at HSX hQN
                  have HQ := Lib.hid hQ
                  obtain ⟨v, hv⟩ : ∃ v, ways ls g (-1) Q = v := ⟨_, rfl⟩
                  rw [hv] at HSX
                  have HVV := Lib.hid hv
                  clear hl hft hot hfo h1 hQ hv HSN HXC hQR
                  go_wp2_with fail
                  refine (is2c (jumpFrom_ x f o t x63 (by omega) (by omega) (by omega) HF.out HO.out _) (show _ = (Q : Int) by rw [h2, if_pos rfl, HQ.out]) h2).mono ?_
                  rintro e w6 ⟨rfl, hb6⟩
                  have hg6 := grown_then (World.grownBy_alloc wr _ none) (grown_below hb6 none)
                  have HGB := Lib.hid (grown_then HGA.out (hg6.but (some M)))
                  have HGJ := Lib.hid (grown_then HGK.out (hg6.but (some M)))
                  have HB6 := Lib.hid (HBY.out.kept hg6 (by simp))
                  have hs6 := hg6.size
                  obtain ⟨_, u0, u1, u2, u3⟩ := HB6.out
                  have HM6 := Lib.hid (HMK.out.kept hg6 (by simp))
                  clear hb6
                  go_wp2_with fail
                  refine (count_ ls _ k1 g (-1) M N hN1 HST.out HLS.out hle (popc Q) Q rfl hQN w6 (rd4.grown HGB.out (by omega) (fun g hg => by injection hg with hg; omega)) (by omega) HM6.out).mono ?_
                  rintro e w7 ⟨rfl, hm7, hg7⟩
                  rw [HVV.out]
                  have HG7 := Lib.hid (grown_then HGJ.out hg7)
                  have HM7 := Lib.hid hm7
                  clear hm7 hg7
                  go_wp2
                  go_roundw
                  case rel => exact ⟨k + 1, by omega, by go_num, by rw [HSX.out], HNN.out, HM7.out, HG7.out⟩
                  case measure => simp [intOf]; omega
                · have HSX : Hid ((ls.take (k + 1)).foldl (istep (ways ls g (-1)) x) sv = (ls.take k).foldl (istep (ways ls g (-1)) x) sv) := Lib.hid (by rw [HSN.out, istep, if_neg (by simp [h2])])
                  generalize (ls.take k).foldl (istep (ways ls g (-1)) x) sv = sk at HSX ⊢
                  clear hl hft hot hfo h1 HSN HXC
                  go_wp2_with fail
                  refine (is2c (jumpFrom_ x f o t x63 (by omega) (by omega) (by omega) HF.out HO.out _) rfl h2).mono ?_
                  rintro e w6 ⟨rfl, hb6⟩
                  have hg6 := grown_then (World.grownBy_alloc wr _ none) (grown_below hb6 none)
                  have HGJ := Lib.hid (grown_then HGK.out (hg6.but (some M)))
                  have HM6 := Lib.hid (HMK.out.kept hg6 (by simp))
                  clear hb6 hg6
                  go_wp2
                  go_roundw
                  case rel => exact ⟨k + 1, by omega, by go_num, by rw [HSX.out], HNN.out, HM6.out, HGJ.out⟩
                  case measure => simp [intOf]; omega
            · have e : k = ls.length := by omega
              subst e
              have HTW : Hid (idxA (ways ls g (-1)) ls x ⟨jf, jo, jt⟩ sv = (ls.take ls.length).foldl (istep (ways ls g (-1)) x) sv) := Lib.hid (by
                rw [idxA, take_while ls ls.length _ HNB.out (fun l' hl' => by simp at hl')])
              generalize (ls.take ls.length).foldl (istep (ways ls g (-1)) x) sv = sk at HTW ⊢
              go_wp2_with fail
              refine (is2c (jumpFrom_ x jf jo jt x63 (by omega) (by omega) (by omega) HJF.out HJO.out _) (show _ = ((posn q js (i + 1) : Nat) : Int) by rw [hcj, if_pos rfl, HPN.out]) hcj).mono ?_
              rintro e w8 ⟨rfl, hb8⟩
              have hg8 := grown_then HGA.out ((grown_below hb8 none).but (some M))
              have HM8 := Lib.hid (Memo.kept (M := M) (N := N) (f := ways ls g (-1)) HMK.out (grown_below hb8 none) (by simp))
              go_wp2
              go_roundw
              case rel => exact ⟨i + 1, by omega, by go_num, rfl, by rw [HAN.out, HTW.out], HM8.out, hg8⟩
              case measure => simp [intOf]; omega
        · have e : i = js.length := by omega
          subst e
          go_wp2
          go_ret
          exact ⟨by rw [HR.out]; rfl, HW4.out.grown HGR.out (Nat.le_of_lt hz4) (fun k hk => by injection hk with hk; omega)⟩
    · have HR : Hid (indexI b p g js = -1) := Lib.hid (by simp [indexI, hO])
      go_enter Try.func90, Try.ntmps90
      go_wp2_with fail
      refine (is_ (iIsSmall_ b _) hS).mono ?_
      rintro e w1 ⟨rfl, hb1⟩
      obtain ⟨hc, hf⟩ := bcell hb1
      have z0 : W.heap.size < w1.heap.size := by have := hb1.size; (try simp at this); omega
      have hw1 : Below W.heap.size W w1 := below_step ((Below.refl _ _).alloc (Nat.le_refl _) _) hb1 (by (try simp))
      have c0 : w1.cell? ⟨W.heap.size, 0, none⟩ = some (.int .i64 b.f) := by rw [hc _ _ (by simp)]; simp [go_sem]
      have c1 : w1.cell? ⟨W.heap.size, 1, none⟩ = some (.int .i64 b.o) := by rw [hc _ _ (by simp)]; simp [go_sem]
      have c2 : w1.cell? ⟨W.heap.size, 2, none⟩ = some (.int .i64 b.t) := by rw [hc _ _ (by simp)]; simp [go_sem]
      clear hc hf hb1
      go_wp2_with fail
      refine (is_ (iIsSolution_ b p g hp js A0 c0' hm _ ((rd.below hw1).more hw1.size)) hO).mono ?_
      rintro e w2 ⟨rfl, hb2⟩
      have hw2 := below_next hw1 hb2
      go_wp2
      go_ret
      exact ⟨by rw [HR.out]; rfl, hw2⟩
  · have HR : Hid (indexI b p g js = -1) := Lib.hid (by simp [indexI, hS])
    go_enter Try.func90, Try.ntmps90
    go_wp2_with fail
    refine (is_ (iIsSmall_ b _) hS).mono ?_
    rintro e w1 ⟨rfl, hb1⟩
    obtain ⟨hc, hf⟩ := bcell hb1
    have z0 : W.heap.size < w1.heap.size := by have := hb1.size; (try simp at this); omega
    have hw1 : Below W.heap.size W w1 := below_step ((Below.refl _ _).alloc (Nat.le_refl _) _) hb1 (by (try simp))
    have c0 : w1.cell? ⟨W.heap.size, 0, none⟩ = some (.int .i64 b.f) := by rw [hc _ _ (by simp)]; simp [go_sem]
    have c1 : w1.cell? ⟨W.heap.size, 1, none⟩ = some (.int .i64 b.o) := by rw [hc _ _ (by simp)]; simp [go_sem]
    have c2 : w1.cell? ⟨W.heap.size, 2, none⟩ = some (.int .i64 b.t) := by rw [hc _ _ (by simp)]; simp [go_sem]
    clear hc hf hb1
    go_wp2
    go_ret
    exact ⟨by rw [HR.out]; rfl, hw1⟩
end Go.Proofs.Ytbcgokpamhgabaa

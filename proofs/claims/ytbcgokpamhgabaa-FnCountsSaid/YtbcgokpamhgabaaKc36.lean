/- The contract of the program's GameAt. -/
import Derived.Test.YtbcgokpamhgabaaChecked
import Derived.Test.YtbcgokpamhgabaaKc01
import Derived.Tactics
import Derived.Tactics2
import Derived.WalkKit
import Derived.WalkSpells
import Derived.WalkLawsBesides
import Derived.Deep.QuietTactic
import Derived.BigQuiet
import Derived.BigGuardPart
import Derived.Lib.QuietBelow
import Derived.OwnWalk
import Derived.KernelRfl
import Derived.Test.YtbcgokpamhgabaaKc35
import Derived.Test.YtbcgokpamhgabaaKc25
import Derived.Test.YtbcgokpamhgabaaKc05
namespace Go.Proofs.Ytbcgokpamhgabaa
set_option linter.unusedVariables false
set_option maxRecDepth 20000
open Go.RowKit Go.Sort

/-- A line's box in memory. -/
def BoxG (w : World) (b : Nat) (x0 x1 x2 : Value) : Prop := b < w.heap.size ∧ w.cell? ⟨b, 0, none⟩ = some x0 ∧ w.cell? ⟨b, 1, none⟩ = some x1 ∧ w.cell? ⟨b, 2, none⟩ = some x2
theorem BoxG.kept {w w' : World} {b : Nat} {x0 x1 x2 : Value} {row : Option Nat} (h : BoxG w b x0 x1 x2) (hg : w.grownBy w' row) (hne : some b ≠ row) : BoxG w' b x0 x1 x2 := by
  obtain ⟨h0, a, b', c⟩ := h
  have hb := hg.block b h0 hne
  exact ⟨Nat.lt_of_lt_of_le h0 hg.size, (World.cell?_of_block (a := ⟨b, 0, none⟩) hb).trans a, (World.cell?_of_block (a := ⟨b, 1, none⟩) hb).trans b', (World.cell?_of_block (a := ⟨b, 2, none⟩) hb).trans c⟩
theorem grown_high {a b c : World} {row row2 : Option Nat} (h : a.grownBy b row) (k : b.grownBy c row2) (hr : ∀ g, row2 = some g → a.heap.size ≤ g) : a.grownBy c row :=
  ⟨k.os.trans h.os, k.tape.trans h.tape, k.output.trans h.output, Nat.le_trans h.size k.size, fun i hi hne => (k.block i (Nat.lt_of_lt_of_le hi h.size) (fun e => by have := hr _ e.symm; omega)).trans (h.block i hi hne)⟩
def gameB (b : Ln) (p g n : Int) : Bool := inB n 0 (cntG b p g - 1)
def gameL (b : Ln) (p g n : Int) : List Ln := if gameB b p g n then gameG (waysN (linesL b) g (-1)) (linesL b) g.toNat p.toNat n.toNat else []
theorem gameL_no {b : Ln} {p g n : Int} (h : gameB b p g n = false) : gameL b p g n = [] := by simp [gameL, h]
theorem gameB_pair {b : Ln} {p g n : Int} (h : gameB b p g n = true) : pairB b p g = true := by
  cases hp : pairB b p g with
  | true => rfl
  | false =>
    rw [gameB, cntG, hp] at h
    have := inB_iff.1 h
    simp at this
    omega
theorem popc_small {w h p : Nat} (h16 : w * h ≤ 16) (hp : p < 2 ^ (w * h)) : popc p ≤ 16 := Nat.le_trans (popc_le p hp (by omega)) h16
theorem cntG_nat {b : Ln} {p g : Int} : 0 ≤ cntG b p g ∧ cntG b p g ≤ 4611686018427387904 := by
  rcases Bool.eq_false_or_eq_true (pairB b p g) with hO | hO
  · have hO' := hO
    simp only [pairB, Bool.and_eq_true] at hO'
    obtain ⟨⟨hS, hP⟩, hG⟩ := hO'
    obtain ⟨w, h, s, rfl, hb, h16, s16⟩ := smallB_nat hS
    obtain ⟨q, rfl, hq⟩ := posB_nat hP
    have hp := popc_small h16 (posB_lt hb hq)
    rw [cntG, hO, if_pos rfl, Int.toNat_natCast, ways_nat (few_of hb) (lsFo_of hb) g (-1) hp]
    have := waysN_le (few_of hb) (lsFo_of hb) g (-1) hp
    omega
  · rw [cntG, hO]; simp
theorem isI3 {P : Program} {f : FuncId} {args : Array Value} {w : World} {k : IntKind} {a b : Int} {Q1 Q2 : World → Prop} (h : Calls P f args w fun e w' => e = .returned (.int k a) ∧ Q1 w' ∧ Q2 w') (e : a = b) : Calls P f args w fun e w' => e = .returned (.int k b) ∧ Q1 w' ∧ Q2 w' := e ▸ h
set_option maxHeartbeats 3000000 in
theorem iGameAt_ (b : Ln) (p g n : Int) (hp : I64 p) (hg : I64 g) (hn : I64 n) (W : World) :
    Calls Try.prog 87 #[.agg #[.int .i64 b.f, .int .i64 b.o, .int .i64 b.t], .int .i64 p, .int .i64 g, .int .i64 n] W (GivesSliceB W 34 3 (gameL b p g n).length (flat (gameL b p g n)) (gameB b p g n)) := by
  obtain ⟨i0, hi0, hz0, hz1, hz2⟩ := info_parts infoLine
  have hcb := cntG_nat (b := b) (p := p) (g := g)
  rcases Bool.eq_false_or_eq_true (gameB b p g n) with hO | hO
  · have hPG := gameB_pair hO
    have hPG' := hPG
    simp only [pairB, Bool.and_eq_true] at hPG'
    obtain ⟨⟨hS, hP⟩, hG⟩ := hPG'
    obtain ⟨w, h, s, rfl, hb, h16, s16⟩ := smallB_nat hS
    obtain ⟨q, rfl, hq⟩ := posB_nat hP
    obtain ⟨r, rfl, hr⟩ := posB_nat hG
    have hI := inB_iff.1 hO
    obtain ⟨m, rfl⟩ := Int.eq_ofNat_of_zero_le hI.1
    have hql := posB_lt hb hq
    have hF49 := lsFo_of hb
    have HFEW := Lib.hid (few_of hb)
    have HPS : Hid (∀ x, x < 2 ^ (w * h) → popc x ≤ 16) := Lib.hid fun x hx => popc_small h16 hx
    have HCN : Hid (cntG ⟨w, h, s⟩ q r = (waysN (linesL ⟨w, h, s⟩) r (-1) q : Nat)) := Lib.hid (by
      rw [cntG, hPG, if_pos rfl, Int.toNat_natCast, ways_nat (few_of hb) hF49 r (-1) (HPS.out q hql)])
    have HGL : Hid (gameL ⟨w, h, s⟩ q r m = gameG (waysN (linesL ⟨w, h, s⟩) r (-1)) (linesL ⟨w, h, s⟩) r q m) := Lib.hid (by simp [gameL, hO])
    have HCL : Hid (∀ x ∈ reachL ⟨w, h, s⟩ q false, x < 2 ^ (w * h) ∧ ∀ l ∈ linesL ⟨w, h, s⟩, canJ x l = true → flip x l ∈ reachL ⟨w, h, s⟩ q false) := Lib.hid fun x hx => by
      have hx' := (reachL_mem hS hP x).1 hx
      refine ⟨?_, fun l hl hc => (reachL_mem hS hP _).2 (bfs_closed (back := false) hql (stays_of hb) hx' hl hc)⟩
      have := (List.getElem?_eq_some_iff.1 hx').1
      rw [bfs, (bst_inv hql (stays_of hb) _).len] at this
      exact this
    have HSELF := Lib.hid (reach_self hb hS hP hql)
    have HST := Lib.hid (stays_of hb)
    have HLS := Lib.hid hF49
    have hle := linesL_le ⟨w, h, s⟩
    have hN1 : 2 ^ (w * h) ≤ 65536 := Nat.pow_le_pow_right (n := 2) (j := 16) (by omega) h16
    have hwrap : cntG ⟨w, h, s⟩ q r - 1 ≤ 4611686018427387904 := by omega
    have hmlt : m < waysN (linesL ⟨w, h, s⟩) r (-1) q := by have := HCN.out; rw [this] at hI; omega
    have hIB : inB (m : Int) 0 (((waysN (linesL ⟨w, h, s⟩) r (-1) q : Nat) : Int) - 1) = true := by rw [← HCN.out]; exact hO
    rw [HCN.out] at hcb
    have HGB := Lib.hid hO
    obtain ⟨ls, hls⟩ : ∃ ls, linesL ⟨w, h, s⟩ = ls := ⟨_, rfl⟩
    rw [hls] at HCN HGL HCL HST HLS HFEW hle hmlt hIB hcb
    have HL := Lib.hid hls
    obtain ⟨R, hR⟩ : ∃ R, reachL ⟨w, h, s⟩ q false = R := ⟨_, rfl⟩
    rw [hR] at HCL HSELF
    obtain ⟨N, hN⟩ : ∃ N, 2 ^ (w * h) = N := ⟨_, rfl⟩
    rw [hN] at HST HCL hN1 HPS
    have HWL : Hid (∀ x ∈ R, ways ls r (-1) x = (waysN ls r (-1) x : Nat) ∧ waysN ls r (-1) x ≤ 4611686018427387904) := Lib.hid fun x hx => by
      have := HPS.out x (HCL.out x hx).1
      exact ⟨ways_nat HFEW.out HLS.out r (-1) this, waysN_le HFEW.out HLS.out r (-1) this⟩
    have HWS : Hid (∀ x : Nat, x ≠ r → waysN ls r (-1) x = sumG (waysN ls r (-1)) x ls) := Lib.hid fun x hx => waysN_sum HLS.out (by omega)
    obtain ⟨V, hV⟩ : ∃ V, waysN ls r (-1) = V := ⟨_, rfl⟩
    rw [hV] at HCN HGL HWL HWS hmlt hIB hcb
    have hvq : V q ≤ 4611686018427387904 := by omega
    obtain ⟨G, hGe⟩ : ∃ G, gameG V ls r q m = G := ⟨_, rfl⟩
    rw [hGe] at HGL
    have HGE := Lib.hid hGe
    obtain ⟨vq, hvqe⟩ : ∃ x, V q = x := ⟨_, rfl⟩
    rw [hvqe] at HCN hIB hvq
    have HMLT := Lib.hid hmlt
    have hvq1 : 1 ≤ vq := by omega
    clear hls hR hN hql hV hGe hO hPG hS hP hG hq hr hI hF49 hwrap hcb hmlt hvqe
    go_enter Try.func87, Try.ntmps87
    go_wp2_with fail
    refine (isI_ (iCountGames_ ⟨w, h, s⟩ q r hp hg _) HCN.out).mono ?_
    rintro e w1 ⟨rfl, hb1⟩
    obtain ⟨hc, hf⟩ := bcell hb1
    have z0 : W.heap.size < w1.heap.size := by have := hb1.size; (try simp at this); omega
    have hw1 : Below W.heap.size W w1 := below_step ((Below.refl _ _).alloc (Nat.le_refl _) _) hb1 (by (try simp); try omega)
    have c0 : w1.cell? ⟨W.heap.size, 0, none⟩ = some (.int .i64 w) := by rw [hc _ _ (by simp; try omega)]; simp [go_sem]
    have c1 : w1.cell? ⟨W.heap.size, 1, none⟩ = some (.int .i64 h) := by rw [hc _ _ (by simp; try omega)]; simp [go_sem]
    have c2 : w1.cell? ⟨W.heap.size, 2, none⟩ = some (.int .i64 s) := by rw [hc _ _ (by simp; try omega)]; simp [go_sem]
    clear hc hf
    go_wp2_with fail
    refine (is_ (within_ _ _ _ _) hIB).mono ?_
    rintro e w' ⟨rfl, rfl⟩
    go_wp2_with fail
    refine (counterOf_ ⟨w, h, s⟩ r (-1) _).mono ?_
    rintro e w3 ⟨A1, k1, M, rfl, rd1, hM, hlo, hm0, hb3⟩
    rw [HL.out] at rd1 ⊢
    have hw3 := below_next hw1 hb3
    have hWM : W.heap.size ≤ M := Nat.le_trans hw1.size hlo
    have HM0 := Lib.hid (hm0 N (ways ls r (-1)))
    clear c0 c1 c2 hm0 hb3
    obtain ⟨W4, hW4⟩ : ∃ W4, W4 = w3.alloc (.cells #[.slice A1 ls.length k1, .int .i64 r, .int .i64 (-1), .map (some M)] 123) := ⟨_, rfl⟩
    have HBX : Hid (Box4 W4 w3.heap.size (.slice A1 ls.length k1) (.int .i64 r) (.int .i64 (-1)) (.map (some M))) := Lib.hid (by
      subst hW4
      exact ⟨by simp, by simp [go_sem], by simp [go_sem], by simp [go_sem], by simp [go_sem]⟩)
    have hg4 : w3.grownBy W4 none := by subst hW4; exact World.grownBy_alloc _ _ _
    have HM4 := Lib.hid (HM0.out.kept hg4 (by simp))
    have rd4 : Rd W4 M A1 (flat ls) := rd1.grown hg4 (by omega) (fun g hg => by cases hg)
    have hM4 : M < W4.heap.size := Nat.lt_of_lt_of_le hM hg4.size
    have hz4 : W.heap.size < W4.heap.size := by have := hw3.size; have := HBX.out.1; omega
    have HW4 : Hid (Below W.heap.size W W4) := Lib.hid (hw3.grown hg4 hw3.size (fun k hk => by cases hk))
    have hM3 : M < w3.heap.size := hM
    have h34 : w3.heap.size < W4.heap.size := HBX.out.1
    have HOW := Lib.hid (World.ownsRow_lit (base := W4.heap.size) (e := 34) (size := 3) W4 #[] 0 (Nat.le_refl _) (by simp [maxLen]) rfl)
    have HM5 := Lib.hid (HM4.out.kept (World.grownBy_alloc W4 (.cells #[] 34) none) (by simp))
    have HSZ := Lib.hid (show W4.heap.size = w3.heap.size + 1 by rw [hW4]; simp)
    clear hg4 rd1 HM0
    go_wp2_with fail
    rw [← hW4]
    clear hW4
    go_loopw [1, 3, 11] (fun pv iv gv wr => ∃ (x i : Nat) (A' : Option Addr) (c' : Nat) (gm : List Ln), pv = .int .i64 x ∧ iv = .int .i64 i ∧ gv = .slice A' gm.length c' ∧ x ∈ R ∧ i < V x ∧ gm ++ gameG V ls r x i = G ∧ gm.length + popc x ≤ 16 ∧ wr.ownsRow W4.heap.size 34 3 (.slice A' gm.length c') gm.length (flat gm) ∧ Memo wr M N (ways ls r (-1)) ∧ W4.grownBy wr (some M)) (fun pv _ _ _ => popc (intOf pv).toNat)
    case atStart => exact ⟨q, m, _, _, [], rfl, rfl, rfl, HSELF.out, HMLT.out, HGE.out, by have := HPS.out q (HCL.out q HSELF.out).1; simpa using this, by rw [← HSZ.out]; exact HOW.out, HM5.out, World.grownBy_alloc _ _ _⟩
    case round =>
      obtain ⟨x, i, A', c', gm, rfl, rfl, rfl, hxR, hiV, hcat, hlen, own, hmm, hgr⟩ := hrel
      have HMM := Lib.hid hmm
      have HGR := Lib.hid hgr
      have HCAT := Lib.hid hcat
      have HOWN := Lib.hid own
      have HXR := Lib.hid hxR
      have hsz := hgr.size
      have hxN := (HCL.out x hxR).1
      have x63 : B63 x := by unfold B63; omega
      have hiL := (HWL.out x hxR).2
      clear hmm hcat own
      by_cases hxr : x = r
      · have HG0 : Hid (gm = G) := Lib.hid (by have := HCAT.out; subst hxr; rw [gameG_end, List.append_nil] at this; exact this)
        have hxb : ((x : Int) != (r : Int)) = false := by simp; omega
        have HXE := Lib.hid hxr
        clear hxr
        go_wp2
        refine bodyPost_ret (v := .tuple #[.slice A' gm.length c', .bool true]) (by simp [results, Try.results87, go_sem]) rfl ⟨A', c', by rw [HGL.out, ← HG0.out, HGB.out], by rw [HGL.out, ← HG0.out]; exact own_base HOWN.out (Nat.le_of_lt hz4), HW4.out.grown HGR.out (Nat.le_of_lt hz4) (fun k hk => by injection hk with hk; omega)⟩
      · have hxb : ((x : Int) != (r : Int)) = true := by simp; omega
        obtain ⟨lp, jp, hpick, hlp, hcp, hjp⟩ := pick_some (W := V) (p := x) ls i (by rw [← HWS.out x hxr]; exact hiV)
        have HPICK := Lib.hid hpick
        have HJP := Lib.hid hjp
        have HNEXT := Lib.hid (gameG_next HLS.out (g := r) hxr hpick hlp hcp)
        have HLPX := Lib.hid ((HCL.out x hxR).2 lp hlp hcp)
        have HPOP := Lib.hid (popc_jump (HLS.out lp hlp) hcp)
        have HI0 : Hid (i < sumG V x ls) := Lib.hid (by rw [← HWS.out x hxr]; exact hiV)
        have hi63 : i ≤ 4611686018427387904 := by omega
        obtain ⟨hbz, d0, d1, d2, d3⟩ := HBX.out.kept hgr (fun e => by injection e with e; omega)
        clear hxr hpick hlp hcp hjp hiV hiL
        go_wp2_with fail
        go_loopw [1, 3, 11, 35] (fun pv iv gv kv wx => ∃ k ik : Nat, pv = .int .i64 x ∧ gv = .slice A' gm.length c' ∧ k ≤ ls.length ∧ kv = .int .i64 k ∧ iv = .int .i64 ik ∧ ik ≤ i ∧ pickG V x (ls.drop k) ik = some (lp, jp) ∧ ik < sumG V x (ls.drop k) ∧ wx.ownsRow W4.heap.size 34 3 (.slice A' gm.length c') gm.length (flat gm) ∧ Memo wx M N (ways ls r (-1)) ∧ W4.grownBy wx (some M)) (fun _ _ _ kv _ => ls.length - (intOf kv).toNat)
        case atStart => exact ⟨0, i, rfl, rfl, Nat.zero_le _, rfl, rfl, Nat.le_refl _, HPICK.out, HI0.out, HOWN.out, HMM.out, HGR.out⟩
        case round =>
          obtain ⟨k, ik, rfl, rfl, hk, rfl, rfl, hik, hpk, hiks, ownk, hmk, hgk⟩ := hrel
          have HPK := Lib.hid hpk
          have HIK := Lib.hid hiks
          have HOK := Lib.hid ownk
          have HMK := Lib.hid hmk
          have HGK := Lib.hid hgk
          have hszk := hgk.size
          clear hpk hiks ownk hmk
          by_cases hkl : k < ls.length
          · obtain ⟨bb, off, l, rfl, hbl, hl, x0, x1, x2⟩ := (rd4.grown hgk (by omega) (fun g hg => by injection hg with hg; omega)).line hkl
            have HLM := Lib.hid (List.mem_of_getElem? hl)
            have HXC := Lib.hid ((HCL.out x HXR.out).2 l HLM.out)
            have HHIT := Lib.hid (fun (hc : canJ x l = true) (hi : ik < V (flip x l)) => pick_hit (W := V) hl hc hi)
            have HOVR := Lib.hid (fun (hc : canJ x l = true) (hi : ¬ ik < V (flip x l)) => pick_over (W := V) hl hc hi)
            have HPST := Lib.hid (fun (hc : canJ x l = false) => pick_past (W := V) (i := ik) hl hc)
            obtain ⟨f, o, t, rfl, f1, o1, t1, hft, hot, hfo⟩ := HLS.out l HLM.out
            have HF := Lib.hid hft
            have HO := Lib.hid hot
            have k0 : (0 : Int) ≤ (k : Int) := by omega
            have k1' : (k : Int) < (ls.length : Int) := by omega
            have hbz2 : bb < wr.heap.size := by omega
            obtain ⟨hbzk, y0, y1, y2, y3⟩ := HBX.out.kept hgk (fun e => by injection e with e; omega)
            have hjM : wr.heap.size ≠ M := by omega
            clear d0 d1 d2 d3
            rcases Bool.eq_false_or_eq_true (canJ x ⟨f, o, t⟩) with h2 | h2
            · have hQR := HXC.out h2
              have hQN := (HCL.out _ hQR).1
              have HWQ := Lib.hid (HWL.out _ hQR)
              have HQM := Lib.hid hQR
              have HHT := Lib.hid (HHIT.out h2)
              have HOV := Lib.hid (HOVR.out h2)
              obtain ⟨Q, hQ⟩ : ∃ Q, flip x ⟨f, o, t⟩ = Q := ⟨_, rfl⟩
              rw [hQ] at hQN HWQ HQM HHT HOV
              have HQ := Lib.hid hQ
              obtain ⟨v, hv⟩ : ∃ v, V Q = v := ⟨_, rfl⟩
              rw [hv] at HWQ HHT HOV
              have HV := Lib.hid hv
              have hvle := HWQ.out.2
              clear hl hft hot hfo hQ hv hQR HXC HHIT HOVR HPST
              go_wp2_with fail
              refine (is2c (jumpFrom_ x f o t x63 (by omega) (by omega) (by omega) HF.out HO.out _) (show _ = (Q : Int) by rw [h2, if_pos rfl, HQ.out]) h2).mono ?_
              rintro e w6 ⟨rfl, hb6⟩
              have hg6 := grown_then (World.grownBy_alloc wr _ none) (grown_below hb6 none)
              have HGB6 := Lib.hid (grown_then HGK.out (hg6.but (some M)))
              have HB6 := Lib.hid (HBX.out.kept HGB6.out (fun e => by injection e with e; omega))
              have HL6 : Hid (BoxG w6 wr.heap.size (.int .i64 f) (.int .i64 o) (.int .i64 t)) := Lib.hid (by
                refine BoxG.kept (w := wr.alloc (.cells #[.int .i64 f, .int .i64 o, .int .i64 t] 34)) ?_ (grown_below hb6 none) (by simp)
                exact ⟨by simp, by simp [go_sem], by simp [go_sem], by simp [go_sem]⟩)
              have HO6 := Lib.hid (HOK.out.kept hg6 (by cases hh : Value.ownBlock (.slice A' gm.length c') <;> simp))
              have hs6 := hg6.size
              obtain ⟨_, u0, u1, u2, u3⟩ := HB6.out
              have HM6 := Lib.hid (HMK.out.kept hg6 (by simp))
              have hzl6 := HL6.out.1
              clear hb6 y0 y1 y2 y3
              go_wp2_with fail
              refine (count_ ls _ k1 r (-1) M N hN1 HST.out HLS.out hle (popc Q) Q rfl hQN w6 (rd4.grown HGB6.out (by omega) (fun g hg => by injection hg with hg; omega)) (by omega) HM6.out).mono ?_
              rintro e w7 ⟨rfl, hm7, hg7⟩
              rw [HWQ.out.1]
              have HG7 := Lib.hid (grown_then HGB6.out hg7)
              have HM7 := Lib.hid hm7
              have HO7 := Lib.hid (HO6.out.kept hg7 (by
                cases hh : Value.ownBlock (.slice A' gm.length c') with
                | none => exact .inl rfl
                | some gb => exact .inr fun e => by injection e with e; have := (HO6.out.lt gb hh).1; omega))
              obtain ⟨hz7, l0, l1, l2⟩ := HL6.out.kept hg7 (fun e => by injection e with e; omega)
              have hs7 := HG7.out.size
              clear hm7 hg7 u0 u1 u2 u3
              rcases Bool.eq_false_or_eq_true (decide ((ik : Int) < (v : Int))) with h5 | h5
              · have h6 : ik < v := by have := of_decide_eq_true h5; omega
                have HEQ := Lib.hid (HHT.out h6)
                have HLJ : Hid (lp = ⟨f, o, t⟩ ∧ jp = ik) := Lib.hid (by have := HPK.out; rw [HEQ.out] at this; injection this with this; injection this with a c; exact ⟨a.symm, c.symm⟩)
                have hgl : gm.length ≤ 16 := by omega
                go_wp2_with (first
                  | (at_builtin; refine wpList_append_own_at _ rfl (.tmp 53) (.tmp 55) 24 rfl W4.heap.size 34 i0 _ 3 24 Try.underlying24 hi0 hz0 hz1 hz2 rfl (by decide) _ _ _ rfl (HO7.out.alloc _) ⟨w7.heap.size, 0, none⟩ 1 1 [.int .i64 f, .int .i64 o, .int .i64 t] rfl rfl (World.news_of_block (cs := #[.int .i64 f, .int .i64 o, .int .i64 t]) (t := 34) (fr := (0, 0)) (heap_alloc_new w7 _)) (by intro u hu; simp at hu; rcases hu with rfl | rfl | rfl <;> rfl) (by unfold maxLen; omega) (by omega) (by simp; omega) ?_; intro v8 w8 own8 hg8 hnil8 hat8))
                obtain ⟨A8, c8, hv8⟩ := own_value own8
                subst hv8
                have HO8 := Lib.hid own8
                have HLO := Lib.hid (fun g (hg : Value.ownBlock (.slice A' gm.length c') = some g) => (HO7.out.lt g hg).1)
                have HM8 := Lib.hid ((HM7.out.kept (World.grownBy_alloc w7 (.cells #[.int .i64 f, .int .i64 o, .int .i64 t] 34) none) (by simp)).kept hg8 (fun e => by have := HLO.out _ e.symm; omega))
                have HG8 := Lib.hid (grown_high (grown_alloc HG7.out (.cells #[.int .i64 f, .int .i64 o, .int .i64 t] 34)) hg8 (fun g hg => HLO.out g hg))
                clear own8 hg8 hnil8 hat8
                go_wp2
                go_roundw
                case rel => exact ⟨Q, ik, A8, c8, gm ++ [⟨f, o, t⟩], by go_num, by go_num, by simp, HQM.out, by rw [HV.out]; exact h6, by
                  have := HCAT.out
                  rw [HNEXT.out, HLJ.out.1, HLJ.out.2, HQ.out] at this
                  simpa using this, by have := HPOP.out; rw [HLJ.out.1, HQ.out] at this; simp; omega, by rw [flat_append]; simpa [flat, lnC] using HO8.out, HM8.out, HG8.out⟩
                case measure => have := HPOP.out; rw [HLJ.out.1, HQ.out] at this; simp [intOf]; omega
              · have h6 : ¬ ik < v := by have := of_decide_eq_false h5; omega
                have HEQ := Lib.hid (HOV.out h6)
                have hsubn : ((ik : Int) - (v : Int)) = ((ik - v : Nat) : Int) := by omega
                have HSUB := Lib.hid hsubn
                clear hsubn
                go_wp2
                go_roundw
                case rel => exact ⟨k + 1, ik - v, rfl, rfl, by omega, by go_num, by rw [HSUB.out], by omega, by rw [← HEQ.out.1]; exact HPK.out, HEQ.out.2 HIK.out, HO7.out, HM7.out, HG7.out⟩
                case measure => simp [intOf]; omega
            · have HPS2 := Lib.hid (HPST.out h2)
              clear hl hft hot hfo HXC HHIT HOVR HPST
              go_wp2_with fail
              refine (is2c (jumpFrom_ x f o t x63 (by omega) (by omega) (by omega) HF.out HO.out _) rfl h2).mono ?_
              rintro e w6 ⟨rfl, hb6⟩
              have hg6 := grown_then (World.grownBy_alloc wr _ none) (grown_below hb6 none)
              have HGJ := Lib.hid (grown_then HGK.out (hg6.but (some M)))
              have HM6 := Lib.hid (HMK.out.kept hg6 (by simp))
              have HO6 := Lib.hid (HOK.out.kept hg6 (by cases hh : Value.ownBlock (.slice A' gm.length c') <;> simp))
              clear hb6 hg6
              go_wp2
              go_roundw
              case rel => exact ⟨k + 1, ik, rfl, rfl, by omega, by go_num, rfl, hik, by rw [← HPS2.out.1]; exact HPK.out, HPS2.out.2 HIK.out, HO6.out, HM6.out, HGJ.out⟩
              case measure => simp [intOf]; omega
          · have e : k = ls.length := by omega
            subst e
            have := HIK.out
            rw [sumG_end] at this
            omega
  · have HR : Hid (gameL b p g n = [] ∧ gameB b p g n = false) := Lib.hid ⟨gameL_no hO, hO⟩
    have HCN : Hid (cntG b p g = cntG b p g) := Lib.hid rfl
    have hO' : inB n 0 (cntG b p g - 1) = false := hO
    obtain ⟨cn, hcn⟩ : ∃ x, cntG b p g = x := ⟨_, rfl⟩
    rw [hcn] at hO' hcb
    replace HCN := Lib.hid hcn
    clear hcn hO
    go_enter Try.func87, Try.ntmps87
    go_wp2_with fail
    refine (isI_ (iCountGames_ b p g hp hg _) HCN.out).mono ?_
    rintro e w1 ⟨rfl, hb1⟩
    obtain ⟨hc, hf⟩ := bcell hb1
    have z0 : W.heap.size < w1.heap.size := by have := hb1.size; (try simp at this); omega
    have hw1 : Below W.heap.size W w1 := below_step ((Below.refl _ _).alloc (Nat.le_refl _) _) hb1 (by (try simp); try omega)
    have c0 : w1.cell? ⟨W.heap.size, 0, none⟩ = some (.int .i64 b.f) := by rw [hc _ _ (by simp; try omega)]; simp [go_sem]
    have c1 : w1.cell? ⟨W.heap.size, 1, none⟩ = some (.int .i64 b.o) := by rw [hc _ _ (by simp; try omega)]; simp [go_sem]
    have c2 : w1.cell? ⟨W.heap.size, 2, none⟩ = some (.int .i64 b.t) := by rw [hc _ _ (by simp; try omega)]; simp [go_sem]
    clear hc hf
    go_wp2_with fail
    refine (is_ (within_ _ _ _ _) hO').mono ?_
    rintro e w' ⟨rfl, rfl⟩
    go_wp2
    refine bodyPost_ret (v := .tuple #[.slice none 0 0, .bool false]) (by simp [results, Try.results87, go_sem]) rfl ⟨none, 0, by rw [HR.out.1, HR.out.2]; rfl, by rw [HR.out.1]; exact World.ownsRow_nil _ _ _ _, hw1⟩
end Go.Proofs.Ytbcgokpamhgabaa

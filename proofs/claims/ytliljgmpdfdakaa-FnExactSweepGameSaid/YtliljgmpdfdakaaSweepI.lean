/- The contracts of the program's FewestSweeps and SweepGame. -/
import Derived.Test.YtliljgmpdfdakaaChecked
import Derived.Test.YtliljgmpdfdakaaMem
import Derived.Tactics
import Derived.Tactics2
import Derived.WalkKit
import Derived.WalkSpells
import Derived.WalkLawsBesides
import Derived.Deep.QuietTactic
import Derived.BigQuiet
import Derived.BigGuardPart
import Derived.Lib.QuietBelow
import Derived.OwnWalk
import Derived.KernelRfl
import Derived.Test.YtliljgmpdfdakaaSweepF
import Derived.Test.YtliljgmpdfdakaaStuckG
import Derived.Test.YtliljgmpdfdakaaOrdA
set_option linter.unusedVariables false
set_option maxRecDepth 20000
namespace Go.Proofs.Ytliljgmpdfdakaa
open Go.RowKit Go.Sort Go.Maps

theorem findk_hit {P : Ln → Bool} {ls : List Ln} {k : Nat} {l : Ln} (hl : ls[k]? = some l) (h : P l = true) : (ls.drop k).find? P = some l := by
  obtain ⟨hk, e⟩ := List.getElem?_eq_some_iff.1 hl
  rw [List.drop_eq_getElem_cons hk, e, List.find?_cons_of_pos h]
theorem findk_past {P : Ln → Bool} {ls : List Ln} {k : Nat} {l : Ln} (hl : ls[k]? = some l) (h : P l = false) : (ls.drop k).find? P = (ls.drop (k + 1)).find? P := by
  obtain ⟨hk, e⟩ := List.getElem?_eq_some_iff.1 hl
  rw [List.drop_eq_getElem_cons hk, e, List.find?_cons_of_neg (by simp [h])]
theorem findk_end {P : Ln → Bool} {ls : List Ln} : (ls.drop ls.length).find? P = none := by simp
/-- Can the goal be reached? -/
def leadsB (b : Ln) (p g : Int) : Bool := pairB b p g && (bfs false (linesL b) (2 ^ (b.f.toNat * b.o.toNat)) p.toNat).getD g.toNat false
theorem leadsB_pair {b : Ln} {p g : Int} (h : leadsB b p g = true) : pairB b p g = true := by rw [leadsB, Bool.and_eq_true] at h; exact h.1
theorem leadsB_iff {w h s p g : Nat} (hb : BdOk w h s) (hO : pairB ⟨w, h, s⟩ p g = true) (hp : p < 2 ^ (w * h)) : leadsB ⟨w, h, s⟩ p g = true ↔ Leads (linesL ⟨w, h, s⟩) p g := by
  rw [leadsB, hO, Bool.true_and, getD_true]
  simp only [Int.toNat_natCast]
  exact bfs_fwd hp (stays_of hb) g
theorem good_iff {w h s g x : Nat} (hb : BdOk w h s) (hS : smallB ⟨w, h, s⟩ = true) (hG : posB ⟨w, h, s⟩ g = true) (hg : g < 2 ^ (w * h)) : goodL (spreadL ⟨w, h, s⟩ g true) x = true ↔ Leads (linesL ⟨w, h, s⟩) x g := by
  rw [goodL, spreadL_yes hS hG, getD_true]
  exact bfs_bwd (lsFo_of hb) hg (stays_of hb) x
theorem has_leads (b : Ln) (p g : Int) : hasB (spreadL b g true) p = leadsB b p g := by
  rcases Bool.eq_false_or_eq_true (smallB b && posB b g) with hh | hh
  · rw [Bool.and_eq_true] at hh
    obtain ⟨hS, hG⟩ := hh
    obtain ⟨w, h, s, rfl, hb, h16, s16⟩ := smallB_nat hS
    obtain ⟨r, rfl, hr⟩ := posB_nat hG
    have hrl := posB_lt hb hr
    rw [Bool.eq_iff_iff]
    constructor
    · intro h1
      have hp0 : 0 ≤ p := by rw [hasB, Bool.and_eq_true] at h1; exact of_decide_eq_true h1.1
      obtain ⟨q, rfl⟩ := Int.eq_ofNat_of_zero_le hp0
      rw [hasB_nat] at h1
      have hL := (good_iff (x := q) hb hS hG hrl).1 h1
      have hm : q ∈ reachL ⟨w, h, s⟩ r true := (reachL_mem hS hG q).2 ((bfs_bwd (lsFo_of hb) hrl (stays_of hb) q).2 hL)
      have hP := reach_pos hm
      obtain ⟨q', e, hq⟩ := posB_nat hP
      have e : q = q' := by omega
      subst e
      have hO : pairB ⟨w, h, s⟩ q r = true := by simp [pairB, hS, hP, hG]
      exact (leadsB_iff hb hO (posB_lt hb hq)).2 hL
    · intro h1
      have hO := leadsB_pair h1
      have hP : posB ⟨w, h, s⟩ p = true := by simp only [pairB, Bool.and_eq_true] at hO; exact hO.1.2
      obtain ⟨q, rfl, hq⟩ := posB_nat hP
      rw [hasB_nat]
      exact (good_iff (x := q) hb hS hG hrl).2 ((leadsB_iff hb hO (posB_lt hb hq)).1 h1)
  · have h1 : hasB (spreadL b g true) p = false := by rw [spreadL_no hh, hasB]; simp
    have h2 : leadsB b p g = false := by
      cases h : leadsB b p g with
      | false => rfl
      | true =>
        have hO := leadsB_pair h
        simp only [pairB, Bool.and_eq_true] at hO
        rw [hO.1.1, hO.2] at hh
        simp at hh
    rw [h1, h2]
def fewL (b : Ln) (p g : Int) : Int := if leadsB b p g then swp (linesL b) (goodL (spreadL b g true)) g.toNat p.toNat (-1) else -1
def sgL (b : Ln) (p g : Int) : List Ln := if leadsB b p g then sgame (linesL b) (goodL (spreadL b g true)) g.toNat p.toNat (-1) else []
theorem sgL_le (b : Ln) (p g : Int) : (sgL b p g).length ≤ 50 := by
  unfold sgL
  split
  · have h1 : popc p.toNat ≤ 49 := by
      have := List.length_filter_le p.toNat.testBit (List.range 49)
      simpa [popc, bitsOf] using this
    exact Nat.le_trans (sgameN_le _ _ _ _ _ _) (by omega)
  · simp
set_option maxHeartbeats 2000000 in
theorem iFewestSweeps_ (b : Ln) (p g : Int) (hp : I64 p) (hg : I64 g) (W : World) :
    Calls Try.prog 19 #[.agg #[.int .i64 b.f, .int .i64 b.o, .int .i64 b.t], .int .i64 p, .int .i64 g] W fun e w' => e = .returned (.int .i64 (fewL b p g)) ∧ Below W.heap.size W w' := by
  rcases Bool.eq_false_or_eq_true (leadsB b p g) with hO | hO
  · have hPG := leadsB_pair hO
    simp only [pairB, Bool.and_eq_true] at hPG
    obtain ⟨⟨hS, hP⟩, hG⟩ := hPG
    obtain ⟨w, h, s, rfl, hb, h16, s16⟩ := smallB_nat hS
    obtain ⟨q, rfl, hq⟩ := posB_nat hP
    obtain ⟨r, rfl, hr⟩ := posB_nat hG
    have hql := posB_lt hb hq
    have HR : Hid (fewL ⟨w, h, s⟩ q r = swp (linesL ⟨w, h, s⟩) (goodL (spreadL ⟨w, h, s⟩ r true)) r q (-1)) := Lib.hid (by simp [fewL, hO])
    have hH : hasB (spreadL ⟨w, h, s⟩ r true) q = true := by rw [has_leads]; exact hO
    have hN1 : 2 ^ (w * h) ≤ 65536 := Nat.pow_le_pow_right (n := 2) (j := 16) (by omega) h16
    have HFA := Lib.hid (fun (A : Option Addr) (c : Nat) (A2 : Option Addr) (c2 M : Nat) => (fewest_all (linesL ⟨w, h, s⟩) (spreadL ⟨w, h, s⟩ r true) A c A2 c2 r M (2 ^ (w * h)) hN1 (stays_of hb) (lsFo_of hb) (spreadL_le _ _ _) (linesL_le _) (posB_lt hb hr) (popc q)).1 q rfl hql (-1) (by omega) (by omega))
    clear hO hS hP hG hq hr hb
    go_enter Try.func19, Try.ntmps19
    go_wp2_with fail
    refine (sweeperOf_ ⟨w, h, s⟩ r hg _).mono ?_
    rintro e w1 ⟨A1, k1, A2, k2, M, rfl, rdL, rdS, hM1, hM0, hmem, hb1⟩
    have hw1 : Below W.heap.size W w1 := below_step ((Below.refl _ _).alloc (Nat.le_refl _) _) hb1 (by simp)
    simp at hM0
    have HRL := Lib.hid (rdL.grown (World.grownBy_alloc w1 (.cells #[.slice A1 (linesL ⟨w, h, s⟩).length k1, .slice A2 (spreadL ⟨w, h, s⟩ r true).length k2, .int .i64 r, .map (some M)] 73) (some M)))
    have HRS := Lib.hid (rdS.grown (World.grownBy_alloc w1 (.cells #[.slice A1 (linesL ⟨w, h, s⟩).length k1, .slice A2 (spreadL ⟨w, h, s⟩ r true).length k2, .int .i64 r, .map (some M)] 73) (some M)))
    have HMEM := Lib.hid hmem
    have hbl := spreadL_le ⟨w, h, s⟩ r true
    clear rdL rdS hmem hb1
    go_wp2_with fail
    refine (is_ (has_ (spreadL ⟨w, h, s⟩ r true) A2 k2 q hbl _ HRS.out.rd) hH).mono ?_
    rintro e w' ⟨rfl, rfl⟩
    go_wp2_with fail
    refine (HFA.out A1 k1 A2 k2 M _ HRL.out HRS.out (by simp; omega) ((HMEM.out _ _).kept (World.grownBy_alloc _ _ none) (by simp))).mono ?_
    rintro e w3 ⟨rfl, hm3, hg3⟩
    go_wp2
    go_ret
    exact ⟨by rw [HR.out]; rfl, (hw1.alloc hw1.size _).grown hg3 (by have := hw1.size; simp; omega) (fun k hk => by injection hk with hk; omega)⟩
  · have HR : Hid (fewL b p g = -1) := Lib.hid (by simp [fewL, hO])
    have hH : hasB (spreadL b g true) p = false := by rw [has_leads]; exact hO
    go_enter Try.func19, Try.ntmps19
    go_wp2_with fail
    refine (sweeperOf_ b g hg _).mono ?_
    rintro e w1 ⟨A1, k1, A2, k2, M, rfl, rdL, rdS, hM1, hM0, hmem, hb1⟩
    have hw1 : Below W.heap.size W w1 := below_step ((Below.refl _ _).alloc (Nat.le_refl _) _) hb1 (by simp)
    simp at hM0
    have HRL := Lib.hid (rdL.grown (World.grownBy_alloc w1 (.cells #[.slice A1 (linesL b).length k1, .slice A2 (spreadL b g true).length k2, .int .i64 g, .map (some M)] 73) (some M)))
    have HRS := Lib.hid (rdS.grown (World.grownBy_alloc w1 (.cells #[.slice A1 (linesL b).length k1, .slice A2 (spreadL b g true).length k2, .int .i64 g, .map (some M)] 73) (some M)))
    have HMEM := Lib.hid hmem
    have hbl := spreadL_le b g true
    clear rdL rdS hmem hb1
    go_wp2_with fail
    refine (is_ (has_ (spreadL b g true) A2 k2 p hbl _ HRS.out.rd) hH).mono ?_
    rintro e w' ⟨rfl, rfl⟩
    go_wp2
    go_ret
    exact ⟨by rw [HR.out]; rfl, hw1.alloc hw1.size _⟩
theorem growns_high {a b c : World} {row row2 : Option Nat} (h : a.grownBy b row) (k : b.grownBy c row2) (hr : ∀ g, row2 = some g → a.heap.size ≤ g) : a.grownBy c row :=
  ⟨k.os.trans h.os, k.tape.trans h.tape, k.output.trans h.output, Nat.le_trans h.size k.size, fun i hi hne => (k.block i (Nat.lt_of_lt_of_le hi h.size) (fun e => by have := hr _ e.symm; omega)).trans (h.block i hi hne)⟩
set_option maxHeartbeats 4000000 in
theorem iSweepGame_ (b : Ln) (p g : Int) (hp : I64 p) (hg : I64 g) (W : World) :
    Calls Try.prog 26 #[.agg #[.int .i64 b.f, .int .i64 b.o, .int .i64 b.t], .int .i64 p, .int .i64 g] W (GivesSliceB W 51 3 (sgL b p g).length (flat (sgL b p g)) (leadsB b p g)) := by
  obtain ⟨i0, hi0, hz0, hz1, hz2⟩ := info_parts infoLine
  rcases Bool.eq_false_or_eq_true (leadsB b p g) with hO | hO
  · have hPG := leadsB_pair hO
    simp only [pairB, Bool.and_eq_true] at hPG
    obtain ⟨⟨hS, hP⟩, hG⟩ := hPG
    obtain ⟨w, h, s, rfl, hb, h16, s16⟩ := smallB_nat hS
    obtain ⟨q, rfl, hq⟩ := posB_nat hP
    obtain ⟨r, rfl, hr⟩ := posB_nat hG
    have hql := posB_lt hb hq
    have hrl := posB_lt hb hr
    have HGL : Hid (sgL ⟨w, h, s⟩ q r = sgame (linesL ⟨w, h, s⟩) (goodL (spreadL ⟨w, h, s⟩ r true)) r q (-1)) := Lib.hid (by simp [sgL, hO])
    have hH : hasB (spreadL ⟨w, h, s⟩ r true) q = true := by rw [has_leads]; exact hO
    have HGQ : Hid (goodL (spreadL ⟨w, h, s⟩ r true) q = true) := Lib.hid (by rw [goodL, ← hasB_nat]; exact hH)
    have hN1 : 2 ^ (w * h) ≤ 65536 := Nat.pow_le_pow_right (n := 2) (j := 16) (by omega) h16
    have HFA := Lib.hid (fun (A : Option Addr) (c : Nat) (A2 : Option Addr) (c2 M n : Nat) => fewest_all (linesL ⟨w, h, s⟩) (spreadL ⟨w, h, s⟩ r true) A c A2 c2 r M (2 ^ (w * h)) hN1 (stays_of hb) (lsFo_of hb) (spreadL_le _ _ _) (linesL_le _) hrl n)
    have HPS : Hid (∀ x, x < 2 ^ (w * h) → popc x ≤ 16) := Lib.hid fun x hx => Nat.le_trans (popc_le x hx (by omega)) h16
    have HGI := Lib.hid (fun (x : Nat) => good_iff (x := x) hb hS hG hrl)
    have HST := Lib.hid (stays_of hb)
    have HLS := Lib.hid (lsFo_of hb)
    have HLB := Lib.hid hO
    have hlsn := linesL_le ⟨w, h, s⟩
    obtain ⟨bs, hbs⟩ : ∃ x, spreadL ⟨w, h, s⟩ r true = x := ⟨_, rfl⟩
    obtain ⟨ls, hls⟩ : ∃ x, linesL ⟨w, h, s⟩ = x := ⟨_, rfl⟩
    rw [hls, hbs] at HFA HGL
    rw [hbs] at hH HGQ HGI
    rw [hls] at HST HLS HGI hlsn
    have HBS := Lib.hid hbs
    have HLE := Lib.hid hls
    obtain ⟨N, hN⟩ : ∃ N, 2 ^ (w * h) = N := ⟨_, rfl⟩
    rw [hN] at HFA HPS HST hql hN1
    obtain ⟨gd, hgd⟩ : ∃ x, goodL bs = x := ⟨_, rfl⟩
    have HGD := Lib.hid hgd
    rw [hgd] at HGL HGQ HGI
    have HPICK := Lib.hid (fun (x : Nat) (a : Int) (hx : gd x = true) (hne : x ≠ r) => pickS_some (last := a) HLS.out (good := gd) (g := r) (fun y => (HGI.out y).symm) hx hne)
    obtain ⟨G, hGe⟩ : ∃ G, sgame ls gd r q (-1) = G := ⟨_, rfl⟩
    rw [hGe] at HGL
    have HGE := Lib.hid hGe
    clear hO hS hP hG hq hr hb hbs hls hN hgd hGe
    go_enter Try.func26, Try.ntmps26
    go_wp2_with fail
    refine (sweeperOf_ ⟨w, h, s⟩ r hg _).mono ?_
    rintro e w1 ⟨A1, k1, A2, k2, M, rfl, rdL, rdS, hM1, hM0, hmem, hb1⟩
    have hw1 : Below W.heap.size W w1 := below_step ((Below.refl _ _).alloc (Nat.le_refl _) _) hb1 (by simp)
    simp at hM0
    have HRL := Lib.hid (rdL.grown (World.grownBy_alloc w1 (.cells #[.slice A1 (linesL ⟨w, h, s⟩).length k1, .slice A2 (spreadL ⟨w, h, s⟩ r true).length k2, .int .i64 r, .map (some M)] 73) (some M)))
    have HRS := Lib.hid (rdS.grown (World.grownBy_alloc w1 (.cells #[.slice A1 (linesL ⟨w, h, s⟩).length k1, .slice A2 (spreadL ⟨w, h, s⟩ r true).length k2, .int .i64 r, .map (some M)] 73) (some M)))
    have HMEM := Lib.hid hmem
    have hbl := spreadL_le ⟨w, h, s⟩ r true
    clear rdL rdS hmem hb1
    rw [HBS.out, HLE.out] at HRL HRS
    rw [HBS.out] at hbl
    rw [HBS.out, HLE.out]
    obtain ⟨W4, hW4⟩ : ∃ W4, W4 = w1.alloc (.cells #[.slice A1 ls.length k1, .slice A2 bs.length k2, .int .i64 r, .map (some M)] 73) := ⟨_, rfl⟩
    have HBX : Hid (Box4 W4 w1.heap.size (.slice A1 ls.length k1) (.slice A2 bs.length k2) (.int .i64 r) (.map (some M))) := Lib.hid (by
      subst hW4
      exact ⟨by simp, by simp [go_sem], by simp [go_sem], by simp [go_sem], by simp [go_sem]⟩)
    have HM4 : Hid (MemoA W4 M N (swp ls (goodL bs) r)) := Lib.hid (by subst hW4; exact (HMEM.out _ _).kept (World.grownBy_alloc _ _ none) (by simp))
    have hM4 : M < W4.heap.size := by subst hW4; simp; omega
    have h14 : w1.heap.size < W4.heap.size := HBX.out.1
    have hz4 : W.heap.size < W4.heap.size := by have := hw1.size; omega
    have HW4 : Hid (Below W.heap.size W W4) := Lib.hid (by subst hW4; exact hw1.alloc hw1.size _)
    have HOW := Lib.hid (World.ownsRow_lit (base := W4.heap.size) (e := 51) (size := 3) W4 #[] 0 (Nat.le_refl _) (by simp [maxLen]) rfl)
    have HM5 := Lib.hid (HM4.out.kept (World.grownBy_alloc W4 (.cells #[] 51) none) (by simp))
    have HSZ := Lib.hid (show W4.heap.size = w1.heap.size + 1 by rw [hW4]; simp)
    rw [← hW4] at HRL HRS
    have HWE := Lib.hid hW4
    clear HMEM hW4
    go_wp2_with fail
    rw [← HWE.out]
    refine (is_ (has_ bs A2 k2 q hbl _ HRS.out.rd) hH).mono ?_
    rintro e w' ⟨rfl, rfl⟩
    go_wp2_with fail
    go_loopw [1, 9, 10] (fun pv gv lv wr => ∃ (x : Nat) (a : Int) (A' : Option Addr) (c' : Nat) (gm : List Ln), pv = .int .i64 x ∧ lv = .int .i64 a ∧ gv = .slice A' gm.length c' ∧ x < N ∧ gd x = true ∧ -1 ≤ a ∧ a < 63 ∧ gm ++ sgame ls gd r x a = G ∧ gm.length + popc x ≤ 16 ∧ wr.ownsRow W4.heap.size 51 3 (.slice A' gm.length c') gm.length (flat gm) ∧ MemoA wr M N (swp ls (goodL bs) r) ∧ W4.grownBy wr (some M)) (fun pv _ _ _ => popc (intOf pv).toNat)
    case atStart => exact ⟨q, -1, _, _, [], rfl, rfl, rfl, hql, HGQ.out, by omega, by omega, HGE.out, by have := HPS.out q hql; simpa using this, HOW.out, HM5.out, World.grownBy_alloc _ _ _⟩
    case round =>
      obtain ⟨x, a, A', c', gm, rfl, rfl, rfl, hxN, hgx, ha1, ha2, hcat, hlen, own, hmm, hgr⟩ := hrel
      have HMM := Lib.hid hmm
      have HGR := Lib.hid hgr
      have HCAT := Lib.hid hcat
      have HOWN := Lib.hid own
      have HGX := Lib.hid hgx
      have hsz := hgr.size
      have x63 : B63 x := by unfold B63; omega
      clear hmm hcat own hgx
      by_cases hxr : x = r
      · have HG0 : Hid (gm = G) := Lib.hid (by have := HCAT.out; subst hxr; rw [sgame_end, List.append_nil] at this; exact this)
        have hxb : ((x : Int) != (r : Int)) = false := by simp; omega
        clear hxr
        go_wp2
        refine bodyPost_ret (v := .tuple #[.slice A' gm.length c', .bool true]) (by simp [results, Try.results26, go_sem]) rfl ⟨A', c', by rw [HGL.out, ← HG0.out, HLB.out], by rw [HGL.out, ← HG0.out]; exact own_base HOWN.out (Nat.le_of_lt hz4), HW4.out.grown HGR.out (Nat.le_of_lt hz4) (fun k hk => by injection hk with hk; omega)⟩
      · have hxb : ((x : Int) != (r : Int)) = true := by simp; omega
        obtain ⟨lp, hpick, hlp, hcp, hgp, hcost⟩ := HPICK.out x a HGX.out hxr
        have HPK0 := Lib.hid (show (ls.drop 0).find? (fun l => costS (swp ls gd r) gd x a l == swp ls gd r x a) = some lp from hpick)
        have HNEXT := Lib.hid (sgame_next HLS.out (g := r) hxr hpick hlp hcp)
        have HPOP := Lib.hid (popc_jump (HLS.out lp hlp) hcp)
        have HFL := Lib.hid (And.intro hcp hgp)
        have HFN := Lib.hid (HST.out lp hlp x hxN)
        have hbd := swp_bd HLS.out (good := gd) (g := r) x a
        obtain ⟨hbz, d0, d1, d2, d3⟩ := HBX.out.kept hgr (fun e => by injection e with e; omega)
        have HR1 := Lib.hid (HRL.out.grown hgr)
        have HR2 := Lib.hid (HRS.out.grown hgr)
        have hpc : popc x ≤ 16 := HPS.out x hxN
        clear hxr hpick hlp hcp hgp hcost
        go_wp2_with fail
        refine ((HFA.out A1 k1 A2 k2 M (popc x)).1 x rfl hxN a ha1 ha2 _ HR1.out HR2.out (by omega) HMM.out).mono ?_
        rintro e w5 ⟨rfl, hm5, hg5⟩
        rw [HGD.out]
        have HMM5 := Lib.hid hm5
        have HGR5 := Lib.hid (grown_then HGR.out hg5)
        have HOW5 := Lib.hid (HOWN.out.kept hg5 (by
          cases hh : Value.ownBlock (.slice A' gm.length c') with
          | none => exact .inl rfl
          | some gb => exact .inr fun e => by injection e with e; have := (HOWN.out.lt gb hh).1; omega))
        obtain ⟨sv, hsv⟩ : ∃ v, swp ls gd r x a = v := ⟨_, rfl⟩
        rw [hsv] at HPK0 hbd
        rw [hsv]
        obtain ⟨hbz', y0, y1, y2, y3⟩ := HBX.out.kept HGR5.out (fun e => by injection e with e; omega)
        have hs5 := HGR5.out.size
        clear hm5 hg5 hsv d0 d1 d2 d3
        go_wp2_with fail
        go_loopw [1, 9, 10, 33] (fun pv gv lv kv wx => ∃ k : Nat, pv = .int .i64 x ∧ lv = .int .i64 a ∧ gv = .slice A' gm.length c' ∧ k ≤ ls.length ∧ kv = .int .i64 k ∧ (ls.drop k).find? (fun l => costS (swp ls gd r) gd x a l == sv) = some lp ∧ wx.ownsRow W4.heap.size 51 3 (.slice A' gm.length c') gm.length (flat gm) ∧ MemoA wx M N (swp ls (goodL bs) r) ∧ W4.grownBy wx (some M)) (fun _ _ _ kv _ => ls.length - (intOf kv).toNat)
        case atStart => exact ⟨0, rfl, rfl, rfl, Nat.zero_le _, rfl, HPK0.out, HOW5.out, HMM5.out, HGR5.out⟩
        case round =>
          obtain ⟨k, rfl, rfl, rfl, hk, rfl, hpk, ownk, hmk, hgk⟩ := hrel
          have HPK := Lib.hid hpk
          have HOK := Lib.hid ownk
          have HMK := Lib.hid hmk
          have HGK := Lib.hid hgk
          have hszk := hgk.size
          clear hpk ownk hmk
          by_cases hkl : k < ls.length
          · have HRA := Lib.hid (HRL.out.grown hgk)
            have HRB := Lib.hid (HRS.out.grown hgk)
            obtain ⟨bb, off, l, rfl, hbl', hl, x0, x1, x2⟩ := HRA.out.rd.line hkl
            have HLM := Lib.hid (List.mem_of_getElem? hl)
            have HHIT := Lib.hid (fun (h : (costS (swp ls gd r) gd x a l == sv) = true) => findk_hit (P := fun l => costS (swp ls gd r) gd x a l == sv) hl h)
            have HPST := Lib.hid (fun (h : (costS (swp ls gd r) gd x a l == sv) = false) => findk_past (P := fun l => costS (swp ls gd r) gd x a l == sv) hl h)
            have hcb := cost_bd HLS.out (good := gd) (g := r) (p := x) (last := a) HLM.out
            have k0 : (0 : Int) ≤ (k : Int) := by omega
            have k1' : (k : Int) < (ls.length : Int) := by omega
            obtain ⟨hbzk, z0, z1, z2, z3⟩ := HBX.out.kept hgk (fun e => by injection e with e; omega)
            obtain ⟨f, o, t, rfl, f1, o1, t1, hft, hot, hfo⟩ := HLS.out l HLM.out
            have HF := Lib.hid hft
            have HO := Lib.hid hot
            obtain ⟨W5, hW5⟩ : ∃ W5, W5 = wr.alloc (.cells #[.int .i64 f, .int .i64 o, .int .i64 t] 51) := ⟨_, rfl⟩
            have hg5 : wr.grownBy W5 (some M) := by subst hW5; exact World.grownBy_alloc _ _ _
            have HXB : Hid (BoxS W5 wr.heap.size (.int .i64 f) (.int .i64 o) (.int .i64 t)) := Lib.hid (by subst hW5; exact ⟨by simp, by simp [go_sem], by simp [go_sem], by simp [go_sem]⟩)
            have HM5' : Hid (MemoA W5 M N (swp ls (goodL bs) r)) := Lib.hid (by subst hW5; exact HMK.out.kept (World.grownBy_alloc _ _ none) (by simp))
            have HO5' : Hid (W5.ownsRow W4.heap.size 51 3 (.slice A' gm.length c') gm.length (flat gm)) := Lib.hid (by subst hW5; exact HOK.out.alloc _)
            have HR5 := Lib.hid (HRA.out.grown hg5)
            have HR6 := Lib.hid (HRB.out.grown hg5)
            have HG5 := Lib.hid (grown_then HGK.out hg5)
            have hM5 : M < W5.heap.size := by have := hg5.size; omega
            have hMw : wr.heap.size ≠ M := by omega
            have HW5 := Lib.hid hW5
            clear hl hft hot hfo hg5 hW5 y0 y1 y2 y3
            go_wp2_with fail
            rw [← HW5.out]
            refine ((HFA.out _ k1 A2 k2 M (popc x)).2 x rfl hxN a ha1 ha2 ⟨f, o, t⟩ HLM.out W5 HR5.out HR6.out hM5 HM5'.out).mono ?_
            rintro e w6 ⟨rfl, hm6, hg6⟩
            rw [HGD.out]
            have HM6 := Lib.hid hm6
            have HG6 := Lib.hid (grown_then HG5.out hg6)
            have HO6 := Lib.hid (HO5'.out.kept hg6 (by
              cases hh : Value.ownBlock (.slice A' gm.length c') with
              | none => exact .inl rfl
              | some gb => exact .inr fun e => by injection e with e; have := (HO5'.out.lt gb hh).1; omega))
            obtain ⟨hz6, l0, l1, l2⟩ := HXB.out.kept hg6 (fun e => by injection e with e; omega)
            have hs6 := HG6.out.size
            obtain ⟨cv, hcv⟩ : ∃ v, costS (swp ls gd r) gd x a ⟨f, o, t⟩ = v := ⟨_, rfl⟩
            rw [hcv] at HHIT HPST hcb
            rw [hcv]
            clear hm6 hg6 hcv x0 x1 x2 z0 z1 z2 z3
            rcases Bool.eq_false_or_eq_true (cv == sv) with h5 | h5
            · have HLP : Hid (lp = ⟨f, o, t⟩) := Lib.hid (by have := (HHIT.out h5).symm.trans HPK.out; injection this with this; exact this.symm)
              have hcj : canJ x ⟨f, o, t⟩ = true := by rw [← HLP.out]; exact HFL.out.1
              have hgl : gm.length ≤ 16 := by omega
              have hlo := fun gb (hh : Value.ownBlock (.slice A' gm.length c') = some gb) => (HO6.out.lt gb hh).1
              have HLO := Lib.hid hlo
              have hzl : wr.heap.size ≥ W4.heap.size := by omega
              have HBL6 := Lib.hid (show BoxS w6 wr.heap.size (.int .i64 f) (.int .i64 o) (.int .i64 t) from ⟨hz6, l0, l1, l2⟩)
              have HNB : Hid (∀ gb, Value.ownBlock (.slice A' gm.length c') = some gb → gb ≠ wr.heap.size) := Lib.hid (fun gb hh => by have := (HOK.out.lt gb hh).2; omega)
              clear hlo
              go_wp2_with (first
                | (at_builtin; refine wpList_append_own_at _ rfl (.tmp 44) (.tmp 46) 32 rfl W4.heap.size 51 i0 _ 3 24 Try.underlying32 hi0 hz0 hz1 hz2 rfl (by decide) _ _ _ rfl (HO6.out.alloc _) ⟨w6.heap.size, 0, none⟩ 1 1 [.int .i64 f, .int .i64 o, .int .i64 t] rfl rfl (World.news_of_block (cs := #[.int .i64 f, .int .i64 o, .int .i64 t]) (t := 51) (fr := (0, 0)) (heap_alloc_new w6 _)) (by intro u hu; simp at hu; rcases hu with rfl | rfl | rfl <;> rfl) (by unfold maxLen; omega) (by omega) (by simp; omega) ?_; intro v8 w8 own8 hg8 hnil8 hat8; have HBL8 := Lib.hid ((HBL6.out.kept (World.grownBy_alloc w6 (.cells #[.int .i64 f, .int .i64 o, .int .i64 t] 51) none) (by simp)).kept hg8 (fun e => HNB.out _ e.symm rfl)); obtain ⟨hz8, q0, q1, q2⟩ := HBL8.out))
              obtain ⟨A8, c8, hv8⟩ := own_value own8
              subst hv8
              have HO8 := Lib.hid own8
              have HM8 := Lib.hid ((HM6.out.kept (World.grownBy_alloc w6 (.cells #[.int .i64 f, .int .i64 o, .int .i64 t] 51) none) (by simp)).kept hg8 (fun e => by have := HLO.out _ e.symm; omega))
              have HG8 := Lib.hid (growns_high (grown_alloc HG6.out (.cells #[.int .i64 f, .int .i64 o, .int .i64 t] 51)) hg8 (fun g hg => HLO.out g hg))
              clear own8 hg8 hnil8 hat8
              refine (is2c (jumpFrom_ x f o t x63 (by omega) (by omega) (by omega) HF.out HO.out _) (show _ = ((flip x ⟨f, o, t⟩ : Nat) : Int) by rw [hcj, if_pos rfl]) hcj).mono ?_
              rintro e w9 ⟨rfl, hb9⟩
              have HO9 := Lib.hid (own_next HO8.out hb9)
              have HM9 := Lib.hid (HM8.out.kept (grown_below hb9 none) (by simp))
              have HG9 := Lib.hid (grown_then HG8.out (grown_below hb9 (some M)))
              have q29 := (hb9.cell (p := ⟨wr.heap.size, 2, none⟩) hz8).trans q2
              have hz9 : wr.heap.size < w9.heap.size := by have := hb9.size; omega
              obtain ⟨Q, hQ⟩ : ∃ Q, flip x ⟨f, o, t⟩ = Q := ⟨_, rfl⟩
              have HQ := Lib.hid hQ
              rw [hQ]
              clear hb9 hQ l0 l1 l2 q0 q1 q2
              go_wp2
              go_roundw
              case rel => exact ⟨Q, (t : Int), A8, c8, gm ++ [⟨f, o, t⟩], by go_num, by go_num, by simp, by have := HFN.out; rw [HLP.out, HQ.out] at this; exact this, by have := HFL.out.2; rw [HLP.out, HQ.out] at this; exact this, by omega, by omega, by
                have := HCAT.out
                rw [HNEXT.out, HLP.out, HQ.out] at this
                simpa using this, by have := HPOP.out; rw [HLP.out, HQ.out] at this; simp; omega, by rw [flat_append]; simpa [flat, lnC] using HO9.out, HM9.out, HG9.out⟩
              case measure => have := HPOP.out; rw [HLP.out, HQ.out] at this; simp [intOf]; omega
            · have HPS2 := Lib.hid (HPST.out h5)
              go_wp2
              go_roundw
              case rel => exact ⟨k + 1, rfl, rfl, rfl, by omega, by go_num, by rw [← HPS2.out]; exact HPK.out, HO6.out, HM6.out, HG6.out⟩
              case measure => simp [intOf]; omega
          · have e : k = ls.length := by omega
            subst e
            have := HPK.out
            rw [findk_end] at this
            cases this
  · have HR : Hid (sgL b p g = [] ∧ leadsB b p g = false) := Lib.hid ⟨by simp [sgL, hO], hO⟩
    have hH : hasB (spreadL b g true) p = false := by rw [has_leads]; exact hO
    go_enter Try.func26, Try.ntmps26
    go_wp2_with fail
    refine (sweeperOf_ b g hg _).mono ?_
    rintro e w1 ⟨A1, k1, A2, k2, M, rfl, rdL, rdS, hM1, hM0, hmem, hb1⟩
    have hw1 : Below W.heap.size W w1 := below_step ((Below.refl _ _).alloc (Nat.le_refl _) _) hb1 (by simp)
    simp at hM0
    have HRL := Lib.hid (rdL.grown (World.grownBy_alloc w1 (.cells #[.slice A1 (linesL b).length k1, .slice A2 (spreadL b g true).length k2, .int .i64 g, .map (some M)] 73) (some M)))
    have HRS := Lib.hid (rdS.grown (World.grownBy_alloc w1 (.cells #[.slice A1 (linesL b).length k1, .slice A2 (spreadL b g true).length k2, .int .i64 g, .map (some M)] 73) (some M)))
    have HMEM := Lib.hid hmem
    have hbl := spreadL_le b g true
    clear rdL rdS hmem hb1
    go_wp2_with fail
    refine (is_ (has_ (spreadL b g true) A2 k2 p hbl _ HRS.out.rd) hH).mono ?_
    rintro e w' ⟨rfl, rfl⟩
    go_wp2
    refine bodyPost_ret (v := .tuple #[.slice none 0 0, .bool false]) (by simp [results, Try.results26, go_sem]) rfl ⟨none, 0, by rw [HR.out.1, HR.out.2]; rfl, by rw [HR.out.1]; exact World.ownsRow_nil _ _ _ _, hw1.alloc hw1.size _⟩
end Go.Proofs.Ytliljgmpdfdakaa

/- The contract of the reference's WayTo, where the goal can be reached: the first of the games. -/
import Derived.Test.YtbcgokpamhgabaaChecked
import Derived.Test.YtbcgokpamhgabaaKc01
import Derived.Tactics
import Derived.Tactics2
import Derived.WalkKit
import Derived.WalkSpells
import Derived.WalkLawsBesides
import Derived.Deep.QuietTactic
import Derived.BigQuiet
import Derived.BigGuardPart
import Derived.Lib.QuietBelow
import Derived.OwnWalk
import Derived.KernelRfl
import Derived.Test.YtbcgokpamhgabaaKc36
import Derived.Test.YtbcgokpamhgabaaKc21
import Derived.Test.YtbcgokpamhgabaaKc37
import Derived.Test.YtbcgokpamhgabaaKc27
namespace Go.Proofs.Ytbcgokpamhgabaa
set_option linter.unusedVariables false
set_option maxRecDepth 100000
open Go.RowKit Go.Sort

theorem grown_or {a b c : World} {row row2 : Option Nat} (h : a.grownBy b row) (k : b.grownBy c row2) (hr : ∀ g, row2 = some g → some g = row ∨ a.heap.size ≤ g) : a.grownBy c row :=
  ⟨k.os.trans h.os, k.tape.trans h.tape, k.output.trans h.output, Nat.le_trans h.size k.size, fun i hi hne => (k.block i (Nat.lt_of_lt_of_le hi h.size) (fun e => by
    rcases hr i e.symm with h1 | h1
    · exact hne h1
    · omega)).trans (h.block i hi hne)⟩
theorem l15Back2_ (w h s q : Nat) (hS : smallB ⟨w, h, s⟩ = true) (hP : posB ⟨w, h, s⟩ q = true) (W : World) :
    Calls Try.prog 149 #[.agg #[.int .i64 w, .int .i64 h, .int .i64 s], .int .i64 q] W (GivesRd W (spreadL ⟨w, h, s⟩ q true).length (bools (spreadL ⟨w, h, s⟩ q true))) := by
  go_enter Try.func149, Try.ntmps149
  go_wp2_with fail
  refine (l14Seen_ w h s q true hS hP _).mono ?_
  rintro e w1 ⟨A, c, rfl, rd, hb1⟩
  have hw1 : Below W.heap.size W w1 := below_step ((Below.refl _ _).alloc (Nat.le_refl _) _) hb1 (by simp)
  go_wp2
  go_ret
  exact ⟨A, c, rfl, rd, hw1⟩
theorem waysN_iff {ls : List Ln} (h49 : ∀ l ∈ ls, Ln49 l) (g : Nat) : ∀ (n p : Nat), popc p = n → 0 < waysN ls g (-1) p → Leads ls p g := by
  intro n
  induction n using Nat.strongRecOn with
  | _ n ih =>
    intro p hp h
    by_cases e : p = g
    · subst e; exact .refl p
    · obtain ⟨l, j, -, h2, h3, h4, -⟩ := game_ne h49 g e h
      have := popc_jump (h49 l h2) h3
      exact .head l h2 h3 (ih (popc (flip p l)) (by omega) _ rfl (by omega))
set_option maxHeartbeats 3000000 in
theorem sWayTo_ (w h s q r : Nat) (hb : BdOk w h s) (h16 : w * h ≤ 16) (hP : posB ⟨w, h, s⟩ q = true) (hG : posB ⟨w, h, s⟩ r = true) (hld : Leads (linesL ⟨w, h, s⟩) q r) (W : World) :
    Calls Try.prog 88 #[.agg #[.int .i64 w, .int .i64 h, .int .i64 s], .int .i64 q, .int .i64 r] W (GivesSliceB W 34 3 (gameG (waysN (linesL ⟨w, h, s⟩) r (-1)) (linesL ⟨w, h, s⟩) r q 0).length (flat (gameG (waysN (linesL ⟨w, h, s⟩) r (-1)) (linesL ⟨w, h, s⟩) r q 0)) true) := by
  obtain ⟨i0, hi0, hz0, hz1, hz2⟩ := info_parts infoLine
  have hS := small_of hb h16
  have hqi : I64 (q : Int) := posB_i64 hP
  have hri : I64 (r : Int) := posB_i64 hG
  have hql : q < 2 ^ (w * h) := by
    obtain ⟨q', e, hs⟩ := posB_nat hP
    obtain rfl : q = q' := by omega
    exact posB_lt hb hs
  have hrl : r < 2 ^ (w * h) := by
    obtain ⟨q', e, hs⟩ := posB_nat hG
    obtain rfl : r = q' := by omega
    exact posB_lt hb hs
  have h49 := ln49s hb
  have HLS := Lib.hid h49
  have HLD := Lib.hid hld
  have HP := Lib.hid hP
  have HPS : Hid (∀ x : Nat, posB ⟨w, h, s⟩ x = true → x < 2 ^ (w * h) ∧ popc x ≤ 16) := Lib.hid fun x hx => by
    obtain ⟨q', e, hs⟩ := posB_nat hx
    obtain rfl : x = q' := by omega
    exact ⟨posB_lt hb hs, pop16 hb h16 hx⟩
  have HCR : Hid (leadsB ⟨w, h, s⟩ q r = true) := Lib.hid ((leadsB_iff hb (by simp [pairB, hS, hP, hG]) hql).2 hld)
  have HCL : Hid (∀ x : Nat, posB ⟨w, h, s⟩ x = true → ∀ l ∈ linesL ⟨w, h, s⟩, canJ x l = true → posB ⟨w, h, s⟩ (flip x l : Nat) = true) := Lib.hid fun x hx l hl hc =>
    (jump_on hb hx (by rw [jumpsL, if_pos hx, List.mem_filter, Int.toNat_natCast]; exact ⟨hl, hc⟩) (.refl x)).2.2.2
  have HJL : Hid (∀ x : Nat, posB ⟨w, h, s⟩ x = true → jumpsL ⟨w, h, s⟩ x = (linesL ⟨w, h, s⟩).filter (canJ x)) := Lib.hid fun x hx => jumpsL_yes hx
  have HTB := Lib.hid (fun W' => l15Back2_ w h s r hS hG W')
  have hlen := spreadL_len (back := true) hS hG hb hrl
  have HGD : Hid (∀ Q, Q < 2 ^ (w * h) → (spreadL ⟨w, h, s⟩ r true)[Q]? = some (decide (0 < waysN (linesL ⟨w, h, s⟩) r (-1) Q))) := Lib.hid fun Q hQ => by
    have e : (spreadL ⟨w, h, s⟩ r true)[Q]? = some (spreadL ⟨w, h, s⟩ r true)[Q] := List.getElem?_eq_getElem (by rw [hlen]; exact hQ)
    rw [e]
    congr 1
    rw [Bool.eq_iff_iff, decide_eq_true_eq]
    have e2 : (spreadL ⟨w, h, s⟩ r true)[Q] = true ↔ (spreadL ⟨w, h, s⟩ r true)[Q]? = some true := by rw [e]; simp
    rw [e2, spreadL_yes hS hG, bfs_bwd (lsFo_of hb) hrl (stays_of hb)]
    exact ⟨fun k => waysN_pos h49 r k, fun k => waysN_iff h49 r _ Q rfl k⟩
  have HWP : Hid (∀ x, Leads (linesL ⟨w, h, s⟩) x r → 0 < waysN (linesL ⟨w, h, s⟩) r (-1) x) := Lib.hid fun x k => waysN_pos h49 r k
  have HWQ : Hid (∀ x, 0 < waysN (linesL ⟨w, h, s⟩) r (-1) x → Leads (linesL ⟨w, h, s⟩) x r) := Lib.hid fun x k => waysN_iff h49 r _ x rfl k
  have hle := linesL_le ⟨w, h, s⟩
  have hN1 : 2 ^ (w * h) ≤ 65536 := Nat.pow_le_pow_right (n := 2) (j := 16) (by omega) h16
  have hN0 := Nat.two_pow_pos (w * h)
  obtain ⟨ls, hls⟩ : ∃ ls, linesL ⟨w, h, s⟩ = ls := ⟨_, rfl⟩
  rw [hls] at HLS HLD HCL HJL HGD HWP HWQ hle ⊢
  obtain ⟨N, hN⟩ : ∃ N, 2 ^ (w * h) = N := ⟨_, rfl⟩
  rw [hN] at HPS HGD hN1 hlen hN0
  have HWS : Hid (∀ x : Nat, x ≠ r → waysN ls r (-1) x = sumG (waysN ls r (-1)) x ls) := Lib.hid fun x hx => waysN_sum HLS.out (by omega)
  obtain ⟨V, hV⟩ : ∃ V, waysN ls r (-1) = V := ⟨_, rfl⟩
  rw [hV] at HGD HWP HWQ HWS ⊢
  obtain ⟨bs, hbs⟩ : ∃ bs, spreadL ⟨w, h, s⟩ r true = bs := ⟨_, rfl⟩
  rw [hbs] at HGD hlen HTB
  rw [hlen] at HTB
  have HLEN := Lib.hid hlen
  obtain ⟨G, hGe⟩ : ∃ G, gameG V ls r q 0 = G := ⟨_, rfl⟩
  rw [hGe]
  have HGE := Lib.hid hGe
  clear hls hN hV hbs hGe hb h16 hP hG hld hS hql hrl h49 hlen
  go_enter Try.func88, Try.ntmps88
  have HLIT := Lib.hid (World.ownsRow_lit (base := W.heap.size) (e := 34) (size := 3) (W.alloc (.cells #[.int .i64 w, .int .i64 h, .int .i64 s] 42)) #[] 0 (by simp) (by simp [maxLen]) rfl)
  go_wp2_with fail
  refine (is_ (sCanReach_ ⟨w, h, s⟩ q r hqi hri _) HCR.out).mono ?_
  rintro e w1 ⟨rfl, hb1⟩
  obtain ⟨hc, hf⟩ := bcell hb1
  have z0 : W.heap.size < w1.heap.size := by have := hb1.size; (try simp at this); omega
  have hw1 : Below W.heap.size W w1 := below_step (((Below.refl _ _).alloc (Nat.le_refl _) _).alloc (by simp) _) hb1 (by (try simp); try omega)
  have c0 : w1.cell? ⟨W.heap.size, 0, none⟩ = some (.int .i64 w) := by rw [hc _ _ (by simp; try omega)]; simp [go_sem]
  have c1 : w1.cell? ⟨W.heap.size, 1, none⟩ = some (.int .i64 h) := by rw [hc _ _ (by simp; try omega)]; simp [go_sem]
  have c2 : w1.cell? ⟨W.heap.size, 2, none⟩ = some (.int .i64 s) := by rw [hc _ _ (by simp; try omega)]; simp [go_sem]
  clear hc hf
  have HO1 := Lib.hid (own_next HLIT.out hb1)
  have hzo1 : W.heap.size + 1 < w1.heap.size := by have := hb1.size; (try simp at this); omega
  go_wp2_with fail
  refine (HTB.out _).mono ?_
  rintro e w3 ⟨AT, cT, rfl, rdT, hb3⟩
  replace c0 := (hb3.cell (p := ⟨W.heap.size, 0, none⟩) z0).trans c0
  replace c1 := (hb3.cell (p := ⟨W.heap.size, 1, none⟩) z0).trans c1
  replace c2 := (hb3.cell (p := ⟨W.heap.size, 2, none⟩) z0).trans c2
  replace z0 : W.heap.size < (w3).heap.size := by have := hb3.size; omega
  have hw3 := below_next hw1 hb3
  have HO3 := Lib.hid (own_next HO1.out hb3)
  obtain ⟨tb, toff, hAT, htb, htc⟩ : ∃ b off, AT = some ⟨b, off, none⟩ ∧ b < w3.heap.size ∧ ∀ y v, bs[y]? = some v → w3.cell? ⟨b, off + y, none⟩ = some (.bool v) := by
    obtain ⟨b, off, hA, hb, hc⟩ := rdT (by rw [show (bools bs).length = bs.length by simp [bools], HLEN.out]; exact hN0)
    exact ⟨b, off, hA, hb, fun y v hv => hc y _ (by simp [bools, hv])⟩
  subst hAT
  have HTC := Lib.hid htc
  have hz3 := hb3.size
  have hsz3 : W.heap.size + 1 < w3.heap.size := by omega
  have htb1 : tb ≠ W.heap.size + 1 := by
    intro e
    subst e
    have hb0 : 0 < bs.length := by rw [HLEN.out]; exact hN0
    have h0 : bs[0]? = some (bs[0]'hb0) := List.getElem?_eq_getElem hb0
    have h1 := (below_next hb1 hb3).cell (p := ⟨W.heap.size + 1, toff + 0, none⟩) (by simp)
    rw [htc 0 _ h0] at h1
    simp [go_sem] at h1
  clear hb3 rdT htc hb1
  have HGDN := HGD
  go_wp2_with fail
  go_loopw [1, 8] (fun pv gv wr => ∃ (x : Nat) (A' : Option Addr) (c' : Nat) (gm : List Ln), pv = .int .i64 x ∧ gv = .slice A' gm.length c' ∧ posB ⟨w, h, s⟩ x = true ∧ 0 < V x ∧ gm ++ gameG V ls r x 0 = G ∧ gm.length + popc x ≤ 16 ∧ wr.ownsRow W.heap.size 34 3 (.slice A' gm.length c') gm.length (flat gm) ∧ (∀ g, (Value.slice A' gm.length c').ownBlock = some g → g = W.heap.size + 1 ∨ w3.heap.size ≤ g) ∧ w3.grownBy wr (some (W.heap.size + 1))) (fun pv _ _ => popc (intOf pv).toNat)
  case atStart => exact ⟨q, _, _, [], rfl, rfl, HP.out, HWP.out _ HLD.out, HGE.out, by have := (HPS.out q HP.out).2; simpa using this, by have := HO3.out; simpa [flat_nil] using this, fun g hg => by injection hg with hg; left; simpa using hg.symm, World.grownBy.refl _ _⟩
  case round =>
    obtain ⟨x, A', c', gm, rfl, rfl, hxP, hiV, hcat, hlen, own, hblk, hgr⟩ := hrel
    have HGR := Lib.hid hgr
    have HCAT := Lib.hid hcat
    have HOWN := Lib.hid own
    have HBLK := Lib.hid hblk
    have HXP := Lib.hid hxP
    have hsz := hgr.size
    have hxN := (HPS.out x hxP).1
    have x63 : B63 x := by unfold B63; omega
    have hxi : I64 (x : Int) := by unfold I64; omega
    clear hcat own hblk
    by_cases hxr : x = r
    · have HG0 : Hid (gm = G) := Lib.hid (by have := HCAT.out; subst hxr; rw [gameG_end, List.append_nil] at this; exact this)
      have hxb : ((x : Int) != (r : Int)) = false := by simp; omega
      have HBE := Lib.hid (hw3.grown hgr hw3.size (fun k hk => by injection hk with hk; omega))
      clear hxr
      go_wp2
      refine bodyPost_ret (v := .tuple #[.slice A' gm.length c', .bool true]) (by simp [results, Try.results88, go_sem]) rfl ⟨A', c', by rw [← HG0.out], by rw [← HG0.out]; exact HOWN.out, HBE.out⟩
    · have hxb : ((x : Int) != (r : Int)) = true := by simp; omega
      obtain ⟨lp, jp, hpick, hlp, hcp, hjp⟩ := pick_some (W := V) (p := x) ls 0 (by rw [← HWS.out x hxr]; exact hiV)
      have HNEXT := Lib.hid (gameG_next HLS.out (g := r) hxr hpick hlp hcp)
      have HPOP := Lib.hid (popc_jump (HLS.out lp hlp) hcp)
      obtain ⟨fl, hfl⟩ : ∃ fl, ls.filter (canJ x) = fl := ⟨_, rfl⟩
      have HPICK : Hid (pickG V x fl 0 = some (lp, jp)) := Lib.hid (by rw [← hfl, pick_filter]; exact hpick)
      have HI0 : Hid (0 < sumG V x fl) := Lib.hid (by rw [← hfl, sumG_filter, ← HWS.out x hxr]; exact hiV)
      have HFM : Hid (∀ l ∈ fl, l ∈ ls ∧ canJ x l = true) := Lib.hid fun l hl => by rw [← hfl] at hl; exact List.mem_filter.1 hl
      have hfle : fl.length ≤ ls.length := by rw [← hfl]; exact List.length_filter_le _ _
      have HJF : Hid (jumpsL ⟨w, h, s⟩ x = fl) := Lib.hid ((HJL.out x hxP).trans hfl)
      have d0 : wr.cell? ⟨W.heap.size, 0, none⟩ = some (.int .i64 w) := (World.cell?_of_block (a := ⟨W.heap.size, 0, none⟩) (hgr.block _ z0 (show some W.heap.size ≠ some (W.heap.size + 1) by simp))).trans c0
      have d1 : wr.cell? ⟨W.heap.size, 1, none⟩ = some (.int .i64 h) := (World.cell?_of_block (a := ⟨W.heap.size, 1, none⟩) (hgr.block _ z0 (show some W.heap.size ≠ some (W.heap.size + 1) by simp))).trans c1
      have d2 : wr.cell? ⟨W.heap.size, 2, none⟩ = some (.int .i64 s) := (World.cell?_of_block (a := ⟨W.heap.size, 2, none⟩) (hgr.block _ z0 (show some W.heap.size ≠ some (W.heap.size + 1) by simp))).trans c2
      have hzr : W.heap.size < wr.heap.size := by omega
      have HTR : Hid (∀ y v, bs[y]? = some v → wr.cell? ⟨tb, toff + y, none⟩ = some (.bool v)) := Lib.hid (fun y v hv => (World.cell?_of_block (a := ⟨tb, toff + y, none⟩) (hgr.block _ htb (show some tb ≠ some (W.heap.size + 1) from fun e => by injection e with e; omega))).trans (HTC.out y v hv))
      have htr : tb < wr.heap.size := by omega
      have HOLT : Hid (∀ g, (Value.slice A' gm.length c').ownBlock = some g → g < wr.heap.size) := Lib.hid fun g hg => (HOWN.out.lt g hg).2
      clear hxr hpick hlp hcp hjp hiV hfl
      go_wp2_with fail
      refine (sJumpsOfL_ ⟨w, h, s⟩ x hxi _).mono ?_
      rintro e w5 ⟨AL, cL, rfl, rdl, hb5, hlo5⟩
      rw [HJF.out] at rdl ⊢
      have HRL := Lib.hid rdl
      have HLO := Lib.hid hlo5
      have HG5 := Lib.hid (hgr.trans (grown_below hb5 (some (W.heap.size + 1))))
      have HO5 := Lib.hid (own_next HOWN.out hb5)
      have HT5 : Hid (∀ y v, bs[y]? = some v → w5.cell? ⟨tb, toff + y, none⟩ = some (.bool v)) := Lib.hid (fun y v hv => (hb5.cell (p := ⟨tb, toff + y, none⟩) htr).trans (HTR.out y v hv))
      have htz5 : tb < w5.heap.size := by have := hb5.size; omega
      have hs5 := HG5.out.size
      clear rdl hb5 hgr d0 d1 d2 hlo5
      go_wp2_with fail
      go_loopw [1, 8, 11] (fun pv gv kv wx => ∃ k : Nat, pv = .int .i64 x ∧ gv = .slice A' gm.length c' ∧ k ≤ fl.length ∧ kv = .int .i64 k ∧ pickG V x (fl.drop k) 0 = some (lp, jp) ∧ 0 < sumG V x (fl.drop k) ∧ Below w5.heap.size w5 wx) (fun _ _ kv _ => fl.length - (intOf kv).toNat)
      case atStart => exact ⟨0, rfl, rfl, Nat.zero_le _, rfl, HPICK.out, HI0.out, Below.refl _ _⟩
      case round =>
        obtain ⟨k, rfl, rfl, hk, rfl, hpk, hiks, hwk⟩ := hrel
        have HPK := Lib.hid hpk
        have HIK := Lib.hid hiks
        have hsk := hwk.size
        clear hpk hiks
        by_cases hkl : k < fl.length
        · obtain ⟨bb, off, l, rfl, hbl, hl, x0, x1, x2⟩ := (HRL.out.next hwk).line hkl
          have hbb : _ ≤ bb := HLO.out _ rfl
          have hlf := HFM.out l (List.mem_of_getElem? hl)
          have HHT := Lib.hid (fun (hi : 0 < V (flip x l)) => pick_hit (W := V) hl hlf.2 hi)
          have HOV := Lib.hid (fun (hi : ¬ 0 < V (flip x l)) => pick_over (W := V) hl hlf.2 hi)
          have hQR := HCL.out x HXP.out l hlf.1 hlf.2
          obtain ⟨f, o, t, rfl, f1, o1, t1', hft, hot, hfo⟩ := HLS.out l hlf.1
          have k0 : (0 : Int) ≤ (k : Int) := by omega
          have k1 : (k : Int) < (fl.length : Int) := by omega
          have hQN := (HPS.out _ hQR).1
          have HQM := Lib.hid hQR
          have l63 : B63 (lbits ⟨f, o, t⟩) := by simp only [lbits, Int.toNat_natCast]; exact b63_or (b63_or (b63_pow2 (by omega)) (b63_pow2 (by omega))) (b63_pow2 (by omega))
          have b3 := i64_xor x (lbits ⟨f, o, t⟩) x63 l63
          rw [show x ^^^ lbits ⟨f, o, t⟩ = flip x ⟨f, o, t⟩ from rfl] at b3
          generalize hLB : lbits ⟨f, o, t⟩ = LB at b3
          have HLB := Lib.hid hLB
          obtain ⟨Q, hQ⟩ : ∃ Q, flip x ⟨f, o, t⟩ = Q := ⟨_, rfl⟩
          rw [hQ] at hQN HQM HHT HOV b3
          have HQ := Lib.hid hQ
          have hQv := HGD.out Q hQN
          have tc := (hwk.cell (p := ⟨tb, toff + Q, none⟩) htz5).trans (HT5.out Q _ hQv)
          have htz : tb < wr.heap.size := by omega
          have q0 : (0 : Int) ≤ (Q : Int) := by omega
          have q1 : (Q : Int) < (N : Int) := by omega
          clear hl hft hot hfo hQ hQR hlf hLB l63 hQv
          go_wp2_with fail
          refine (isI_ (l05Bits_ f o t (by omega) (by omega) (by omega) _) (congrArg Int.ofNat HLB.out)).mono ?_
          rintro e w7 ⟨rfl, hb7⟩
          have tc7 := (hb7.cell (p := ⟨tb, toff + Q, none⟩) htz).trans tc
          have htz7 : tb < w7.heap.size := by have := hb7.size; omega
          have s0 := (hb7.cell (p := ⟨bb, off + k * 3, none⟩) hbl).trans x0
          have s1 := (hb7.cell (p := ⟨bb, off + k * 3 + 1, none⟩) hbl).trans x1
          have s2 := (hb7.cell (p := ⟨bb, off + k * 3 + 2, none⟩) hbl).trans x2
          have hbl7 : bb < w7.heap.size := by have := hb7.size; omega
          have hw7 : Below w5.heap.size w5 w7 := hwk.trans (hb7.mono hsk)
          have hs7 := hw7.size
          have HO7 := Lib.hid (own_next HO5.out hw7)
          have HG7 := Lib.hid (HG5.out.trans (grown_below hw7 (some (W.heap.size + 1))))
          have HA7 := Lib.hid ((Below.refl w7.heap.size w7).alloc (Nat.le_refl _) (.cells #[.int .i64 f, .int .i64 o, .int .i64 t] 34))
          clear tc x0 x1 x2
          by_cases h6 : 0 < V Q
          · have hdt : decide (0 < V Q) = true := by simpa using h6
            rw [hdt] at tc7
            have HEQ := Lib.hid (HHT.out h6)
            have HLJ : Hid (lp = ⟨f, o, t⟩ ∧ jp = 0) := Lib.hid (by have := HPK.out; rw [HEQ.out] at this; injection this with this; injection this with a c; exact ⟨a.symm, c.symm⟩)
            have hgl : gm.length ≤ 16 := by omega
            have HV6 := Lib.hid h6
            clear h6 hdt
            go_wp2_with (first
              | (at_builtin; refine wpList_append_own_at _ rfl (.tmp 44) (.tmp 49) 24 rfl W.heap.size 34 i0 _ 3 24 Try.underlying24 hi0 hz0 hz1 hz2 rfl (by decide) _ _ _ rfl (HO7.out.alloc _) ⟨w7.heap.size, 0, none⟩ 1 1 [.int .i64 f, .int .i64 o, .int .i64 t] rfl rfl (World.news_of_block (cs := #[.int .i64 f, .int .i64 o, .int .i64 t]) (t := 34) (fr := (0, 0)) (heap_alloc_new w7 _)) (by intro u hu; simp at hu; rcases hu with rfl | rfl | rfl <;> rfl) (by unfold maxLen; omega) (by omega) (by simp; omega) ?_; intro v8 w8 own8 hg8 hnil8 hat8; have s80 := (World.cell?_of_block (a := ⟨bb, off + k * 3, none⟩) (hg8.block bb (by simp; omega) (fun e => by have := HOLT.out bb e.symm; omega))).trans ((HA7.out.cell (p := ⟨bb, off + k * 3, none⟩) hbl7).trans s0); have s81 := (World.cell?_of_block (a := ⟨bb, off + k * 3 + 1, none⟩) (hg8.block bb (by simp; omega) (fun e => by have := HOLT.out bb e.symm; omega))).trans ((HA7.out.cell (p := ⟨bb, off + k * 3 + 1, none⟩) hbl7).trans s1); have s82 := (World.cell?_of_block (a := ⟨bb, off + k * 3 + 2, none⟩) (hg8.block bb (by simp; omega) (fun e => by have := HOLT.out bb e.symm; omega))).trans ((HA7.out.cell (p := ⟨bb, off + k * 3 + 2, none⟩) hbl7).trans s2); have hbl8 : bb < w8.heap.size := Nat.lt_of_lt_of_le hbl7 (Nat.le_trans (by simp) hg8.size)))
            obtain ⟨A8, c8, hv8⟩ := own_value own8
            subst hv8
            have HO8 := Lib.hid own8
            have hs8 := hg8.size
            have HG8 := Lib.hid (grown_or (grown_alloc HG7.out (.cells #[.int .i64 f, .int .i64 o, .int .i64 t] 34)) hg8 (fun g hg => by
              rcases HBLK.out g hg with e | e
              · left; rw [e]
              · right; exact e))
            have HB8 : Hid (∀ g, (Value.slice A8 (gm.length + 1) c8).ownBlock = some g → g = W.heap.size + 1 ∨ w3.heap.size ≤ g) := Lib.hid (fun g hg => by
              rcases hat8 with e | e
              · exact HBLK.out g (e.symm.trans hg)
              · rw [e] at hg; injection hg with hg; right; simp at hg; omega)
            clear own8 hg8 hnil8 hat8
            go_wp2_with fail
            refine (isI_ (l05Bits_ f o t (by omega) (by omega) (by omega) _) (congrArg Int.ofNat HLB.out)).mono ?_
            rintro e w9 ⟨rfl, hb9⟩
            have HO9 := Lib.hid (own_next HO8.out hb9)
            have HG9 := Lib.hid (HG8.out.trans (grown_below hb9 (some (W.heap.size + 1))))
            clear hb9
            go_wp2
            go_roundw
            case rel => exact ⟨Q, A8, c8, gm ++ [⟨f, o, t⟩], by go_num, by simp, HQM.out, HV6.out, by
              have := HCAT.out
              rw [HNEXT.out, HLJ.out.1, HLJ.out.2, HQ.out] at this
              simpa using this, by have := HPOP.out; rw [HLJ.out.1, HQ.out] at this; simp; omega, by rw [flat_append]; simpa [flat, lnC] using HO9.out, by simpa using HB8.out, HG9.out⟩
            case measure => have := HPOP.out; rw [HLJ.out.1, HQ.out] at this; simp [intOf]; omega
          · have hdt : decide (0 < V Q) = false := by simpa using h6
            rw [hdt] at tc7
            have HEQ := Lib.hid (HOV.out h6)
            have HV0 : Hid (V Q = 0) := Lib.hid (by omega)
            clear h6 hdt
            go_wp2
            go_roundw
            case rel => exact ⟨k + 1, rfl, rfl, by omega, by go_num, by have := HEQ.out.1; rw [HV0.out] at this; rw [← this]; exact HPK.out, by have := HEQ.out.2 HIK.out; rw [HV0.out] at this; exact this, hw7⟩
            case measure => simp [intOf]; omega
        · have e : k = fl.length := by omega
          subst e
          have := HIK.out
          rw [sumG_end] at this
          omega
end Go.Proofs.Ytbcgokpamhgabaa

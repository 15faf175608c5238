/- The contract of the reference's GameAt. -/
import Derived.Test.YtliljgmpdfdakaaChecked
import Derived.Test.YtliljgmpdfdakaaMem
import Derived.Tactics
import Derived.Tactics2
import Derived.WalkKit
import Derived.WalkSpells
import Derived.WalkLawsBesides
import Derived.Deep.QuietTactic
import Derived.BigQuiet
import Derived.BigGuardPart
import Derived.Lib.QuietBelow
import Derived.OwnWalk
import Derived.KernelRfl
import Derived.Test.YtliljgmpdfdakaaGameAt
import Derived.Test.YtliljgmpdfdakaaGame
set_option linter.unusedVariables false
set_option maxRecDepth 20000
namespace Go.Proofs.Ytliljgmpdfdakaa
open Go.RowKit Go.Sort

theorem grown_or {a b c : World} {row row2 : Option Nat} (h : a.grownBy b row) (k : b.grownBy c row2) (hr : ∀ g, row2 = some g → some g = row ∨ a.heap.size ≤ g) : a.grownBy c row :=
  ⟨k.os.trans h.os, k.tape.trans h.tape, k.output.trans h.output, Nat.le_trans h.size k.size, fun i hi hne => (k.block i (Nat.lt_of_lt_of_le hi h.size) (fun e => by
    rcases hr i e.symm with h1 | h1
    · exact hne h1
    · omega)).trans (h.block i hi hne)⟩
theorem gameL_le (b : Ln) (p g n : Int) : (gameL b p g n).length ≤ 50 := by
  unfold gameL
  split
  · have h1 : popc p.toNat ≤ 49 := by
      have := List.length_filter_le p.toNat.testBit (List.range 49)
      simpa [popc, bitsOf] using this
    exact Nat.le_trans (gameN_le _ _ _ _ _ _) (by omega)
  · simp
set_option maxHeartbeats 3000000 in
theorem sGameAt_ (b : Ln) (p g n : Int) (hp : I64 p) (hg : I64 g) (hn : I64 n) (W : World) :
    Calls Try.prog 20 #[.agg #[.int .i64 b.f, .int .i64 b.o, .int .i64 b.t], .int .i64 p, .int .i64 g, .int .i64 n] W (GivesSliceB W 51 3 (gameL b p g n).length (flat (gameL b p g n)) (gameB b p g n)) := by
  obtain ⟨i0, hi0, hz0, hz1, hz2⟩ := info_parts infoLine
  have hcb := cntG_nat (b := b) (p := p) (g := g)
  rcases Bool.eq_false_or_eq_true (gameB b p g n) with hO | hO
  · have hPG := gameB_pair hO
    have hPG' := hPG
    simp only [pairB, Bool.and_eq_true] at hPG'
    obtain ⟨⟨hS, hP⟩, hG⟩ := hPG'
    obtain ⟨w, h, s, rfl, hb, h16, s16⟩ := smallB_nat hS
    obtain ⟨q, rfl, hq⟩ := posB_nat hP
    obtain ⟨r, rfl, hr⟩ := posB_nat hG
    have hI := inB_iff.1 hO
    obtain ⟨m, rfl⟩ := Int.eq_ofNat_of_zero_le hI.1
    have hql := posB_lt hb hq
    have hF49 := lsFo_of hb
    have HFEW := Lib.hid (few_of hb)
    have HPS : Hid (∀ x, x < 2 ^ (w * h) → popc x ≤ 16) := Lib.hid fun x hx => popc_small h16 hx
    have HCN : Hid (cntG ⟨w, h, s⟩ q r = (waysN (linesL ⟨w, h, s⟩) r (-1) q : Nat)) := Lib.hid (by
      rw [cntG, hPG, if_pos rfl, Int.toNat_natCast, ways_nat (few_of hb) hF49 r (-1) (HPS.out q hql)])
    have HGL : Hid (gameL ⟨w, h, s⟩ q r m = gameG (waysN (linesL ⟨w, h, s⟩) r (-1)) (linesL ⟨w, h, s⟩) r q m) := Lib.hid (by simp [gameL, hO])
    have HCL : Hid (∀ x ∈ reachL ⟨w, h, s⟩ q false, x < 2 ^ (w * h) ∧ ∀ l ∈ linesL ⟨w, h, s⟩, canJ x l = true → flip x l ∈ reachL ⟨w, h, s⟩ q false) := Lib.hid fun x hx => by
      have hx' := (reachL_mem hS hP x).1 hx
      refine ⟨?_, fun l hl hc => (reachL_mem hS hP _).2 (bfs_closed (back := false) hql (stays_of hb) hx' hl hc)⟩
      have := (List.getElem?_eq_some_iff.1 hx').1
      rw [bfs, (bst_inv hql (stays_of hb) _).len] at this
      exact this
    have HSELF := Lib.hid (reach_self hb hS hP hql)
    have HPO : Hid (∀ x ∈ reachL ⟨w, h, s⟩ q false, posB ⟨w, h, s⟩ x = true) := Lib.hid fun x hx => reach_pos hx
    have HJL : Hid (∀ x : Nat, posB ⟨w, h, s⟩ x = true → jumpsL ⟨w, h, s⟩ x = (linesL ⟨w, h, s⟩).filter (canJ x)) := Lib.hid fun x hx => jumpsL_yes hx
    have HTB := Lib.hid (fun W' => l22Ways_ w h s q r (-1) hS hP W')
    have HST := Lib.hid (stays_of hb)
    have HLS := Lib.hid hF49
    have hle := linesL_le ⟨w, h, s⟩
    have hN1 : 2 ^ (w * h) ≤ 65536 := Nat.pow_le_pow_right (n := 2) (j := 16) (by omega) h16
    have hwrap : cntG ⟨w, h, s⟩ q r - 1 ≤ 4611686018427387904 := by omega
    have hmlt : m < waysN (linesL ⟨w, h, s⟩) r (-1) q := by have := HCN.out; rw [this] at hI; omega
    have hIB : inB (m : Int) 0 (((waysN (linesL ⟨w, h, s⟩) r (-1) q : Nat) : Int) - 1) = true := by rw [← HCN.out]; exact hO
    rw [HCN.out] at hcb
    have HGB := Lib.hid hO
    obtain ⟨ls, hls⟩ : ∃ ls, linesL ⟨w, h, s⟩ = ls := ⟨_, rfl⟩
    rw [hls] at HCN HGL HCL HST HLS HFEW hle hmlt hIB hcb HJL HTB
    have HL := Lib.hid hls
    obtain ⟨R, hR⟩ : ∃ R, reachL ⟨w, h, s⟩ q false = R := ⟨_, rfl⟩
    rw [hR] at HCL HSELF HPO HTB
    obtain ⟨N, hN⟩ : ∃ N, 2 ^ (w * h) = N := ⟨_, rfl⟩
    rw [hN] at HST HCL hN1 HPS HTB
    have HWL : Hid (∀ x ∈ R, ways ls r (-1) x = (waysN ls r (-1) x : Nat) ∧ waysN ls r (-1) x ≤ 4611686018427387904) := Lib.hid fun x hx => by
      have := HPS.out x (HCL.out x hx).1
      exact ⟨ways_nat HFEW.out HLS.out r (-1) this, waysN_le HFEW.out HLS.out r (-1) this⟩
    have HWS : Hid (∀ x : Nat, x ≠ r → waysN ls r (-1) x = sumG (waysN ls r (-1)) x ls) := Lib.hid fun x hx => waysN_sum HLS.out (by omega)
    obtain ⟨V, hV⟩ : ∃ V, waysN ls r (-1) = V := ⟨_, rfl⟩
    rw [hV] at HCN HGL HWL HWS hmlt hIB hcb
    have hvq : V q ≤ 4611686018427387904 := by omega
    obtain ⟨G, hGe⟩ : ∃ G, gameG V ls r q m = G := ⟨_, rfl⟩
    rw [hGe] at HGL
    have HGE := Lib.hid hGe
    obtain ⟨vq, hvqe⟩ : ∃ x, V q = x := ⟨_, rfl⟩
    rw [hvqe] at HCN hIB hvq
    have HMLT := Lib.hid hmlt
    have hvq1 : 1 ≤ vq := by omega
    clear hls hR hN hql hV hGe hO hPG hS hP hG hq hr hI hF49 hwrap hcb hmlt hvqe
    obtain ⟨F, hFF⟩ : ∃ F, ways ls r (-1) = F := ⟨_, rfl⟩
    rw [hFF] at HTB HWL
    clear hFF
    go_enter Try.func20, Try.ntmps20
    have HLIT := Lib.hid (World.ownsRow_lit (base := W.heap.size) (e := 51) (size := 3) (W.alloc (.cells #[.int .i64 w, .int .i64 h, .int .i64 s] 25)) #[] 0 (by simp) (by simp [maxLen]) rfl)
    go_wp2_with fail
    refine (isI_ (sCountGames_ ⟨w, h, s⟩ q r hp hg _) HCN.out).mono ?_
    rintro e w1 ⟨rfl, hb1⟩
    obtain ⟨hc, hf⟩ := bcell hb1
    have z0 : W.heap.size < w1.heap.size := by have := hb1.size; (try simp at this); omega
    have hw1 : Below W.heap.size W w1 := below_step (((Below.refl _ _).alloc (Nat.le_refl _) _).alloc (by simp) _) hb1 (by (try simp); try omega)
    have c0 : w1.cell? ⟨W.heap.size, 0, none⟩ = some (.int .i64 w) := by rw [hc _ _ (by simp; try omega)]; simp [go_sem]
    have c1 : w1.cell? ⟨W.heap.size, 1, none⟩ = some (.int .i64 h) := by rw [hc _ _ (by simp; try omega)]; simp [go_sem]
    have c2 : w1.cell? ⟨W.heap.size, 2, none⟩ = some (.int .i64 s) := by rw [hc _ _ (by simp; try omega)]; simp [go_sem]
    clear hc hf
    have HO1 := Lib.hid (own_next HLIT.out hb1)
    have hzo1 : W.heap.size + 1 < w1.heap.size := by have := hb1.size; (try simp at this); omega
    go_wp2_with fail
    refine (is_ (l01In_ _ _ _ _) hIB).mono ?_
    rintro e w' ⟨rfl, rfl⟩
    go_wp2_with fail
    refine (HTB.out _).mono ?_
    rintro e w3 ⟨AT, cT, out, rfl, hol, hrw, ownT, hb3⟩
    replace c0 := (hb3.cell (p := ⟨W.heap.size, 0, none⟩) z0).trans c0
    replace c1 := (hb3.cell (p := ⟨W.heap.size, 1, none⟩) z0).trans c1
    replace c2 := (hb3.cell (p := ⟨W.heap.size, 2, none⟩) z0).trans c2
    replace z0 : W.heap.size < (w3).heap.size := by have := hb3.size; omega
    have hw3 := below_next hw1 hb3
    have HO3 := Lib.hid (own_next HO1.out hb3)
    have HRW := Lib.hid hrw
    have hN0 : 0 < N := by have := (HCL.out q HSELF.out).1; omega
    obtain ⟨tb, toff, hAT, htb, htc⟩ : ∃ b off, AT = some ⟨b, off, none⟩ ∧ b < w3.heap.size ∧ ∀ y v, out[y]? = some v → w3.cell? ⟨b, off + y, none⟩ = some (.int .i64 v) := by
      obtain ⟨b, off, hA, hb, hc⟩ := rd_of_own ownT (by rw [ints_length, hol]; exact hN0)
      exact ⟨b, off, hA, hb, fun y v hv => hc y _ (by simp [ints, hv])⟩
    have htb1 : w1.heap.size ≤ tb := by
      have := ownT.lt tb (by rw [hAT]; rfl)
      omega
    subst hAT
    have HTC := Lib.hid htc
    have hz3 := hb3.size
    have hsz3 : W.heap.size + 1 < w3.heap.size := by omega
    clear hb3 hrw ownT hol htc hb1
    go_wp2_with fail
    go_loopw [1, 3, 10] (fun pv iv gv wr => ∃ (x i : Nat) (A' : Option Addr) (c' : Nat) (gm : List Ln), pv = .int .i64 x ∧ iv = .int .i64 i ∧ gv = .slice A' gm.length c' ∧ x ∈ R ∧ i < V x ∧ gm ++ gameG V ls r x i = G ∧ gm.length + popc x ≤ 16 ∧ wr.ownsRow W.heap.size 51 3 (.slice A' gm.length c') gm.length (flat gm) ∧ (∀ g, (Value.slice A' gm.length c').ownBlock = some g → g = W.heap.size + 1 ∨ w3.heap.size ≤ g) ∧ w3.grownBy wr (some (W.heap.size + 1))) (fun pv _ _ _ => popc (intOf pv).toNat)
    case atStart => exact ⟨q, m, _, _, [], rfl, rfl, rfl, HSELF.out, HMLT.out, HGE.out, by have := HPS.out q (HCL.out q HSELF.out).1; simpa using this, by have := HO3.out; simpa [flat_nil] using this, fun g hg => by injection hg with hg; left; simpa using hg.symm, World.grownBy.refl _ _⟩
    case round =>
      obtain ⟨x, i, A', c', gm, rfl, rfl, rfl, hxR, hiV, hcat, hlen, own, hblk, hgr⟩ := hrel
      have HGR := Lib.hid hgr
      have HCAT := Lib.hid hcat
      have HOWN := Lib.hid own
      have HBLK := Lib.hid hblk
      have HXR := Lib.hid hxR
      have hsz := hgr.size
      have hxN := (HCL.out x hxR).1
      have x63 : B63 x := by unfold B63; omega
      have hxi : I64 (x : Int) := by unfold I64; omega
      have hiL := (HWL.out x hxR).2
      clear hcat own hblk
      by_cases hxr : x = r
      · have HG0 : Hid (gm = G) := Lib.hid (by have := HCAT.out; subst hxr; rw [gameG_end, List.append_nil] at this; exact this)
        have hxb : ((x : Int) != (r : Int)) = false := by simp; omega
        have HBE := Lib.hid (hw3.grown hgr hw3.size (fun k hk => by injection hk with hk; omega))
        clear hxr
        go_wp2
        refine bodyPost_ret (v := .tuple #[.slice A' gm.length c', .bool true]) (by simp [results, Try.results20, go_sem]) rfl ⟨A', c', by rw [HGL.out, ← HG0.out, HGB.out], by rw [HGL.out, ← HG0.out]; exact HOWN.out, HBE.out⟩
      · have hxb : ((x : Int) != (r : Int)) = true := by simp; omega
        obtain ⟨lp, jp, hpick, hlp, hcp, hjp⟩ := pick_some (W := V) (p := x) ls i (by rw [← HWS.out x hxr]; exact hiV)
        have HJP := Lib.hid hjp
        have HNEXT := Lib.hid (gameG_next HLS.out (g := r) hxr hpick hlp hcp)
        have HPOP := Lib.hid (popc_jump (HLS.out lp hlp) hcp)
        obtain ⟨fl, hfl⟩ : ∃ fl, ls.filter (canJ x) = fl := ⟨_, rfl⟩
        have HPICK : Hid (pickG V x fl i = some (lp, jp)) := Lib.hid (by rw [← hfl, pick_filter]; exact hpick)
        have HI0 : Hid (i < sumG V x fl) := Lib.hid (by rw [← hfl, sumG_filter, ← HWS.out x hxr]; exact hiV)
        have HFM : Hid (∀ l ∈ fl, l ∈ ls ∧ canJ x l = true) := Lib.hid fun l hl => by rw [← hfl] at hl; exact List.mem_filter.1 hl
        have hfle : fl.length ≤ ls.length := by rw [← hfl]; exact List.length_filter_le _ _
        have HJF : Hid (jumpsL ⟨w, h, s⟩ x = fl) := Lib.hid ((HJL.out x (HPO.out x hxR)).trans hfl)
        have hi63 : i ≤ 4611686018427387904 := by omega
        have d0 : wr.cell? ⟨W.heap.size, 0, none⟩ = some (.int .i64 w) := (World.cell?_of_block (a := ⟨W.heap.size, 0, none⟩) (hgr.block _ z0 (show some W.heap.size ≠ some (W.heap.size + 1) by simp))).trans c0
        have d1 : wr.cell? ⟨W.heap.size, 1, none⟩ = some (.int .i64 h) := (World.cell?_of_block (a := ⟨W.heap.size, 1, none⟩) (hgr.block _ z0 (show some W.heap.size ≠ some (W.heap.size + 1) by simp))).trans c1
        have d2 : wr.cell? ⟨W.heap.size, 2, none⟩ = some (.int .i64 s) := (World.cell?_of_block (a := ⟨W.heap.size, 2, none⟩) (hgr.block _ z0 (show some W.heap.size ≠ some (W.heap.size + 1) by simp))).trans c2
        have hzr : W.heap.size < wr.heap.size := by omega
        have HTR : Hid (∀ y v, out[y]? = some v → wr.cell? ⟨tb, toff + y, none⟩ = some (.int .i64 v)) := Lib.hid (fun y v hv => (World.cell?_of_block (a := ⟨tb, toff + y, none⟩) (hgr.block _ htb (show some tb ≠ some (W.heap.size + 1) from fun e => by injection e with e; omega))).trans (HTC.out y v hv))
        have htr : tb < wr.heap.size := by omega
        clear hxr hpick hlp hcp hjp hiV hiL hfl
        go_wp2_with fail
        refine (sJumpsOf_ ⟨w, h, s⟩ x hxi _).mono ?_
        rintro e w5 ⟨AL, cL, rfl, rdl, hb5⟩
        rw [HJF.out] at rdl ⊢
        have HRL := Lib.hid rdl
        have HG5 := Lib.hid (hgr.trans (grown_below hb5 (some (W.heap.size + 1))))
        have HO5 := Lib.hid (own_next HOWN.out hb5)
        have HT5 : Hid (∀ y v, out[y]? = some v → w5.cell? ⟨tb, toff + y, none⟩ = some (.int .i64 v)) := Lib.hid (fun y v hv => (hb5.cell (p := ⟨tb, toff + y, none⟩) htr).trans (HTR.out y v hv))
        have htz5 : tb < w5.heap.size := by have := hb5.size; omega
        have hs5 := HG5.out.size
        clear rdl hb5 hgr d0 d1 d2
        go_wp2_with fail
        go_loopw [1, 3, 10, 13] (fun pv iv gv kv wx => ∃ k ik : Nat, pv = .int .i64 x ∧ gv = .slice A' gm.length c' ∧ k ≤ fl.length ∧ kv = .int .i64 k ∧ iv = .int .i64 ik ∧ ik ≤ i ∧ pickG V x (fl.drop k) ik = some (lp, jp) ∧ ik < sumG V x (fl.drop k) ∧ Below w5.heap.size w5 wx) (fun _ _ _ kv _ => fl.length - (intOf kv).toNat)
        case atStart => exact ⟨0, i, rfl, rfl, Nat.zero_le _, rfl, rfl, Nat.le_refl _, HPICK.out, HI0.out, Below.refl _ _⟩
        case round =>
          obtain ⟨k, ik, rfl, rfl, hk, rfl, rfl, hik, hpk, hiks, hwk⟩ := hrel
          have HPK := Lib.hid hpk
          have HIK := Lib.hid hiks
          have hsk := hwk.size
          clear hpk hiks
          by_cases hkl : k < fl.length
          · obtain ⟨bb, off, l, rfl, hbl, hl, x0, x1, x2⟩ := (HRL.out.next hwk).line hkl
            have hlf := HFM.out l (List.mem_of_getElem? hl)
            have HHT := Lib.hid (fun (hi : ik < V (flip x l)) => pick_hit (W := V) hl hlf.2 hi)
            have HOV := Lib.hid (fun (hi : ¬ ik < V (flip x l)) => pick_over (W := V) hl hlf.2 hi)
            have hQR := (HCL.out x HXR.out).2 l hlf.1 hlf.2
            obtain ⟨f, o, t, rfl, f1, o1, t1', hft, hot, hfo⟩ := HLS.out l hlf.1
            have k0 : (0 : Int) ≤ (k : Int) := by omega
            have k1 : (k : Int) < (fl.length : Int) := by omega
            have hQN := (HCL.out _ hQR).1
            have HWQ := Lib.hid (HWL.out _ hQR)
            have HQM := Lib.hid hQR
            have l63 : B63 (lbits ⟨f, o, t⟩) := by simp only [lbits, Int.toNat_natCast]; exact b63_or (b63_or (b63_pow2 (by omega)) (b63_pow2 (by omega))) (b63_pow2 (by omega))
            have b3 := i64_xor x (lbits ⟨f, o, t⟩) x63 l63
            rw [show x ^^^ lbits ⟨f, o, t⟩ = flip x ⟨f, o, t⟩ from rfl] at b3
            generalize hLB : lbits ⟨f, o, t⟩ = LB at b3
            have HLB := Lib.hid hLB
            have hQv := HRW.out _ hQR
            obtain ⟨Q, hQ⟩ : ∃ Q, flip x ⟨f, o, t⟩ = Q := ⟨_, rfl⟩
            rw [hQ] at hQN HWQ HQM HHT HOV hQv b3
            have HQ := Lib.hid hQ
            rw [HWQ.out.1] at hQv
            obtain ⟨v, hv⟩ : ∃ v, V Q = v := ⟨_, rfl⟩
            rw [hv] at HWQ HHT HOV hQv
            have HV := Lib.hid hv
            have hvle := HWQ.out.2
            have tc := (hwk.cell (p := ⟨tb, toff + Q, none⟩) htz5).trans (HT5.out Q v hQv)
            have htz : tb < wr.heap.size := by omega
            have q0 : (0 : Int) ≤ (Q : Int) := by omega
            have q1 : (Q : Int) < (N : Int) := by omega
            clear hl hft hot hfo hQ hv hQR hlf hLB l63 hQv
            go_wp2_with fail
            refine (isI_ (l05Bits_ f o t (by omega) (by omega) (by omega) _) (congrArg Int.ofNat HLB.out)).mono ?_
            rintro e w7 ⟨rfl, hb7⟩
            have tc7 := (hb7.cell (p := ⟨tb, toff + Q, none⟩) htz).trans tc
            have htz7 : tb < w7.heap.size := by have := hb7.size; omega
            have s0 := (hb7.cell (p := ⟨bb, off + k * 3, none⟩) hbl).trans x0
            have s1 := (hb7.cell (p := ⟨bb, off + k * 3 + 1, none⟩) hbl).trans x1
            have s2 := (hb7.cell (p := ⟨bb, off + k * 3 + 2, none⟩) hbl).trans x2
            have hbl7 : bb < w7.heap.size := by have := hb7.size; omega
            have hw7 : Below w5.heap.size w5 w7 := hwk.trans (hb7.mono hsk)
            have hs7 := hw7.size
            have HO7 := Lib.hid (own_next HO5.out hw7)
            have HG7 := Lib.hid (HG5.out.trans (grown_below hw7 (some (W.heap.size + 1))))
            clear tc x0 x1 x2
            rcases Bool.eq_false_or_eq_true (decide ((ik : Int) < (v : Int))) with h5 | h5
            · have h6 : ik < v := by have := of_decide_eq_true h5; omega
              have HEQ := Lib.hid (HHT.out h6)
              have HLJ : Hid (lp = ⟨f, o, t⟩ ∧ jp = ik) := Lib.hid (by have := HPK.out; rw [HEQ.out] at this; injection this with this; injection this with a c; exact ⟨a.symm, c.symm⟩)
              have hgl : gm.length ≤ 16 := by omega
              go_wp2_with (first
                | (at_builtin; refine wpList_append_own_at _ rfl (.tmp 54) (.tmp 59) 32 rfl W.heap.size 51 i0 _ 3 24 Try.underlying32 hi0 hz0 hz1 hz2 rfl (by decide) _ _ _ rfl (HO7.out.alloc _) ⟨w7.heap.size, 0, none⟩ 1 1 [.int .i64 f, .int .i64 o, .int .i64 t] rfl rfl (World.news_of_block (cs := #[.int .i64 f, .int .i64 o, .int .i64 t]) (t := 51) (fr := (0, 0)) (heap_alloc_new w7 _)) (by intro u hu; simp at hu; rcases hu with rfl | rfl | rfl <;> rfl) (by unfold maxLen; omega) (by omega) (by simp; omega) ?_; intro v8 w8 own8 hg8 hnil8 hat8))
              obtain ⟨A8, c8, hv8⟩ := own_value own8
              subst hv8
              have HO8 := Lib.hid own8
              have hs8 := hg8.size
              have HG8 := Lib.hid (grown_or (grown_alloc HG7.out (.cells #[.int .i64 f, .int .i64 o, .int .i64 t] 51)) hg8 (fun g hg => by
                rcases HBLK.out g hg with e | e
                · left; rw [e]
                · right; exact e))
              have HB8 : Hid (∀ g, (Value.slice A8 (gm.length + 1) c8).ownBlock = some g → g = W.heap.size + 1 ∨ w3.heap.size ≤ g) := Lib.hid (fun g hg => by
                rcases hat8 with e | e
                · exact HBLK.out g (e.symm.trans hg)
                · rw [e] at hg; injection hg with hg; right; simp at hg; omega)
              clear own8 hg8 hnil8 hat8
              go_wp2
              go_roundw
              case rel => exact ⟨Q, ik, A8, c8, gm ++ [⟨f, o, t⟩], by go_num, by go_num, by simp, HQM.out, by rw [HV.out]; exact h6, by
                have := HCAT.out
                rw [HNEXT.out, HLJ.out.1, HLJ.out.2, HQ.out] at this
                simpa using this, by have := HPOP.out; rw [HLJ.out.1, HQ.out] at this; simp; omega, by rw [flat_append]; simpa [flat, lnC] using HO8.out, by simpa using HB8.out, HG8.out⟩
              case measure => have := HPOP.out; rw [HLJ.out.1, HQ.out] at this; simp [intOf]; omega
            · have h6 : ¬ ik < v := by have := of_decide_eq_false h5; omega
              have HEQ := Lib.hid (HOV.out h6)
              have hsubn : ((ik : Int) - (v : Int)) = ((ik - v : Nat) : Int) := by omega
              have HSUB := Lib.hid hsubn
              clear hsubn
              go_wp2
              go_roundw
              case rel => exact ⟨k + 1, ik - v, rfl, rfl, by omega, by go_num, by rw [HSUB.out], by omega, by rw [← HEQ.out.1]; exact HPK.out, HEQ.out.2 HIK.out, hw7⟩
              case measure => simp [intOf]; omega
          · have e : k = fl.length := by omega
            subst e
            have := HIK.out
            rw [sumG_end] at this
            omega
  · have HR : Hid (gameL b p g n = [] ∧ gameB b p g n = false) := Lib.hid ⟨gameL_no hO, hO⟩
    have HCN : Hid (cntG b p g = cntG b p g) := Lib.hid rfl
    have hO' : inB n 0 (cntG b p g - 1) = false := hO
    obtain ⟨cn, hcn⟩ : ∃ x, cntG b p g = x := ⟨_, rfl⟩
    rw [hcn] at hO' hcb
    replace HCN := Lib.hid hcn
    clear hcn hO
    go_enter Try.func20, Try.ntmps20
    have HLIT := Lib.hid (World.ownsRow_lit (base := W.heap.size) (e := 51) (size := 3) (W.alloc (.cells #[.int .i64 b.f, .int .i64 b.o, .int .i64 b.t] 25)) #[] 0 (by simp) (by simp [maxLen]) rfl)
    go_wp2_with fail
    refine (isI_ (sCountGames_ b p g hp hg _) HCN.out).mono ?_
    rintro e w1 ⟨rfl, hb1⟩
    obtain ⟨hc, hf⟩ := bcell hb1
    have z0 : W.heap.size < w1.heap.size := by have := hb1.size; (try simp at this); omega
    have hw1 : Below W.heap.size W w1 := below_step (((Below.refl _ _).alloc (Nat.le_refl _) _).alloc (by simp) _) hb1 (by (try simp); try omega)
    have c0 : w1.cell? ⟨W.heap.size, 0, none⟩ = some (.int .i64 b.f) := by rw [hc _ _ (by simp; try omega)]; simp [go_sem]
    have c1 : w1.cell? ⟨W.heap.size, 1, none⟩ = some (.int .i64 b.o) := by rw [hc _ _ (by simp; try omega)]; simp [go_sem]
    have c2 : w1.cell? ⟨W.heap.size, 2, none⟩ = some (.int .i64 b.t) := by rw [hc _ _ (by simp; try omega)]; simp [go_sem]
    clear hc hf
    have HO1 := Lib.hid (own_next HLIT.out hb1)
    go_wp2_with fail
    refine (is_ (l01In_ _ _ _ _) hO').mono ?_
    rintro e w' ⟨rfl, rfl⟩
    go_wp2
    refine bodyPost_ret (v := .tuple #[.slice (some ⟨W.heap.size + 1, 0, none⟩) 0 0, .bool false]) (by simp [results, Try.results20, go_sem]) rfl ⟨_, _, by rw [HR.out.1, HR.out.2]; rfl, by rw [HR.out.1]; have := HO1.out; simpa [flat_nil] using this, hw1⟩
end Go.Proofs.Ytliljgmpdfdakaa

/- The contract of the reference's SweepGame. -/
import Derived.Test.YtliljgmpdfdakaaChecked
import Derived.Test.YtliljgmpdfdakaaMem
import Derived.Tactics
import Derived.Tactics2
import Derived.WalkKit
import Derived.WalkSpells
import Derived.WalkLawsBesides
import Derived.Deep.QuietTactic
import Derived.BigQuiet
import Derived.BigGuardPart
import Derived.Lib.QuietBelow
import Derived.OwnWalk
import Derived.KernelRfl
import Derived.Test.YtliljgmpdfdakaaSweepS
import Derived.Test.YtliljgmpdfdakaaGame
set_option linter.unusedVariables false
set_option maxRecDepth 20000
namespace Go.Proofs.Ytliljgmpdfdakaa
open Go.RowKit Go.Sort

theorem grown_or {a b c : World} {row row2 : Option Nat} (h : a.grownBy b row) (k : b.grownBy c row2) (hr : ∀ g, row2 = some g → some g = row ∨ a.heap.size ≤ g) : a.grownBy c row :=
  ⟨k.os.trans h.os, k.tape.trans h.tape, k.output.trans h.output, Nat.le_trans h.size k.size, fun i hi hne => (k.block i (Nat.lt_of_lt_of_le hi h.size) (fun e => by
    rcases hr i e.symm with h1 | h1
    · exact hne h1
    · omega)).trans (h.block i hi hne)⟩
set_option maxHeartbeats 1000000 in
theorem sJumpsOfL_ (b : Ln) (p : Int) (hp : I64 p) (W : World) :
    Calls Try.prog 36 #[.agg #[.int .i64 b.f, .int .i64 b.o, .int .i64 b.t], .int .i64 p] W (GivesRdL W (jumpsL b p).length (flat (jumpsL b p))) := by
  obtain ⟨i0, hi, hz0, hz1, hz2⟩ := info_parts infoLine
  have hle := linesL_le b
  have HLS := Lib.hid (lsOk_b b)
  obtain ⟨ls, hls⟩ : ∃ ls, linesL b = ls := ⟨_, rfl⟩
  rw [hls] at HLS hle
  have HL := Lib.hid hls
  clear hls
  rcases Bool.eq_false_or_eq_true (posB b p) with hP | hP
  · obtain ⟨w, h, s, q, rfl, rfl, hb, hq⟩ := posB_open hP
    have q63 := b63_area hb (posB_lt hb hq)
    have HJ : Hid (jumpsL ⟨w, h, s⟩ q = ls.filter (canJ q)) := Lib.hid (by rw [jumpsL_yes hP, HL.out])
    go_enter Try.func36, Try.ntmps36
    go_wp2_with fail
    refine (sLinesOf_ ⟨w, h, s⟩ _).mono ?_
    rintro e W1 ⟨A1, c1, rfl, rd1, hb1⟩
    rw [HL.out] at rd1 ⊢
    obtain ⟨hc, hf⟩ := bcell hb1
    have hz : W.heap.size + 2 ≤ W1.heap.size := by have := hb1.size; simpa using this
    have hW1 : Below W.heap.size W W1 := below_step (((Below.refl _ _).alloc (Nat.le_refl _) _).alloc (by simp) _) hb1 (by simp; omega)
    have b0 : W1.cell? ⟨W.heap.size, 0, none⟩ = some (.int .i64 w) := by rw [hc _ _ (by simp; try omega)]; simp [go_sem]
    have b1 : W1.cell? ⟨W.heap.size, 1, none⟩ = some (.int .i64 h) := by rw [hc _ _ (by simp; try omega)]; simp [go_sem]
    have b2 : W1.cell? ⟨W.heap.size, 2, none⟩ = some (.int .i64 s) := by rw [hc _ _ (by simp; try omega)]; simp [go_sem]
    have hsz0 : W.heap.size < W1.heap.size := by omega
    clear hc hf hb1
    go_wp2_with fail
    go_loopw [5, 7] (fun lv iv wr => ∃ (i : Nat) (A : Option Addr) (c : Nat), i ≤ ls.length ∧ iv = .int .i64 i ∧ lv = .slice A ((ls.take i).filter (canJ q)).length c ∧ Slab wr W1.heap.size (some ⟨W.heap.size + 1, 0, none⟩) 51 3 (.slice A ((ls.take i).filter (canJ q)).length c) ((ls.take i).filter (canJ q)).length (flat ((ls.take i).filter (canJ q))) ∧ Below W1.heap.size W1 wr) (fun _ iv _ => ls.length - (intOf iv).toNat)
    case atStart => exact ⟨0, _, _, Nat.zero_le _, rfl, rfl, slab_zero _ _ _ _ _, Below.refl _ _⟩
    case round =>
      obtain ⟨i, A, c, hi0, rfl, rfl, hsl, hw⟩ := hrel
      have HSL := Lib.hid hsl
      clear hsl
      have hsz := hw.size
      have c0 := (hw.cell (p := ⟨W.heap.size, 0, none⟩) hsz0).trans b0
      have c1' := (hw.cell (p := ⟨W.heap.size, 1, none⟩) hsz0).trans b1
      have c2' := (hw.cell (p := ⟨W.heap.size, 2, none⟩) hsz0).trans b2
      by_cases hlt : i < ls.length
      · obtain ⟨bb, off, l, rfl, hbl, hx, x0', x1', x2'⟩ := rd1.line hlt
        obtain ⟨f, o, t, rfl, f1, o1, t1, hft, hot⟩ := HLS.out l (List.mem_of_getElem? hx)
        have hl0 : ((ls.take i).filter (canJ q)).length ≤ 196 := by
          have := List.length_filter_le (canJ q) (ls.take i)
          simp at this; omega
        have i0' : (0 : Int) ≤ (i : Int) := by omega
        have i1' : (i : Int) < (ls.length : Int) := by omega
        have hbz : bb < wr.heap.size := by omega
        have HF := Lib.hid hft
        have HO := Lib.hid hot
        have H0 : (((q &&& lbits ⟨f, o, t⟩ : Nat) : Int) == ((pow2 f ||| pow2 o : Nat) : Int)) = canJ q ⟨f, o, t⟩ := by
          rw [canJ_and hft hot, Bool.eq_iff_iff]; simp; omega
        have pf := i64_pow f (by omega)
        have po := i64_pow o (by omega)
        have l63 : B63 (lbits ⟨f, o, t⟩) := by simp only [lbits, Int.toNat_natCast]; exact b63_or (b63_or (b63_pow2 (by omega)) (b63_pow2 (by omega))) (b63_pow2 (by omega))
        have a1 := i64_and q (lbits ⟨f, o, t⟩) q63 l63
        have a2 := i64_or (pow2 f) (pow2 o) (b63_pow2 (by omega)) (b63_pow2 (by omega))
        generalize hLB : lbits ⟨f, o, t⟩ = LB at a1 H0
        have HLB := Lib.hid hLB
        clear hLB l63
        rcases Bool.eq_false_or_eq_true (canJ q ⟨f, o, t⟩) with h1 | h1
        · have HX := Lib.hid (filter_yes hx h1)
          rw [h1] at H0
          generalize (ls.take i).filter (canJ q) = L at HSL HX hl0 ⊢
          clear hx hft hot h1
          go_wp2_with fail
          refine (is_ (sPositionOk_ ⟨w, h, s⟩ q hp _) hP).mono ?_
          rintro e w2 ⟨rfl, hb2⟩
          have hw2 := hw.trans (hb2.mono hsz)
          have hx2 := hw2.size
          have y0 := (hw2.cell (p := ⟨bb, off + i * 3, none⟩) hbl).trans x0'
          have y1 := (hw2.cell (p := ⟨bb, off + i * 3 + 1, none⟩) hbl).trans x1'
          have y2 := (hw2.cell (p := ⟨bb, off + i * 3 + 2, none⟩) hbl).trans x2'
          have hbz2 : bb < w2.heap.size := by omega
          have hs2 := HSL.out.next hb2
          have HS2 := Lib.hid hs2
          clear hs2 c0 c1' c2'
          have hc : ∀ (a : Addr) (p : Regrown) (W : World), a.block < W.heap.size → (grow (redrawn W p.d) p.os).cell? a = W.cell? a := fun a p W h => (below_regrown W p.d p.os).cell h
          go_wp2_with fail
          refine wp_region_quiet_below (by kernel_rfl) (by kernel_rfl) ?_
          repeat (go_big_quiet_step (first | (go_at_call 57; exact Calls.regrown_of (isI_ (l05Bits_ f o t (by omega) (by omega) (by omega) _) (congrArg Int.ofNat HLB.out)))))
          refine wpQuiet_nil ?_
          intro w3 hw3
          obtain ⟨p3, hp3⟩ := hw3
          have hb3 := of_rg hp3
          clear hp3 p3
          have hw3 := hw2.trans (hb3.mono hx2)
          have hx3 := hw3.size
          have hs3 := HS2.out.next hb3
          have u0 := (hb3.cell (p := ⟨bb, off + i * 3, none⟩) hbz2).trans y0
          have u1 := (hb3.cell (p := ⟨bb, off + i * 3 + 1, none⟩) hbz2).trans y1
          have u2 := (hb3.cell (p := ⟨bb, off + i * 3 + 2, none⟩) hbz2).trans y2
          clear y0 y1 y2 hc
          go_wp2_with (first | (at_builtin; refine wpList_append_slab _ rfl (.tmp 43) (.tmp 48) 32 rfl W1.heap.size (some ⟨W.heap.size + 1, 0, none⟩) 51 i0 _ 3 24 Try.underlying32 hi hz0 hz1 hz2 rfl (by decide) _ _ _ rfl (hs3.alloc _) ⟨w3.heap.size, 0, none⟩ 1 1 [.int .i64 f, .int .i64 o, .int .i64 t] rfl rfl (cell_three_new _ _ _ _ _ rfl rfl rfl) (by intro u hu; simp at hu; rcases hu with rfl | rfl | rfl <;> rfl) (by omega) (by unfold maxLen; omega) (by omega) (by have := hw3.size; simp; omega) ?_; intro g cap wA ownA hbA))
          have HOA := Lib.hid ownA
          have hwA : Below W1.heap.size W1 wA := (hw3.alloc hx3 _).trans hbA
          clear hs3 ownA u0 u1 u2
          go_wp2
          go_roundw
          case rel => exact ⟨i + 1, some ⟨g, 0, none⟩, cap, by omega, by go_num, by rw [HX.out]; simp, .inl (by rw [HX.out, flat_append, List.length_append]; exact HOA.out), hwA⟩
          case measure => simp [intOf]; omega
        · have HX := Lib.hid (filter_no hx h1)
          rw [h1] at H0
          generalize (ls.take i).filter (canJ q) = L at HSL HX hl0 ⊢
          clear hx hft hot h1
          go_wp2_with fail
          refine (is_ (sPositionOk_ ⟨w, h, s⟩ q hp _) hP).mono ?_
          rintro e w2 ⟨rfl, hb2⟩
          have hw2 := hw.trans (hb2.mono hsz)
          have hx2 := hw2.size
          have y0 := (hw2.cell (p := ⟨bb, off + i * 3, none⟩) hbl).trans x0'
          have y1 := (hw2.cell (p := ⟨bb, off + i * 3 + 1, none⟩) hbl).trans x1'
          have y2 := (hw2.cell (p := ⟨bb, off + i * 3 + 2, none⟩) hbl).trans x2'
          have hbz2 : bb < w2.heap.size := by omega
          have HS2 := Lib.hid (HSL.out.next hb2)
          clear c0 c1' c2'
          have hc : ∀ (a : Addr) (p : Regrown) (W : World), a.block < W.heap.size → (grow (redrawn W p.d) p.os).cell? a = W.cell? a := fun a p W h => (below_regrown W p.d p.os).cell h
          go_wp2_with fail
          refine wp_region_quiet_below (by kernel_rfl) (by kernel_rfl) ?_
          repeat (go_big_quiet_step (first | (go_at_call 57; exact Calls.regrown_of (isI_ (l05Bits_ f o t (by omega) (by omega) (by omega) _) (congrArg Int.ofNat HLB.out)))))
          refine wpQuiet_nil ?_
          intro w3 hw3
          obtain ⟨p3, hp3⟩ := hw3
          have hb3 := of_rg hp3
          clear hp3 p3
          have hw3 := hw2.trans (hb3.mono hx2)
          have hs3 := Lib.hid (HS2.out.next hb3)
          clear y0 y1 y2 hc
          go_wp2
          go_roundw
          case rel => exact ⟨i + 1, A, c, by omega, by go_num, by rw [HX.out], by rw [HX.out]; exact hs3.out, hw3⟩
          case measure => simp [intOf]; omega
      · have e : i = ls.length := by omega
        subst e
        go_wp2
        go_ret
        exact ⟨A, c, ret_slice (by rw [HJ.out, List.take_length]), by rw [HJ.out]; have := rd_of_slab HSL.out; rwa [List.take_length] at this, below_next hW1 hw, HSL.out.lo (B := W.heap.size) hW1.size (fun a ha => by injection ha with ha; subst ha; simp)⟩
  · have HE : Hid (jumpsL b p = []) := Lib.hid (jumpsL_no hP)
    go_enter Try.func36, Try.ntmps36
    go_wp2_with fail
    refine (sLinesOf_ b _).mono ?_
    rintro e W1 ⟨A1, c1, rfl, rd1, hb1⟩
    rw [HL.out] at rd1 ⊢
    obtain ⟨hc, hf⟩ := bcell hb1
    have hz : W.heap.size + 2 ≤ W1.heap.size := by have := hb1.size; simpa using this
    have hW1 : Below W.heap.size W W1 := below_step (((Below.refl _ _).alloc (Nat.le_refl _) _).alloc (by simp) _) hb1 (by simp; omega)
    have b0 : W1.cell? ⟨W.heap.size, 0, none⟩ = some (.int .i64 b.f) := by rw [hc _ _ (by simp; try omega)]; simp [go_sem]
    have b1 : W1.cell? ⟨W.heap.size, 1, none⟩ = some (.int .i64 b.o) := by rw [hc _ _ (by simp; try omega)]; simp [go_sem]
    have b2 : W1.cell? ⟨W.heap.size, 2, none⟩ = some (.int .i64 b.t) := by rw [hc _ _ (by simp; try omega)]; simp [go_sem]
    have hsz0 : W.heap.size < W1.heap.size := by omega
    clear hc hf hb1
    go_wp2_with fail
    go_loopw [5, 7] (fun lv iv wr => iv = .int .i64 0 ∧ lv = .slice (some ⟨W.heap.size + 1, 0, none⟩) 0 0 ∧ wr = W1) (fun _ _ _ => 0)
    case atStart => exact ⟨rfl, rfl, rfl⟩
    case round =>
      obtain ⟨rfl, rfl, rfl⟩ := hrel
      by_cases hlt : 0 < ls.length
      · go_wp2_with fail
        refine (is_ (sPositionOk_ b p hp _) hP).mono ?_
        rintro e w2 ⟨rfl, hb2⟩
        go_wp2
        go_ret
        exact ⟨_, _, ret_slice (by rw [HE.out]; rfl), by rw [HE.out]; exact Rd.nil, below_next hW1 hb2, fun a ha => by injection ha with ha; subst ha; simp⟩
      · have hl0 : ls.length = 0 := by omega
        rw [hl0]
        go_wp2
        go_ret
        exact ⟨_, _, ret_slice (by rw [HE.out]; rfl), by rw [HE.out]; exact Rd.nil, hW1, fun a ha => by injection ha with ha; subst ha; simp⟩
set_option maxHeartbeats 4000000 in
theorem sSweepGame_ (b : Ln) (p g : Int) (hp : I64 p) (hg : I64 g) (W : World) :
    Calls Try.prog 25 #[.agg #[.int .i64 b.f, .int .i64 b.o, .int .i64 b.t], .int .i64 p, .int .i64 g] W (GivesSliceB W 51 3 (sgL b p g).length (flat (sgL b p g)) (leadsB b p g)) := by
  obtain ⟨i0, hi0, hz0, hz1, hz2⟩ := info_parts infoLine
  rcases Bool.eq_false_or_eq_true (leadsB b p g) with hO | hO
  · have hPG := leadsB_pair hO
    simp only [pairB, Bool.and_eq_true] at hPG
    obtain ⟨⟨hS, hP⟩, hG⟩ := hPG
    obtain ⟨w, h, s, rfl, hb, h16, s16⟩ := smallB_nat hS
    obtain ⟨q, rfl, hq⟩ := posB_nat hP
    obtain ⟨r, rfl, hr⟩ := posB_nat hG
    have hql := posB_lt hb hq
    have hrl := posB_lt hb hr
    have hw1' := hb.w1
    have hh1' := hb.h1
    obtain ⟨m1, m2, m3⟩ := area_bounds hb.w1 hb.w7 hb.h1 hb.h7
    have HTAB := Lib.hid (fun W' => l21Least_ w h s q r hO W')
    have HLF : Hid (∀ l ∈ linesL ⟨w, h, s⟩, l.f ≠ (-1 : Int) ∧ l.f ≠ ((w * h : Nat) : Int) ∧ 0 ≤ l.t ∧ l.t < ((w * h : Nat) : Int)) := Lib.hid fun l hl => by
      obtain ⟨f, o, t, k⟩ := linesL_ok hb hl
      have := k.eq
      subst this
      have := k.f1
      have := k.t1
      simp only [ne_eq]
      omega
    have HSELF := Lib.hid (reach_here hb hS hP hql)
    have HGI := Lib.hid (fun (x : Nat) => good_iff (x := x) hb hS hG hrl)
    have hLD := (leadsB_iff hb (leadsB_pair hO) hql).1 hO
    have HLS := Lib.hid (lsFo_of hb)
    have HPGR : Hid (∀ x, goodL (spreadL ⟨w, h, s⟩ r true) x = true → popc r ≤ popc x) := Lib.hid fun x hx => Leads.pop HLS.out ((HGI.out x).1 hx)
    have HGQ : Hid (goodL (spreadL ⟨w, h, s⟩ r true) q = true) := Lib.hid ((HGI.out q).2 hLD)
    have HRN : Hid (∀ x ∈ reachL ⟨w, h, s⟩ q false, x < 2 ^ (w * h)) := Lib.hid fun x hx => posB_small hb (reach_pos hx)
    have HWI : Hid ((w : Int) * (h : Int) = ((w * h : Nat) : Int)) := Lib.hid (by rw [Int.natCast_mul])
    have hN0 : 0 < 2 ^ (w * h) := by omega
    have HGL : Hid (sgL ⟨w, h, s⟩ q r = sgame (linesL ⟨w, h, s⟩) (goodL (spreadL ⟨w, h, s⟩ r true)) r q ((w * h : Nat) : Int)) := Lib.hid (by
      simp only [sgL, hO, if_true, Int.toNat_natCast]
      exact sgame_last HLS.out (fun l hl => (HLF.out l hl).1) (fun l hl => (HLF.out l hl).2.1))
    have HBK := Lib.hid (fun W' => l15Back_ w h s r hS hG W')
    have hbl : (spreadL ⟨w, h, s⟩ r true).length = 2 ^ (w * h) := spreadL_len hS hG hb hrl
    have HRV := Lib.hid (fun (x a : Nat) (hx : goodL (spreadL ⟨w, h, s⟩ r true) x = true) (ha : a ≤ w * h) => (rowV_get (ls := linesL ⟨w, h, s⟩) (good := goodL (spreadL ⟨w, h, s⟩ r true)) (g := r) (q := x) ha).trans (by rw [tabV, hx, if_pos rfl]))
    have HRL := Lib.hid (fun (x : Nat) => rowV_len (linesL ⟨w, h, s⟩) (goodL (spreadL ⟨w, h, s⟩ r true)) r (w * h) x)
    have HCL : Hid (∀ x ∈ reachL ⟨w, h, s⟩ q false, ∀ l ∈ linesL ⟨w, h, s⟩, canJ x l = true → flip x l ∈ reachL ⟨w, h, s⟩ q false) := Lib.hid fun x hx => by
      have hx' := (reachL_mem hS hP x).1 hx
      exact fun l hl hc => (reachL_mem hS hP _).2 (bfs_closed (back := false) hql (stays_of hb) hx' hl hc)
    have HPO : Hid (∀ x ∈ reachL ⟨w, h, s⟩ q false, posB ⟨w, h, s⟩ x = true) := Lib.hid fun x hx => reach_pos hx
    have HJL : Hid (∀ x : Nat, posB ⟨w, h, s⟩ x = true → jumpsL ⟨w, h, s⟩ x = (linesL ⟨w, h, s⟩).filter (canJ x)) := Lib.hid fun x hx => jumpsL_yes hx
    have HPS : Hid (∀ x, x < 2 ^ (w * h) → popc x ≤ 16) := Lib.hid fun x hx => Nat.le_trans (popc_le x hx (by omega)) h16
    have hN1 : 2 ^ (w * h) ≤ 65536 := Nat.pow_le_pow_right (n := 2) (j := 16) (by omega) h16
    have hle := linesL_le ⟨w, h, s⟩
    have HPG := HPGR
    obtain ⟨ls, hls⟩ : ∃ ls, linesL ⟨w, h, s⟩ = ls := ⟨_, rfl⟩
    obtain ⟨bs, hbs⟩ : ∃ x, spreadL ⟨w, h, s⟩ r true = x := ⟨_, rfl⟩
    obtain ⟨R, hR⟩ : ∃ R, reachL ⟨w, h, s⟩ q false = R := ⟨_, rfl⟩
    obtain ⟨N, hN⟩ : ∃ N, 2 ^ (w * h) = N := ⟨_, rfl⟩
    rw [hls, hbs] at HGL HRV HRL
    rw [hls, hbs, hR, hN] at HTAB
    rw [hls] at HLF HLS HGI HJL hle
    rw [hls, hR] at HCL
    rw [hR] at HSELF HRN HPO
    rw [hbs] at HGI HPG HGQ HBK hbl
    rw [hN] at hql hN0 HRN hbl HPS hN1
    obtain ⟨wh, hwh⟩ : ∃ n, w * h = n := ⟨_, rfl⟩
    rw [hwh] at HTAB HGL HRV HRL HWI h16 HLF
    obtain ⟨gd, hgd⟩ : ∃ x, goodL bs = x := ⟨_, rfl⟩
    have HGD := Lib.hid hgd
    rw [hgd] at HTAB HGL HRV HRL HGI HPG HGQ
    have HPOS : Hid (∀ x (a : Int), gd x = true → 0 ≤ swp ls gd r x a) := Lib.hid fun x a hx => swp_pos HLS.out (fun y hy => (HGI.out y).2 hy) ((HGI.out x).1 hx) a
    have HBD := Lib.hid (fun (x : Nat) (a : Int) => swp_bd (ls := ls) HLS.out (good := gd) (g := r) x a)
    have HPICK := Lib.hid (fun (x : Nat) (a : Int) (hx : gd x = true) (hne : x ≠ r) => pickS_some (last := a) HLS.out (good := gd) (g := r) (fun y => (HGI.out y).symm) hx hne)
    obtain ⟨F, hF⟩ : ∃ F, rowV ls gd r wh = F := ⟨_, rfl⟩
    rw [hF] at HTAB HRV
    have HRL' : Hid (∀ x, (F x).length = wh + 1) := Lib.hid (by rw [← hF]; exact HRL.out)
    obtain ⟨G, hGe⟩ : ∃ G, sgame ls gd r q wh = G := ⟨_, rfl⟩
    rw [hGe] at HGL
    have HGE := Lib.hid hGe
    have HLB := Lib.hid hO
    have HBSL := Lib.hid hbl
    clear hLD hS hP hG hq hr hb hF hN hwh hls hbs hR hgd hGe HRL HPGR
    go_enter Try.func25, Try.ntmps25
    have HLIT := Lib.hid (World.ownsRow_lit (base := W.heap.size) (e := 51) (size := 3) (W.alloc (.cells #[.int .i64 w, .int .i64 h, .int .i64 s] 25)) #[] 0 (by simp) (by simp [maxLen]) rfl)
    go_wp2_with fail
    refine (is_ (sCanReach_ ⟨w, h, s⟩ q r hp hg _) hO).mono ?_
    rintro e w1 ⟨rfl, hb1⟩
    obtain ⟨hc, hf⟩ := bcell hb1
    have z0 : W.heap.size < w1.heap.size := by have := hb1.size; (try simp at this); omega
    have hw1 : Below W.heap.size W w1 := below_step (((Below.refl _ _).alloc (Nat.le_refl _) _).alloc (by simp) _) hb1 (by (try simp); try omega)
    have c0 : w1.cell? ⟨W.heap.size, 0, none⟩ = some (.int .i64 w) := by rw [hc _ _ (by simp; try omega)]; simp [go_sem]
    have c1 : w1.cell? ⟨W.heap.size, 1, none⟩ = some (.int .i64 h) := by rw [hc _ _ (by simp; try omega)]; simp [go_sem]
    have c2 : w1.cell? ⟨W.heap.size, 2, none⟩ = some (.int .i64 s) := by rw [hc _ _ (by simp; try omega)]; simp [go_sem]
    clear hc hf
    have HO1 := Lib.hid (own_next HLIT.out hb1)
    have hzo1 : W.heap.size + 1 < w1.heap.size := by have := hb1.size; (try simp at this); omega
    have HNC : Hid (∀ j, w1.cell? ⟨W.heap.size + 1, j, none⟩ = none) := Lib.hid (fun j => (hb1.cell (p := ⟨W.heap.size + 1, j, none⟩) (by simp)).trans (by simp [go_sem]))
    clear hb1
    go_wp2_with fail
    refine (HTAB.out _).mono ?_
    rintro e w3 ⟨AT, cT, vs, rows, rfl, hrl, hrw, hgrd, hb3⟩
    replace c0 := (hb3.cell (p := ⟨W.heap.size, 0, none⟩) z0).trans c0
    replace c1 := (hb3.cell (p := ⟨W.heap.size, 1, none⟩) z0).trans c1
    replace c2 := (hb3.cell (p := ⟨W.heap.size, 2, none⟩) z0).trans c2
    replace z0 : W.heap.size < (w3).heap.size := by have := hb3.size; omega
    have hw3 := below_next hw1 hb3
    have HO3 := Lib.hid (own_next HO1.out hb3)
    have HNC3 : Hid (∀ j, w3.cell? ⟨W.heap.size + 1, j, none⟩ = none) := Lib.hid (fun j => (hb3.cell (p := ⟨W.heap.size + 1, j, none⟩) hzo1).trans (HNC.out j))
    obtain ⟨tb, hA, htr⟩ := tab_reads hgrd hrl hN0 hrw HRL'.out HRN.out
    subst hA
    have HT3 := Lib.hid htr
    have hs3 := hb3.size
    clear hb3 hrl hrw hgrd htr
    go_wp2_with fail
    refine (HBK.out _).mono ?_
    rintro e w4 ⟨AG, cG, rfl, rdg, hb4⟩
    replace c0 := (hb4.cell (p := ⟨W.heap.size, 0, none⟩) z0).trans c0
    replace c1 := (hb4.cell (p := ⟨W.heap.size, 1, none⟩) z0).trans c1
    replace c2 := (hb4.cell (p := ⟨W.heap.size, 2, none⟩) z0).trans c2
    replace z0 : W.heap.size < (w4).heap.size := by have := hb4.size; omega
    have hw4 := below_next hw3 hb4
    have HO4 := Lib.hid (own_next HO3.out hb4)
    have HT4 := Lib.hid (HT3.out.next hb4)
    obtain ⟨gb, goff, hAG, hgb, hgc0⟩ := rd_bool rdg (k := q) (by rw [HBSL.out]; exact hql)
    subst hAG
    have HGC4 : Hid (∀ y, y < N → w4.cell? ⟨gb, goff + y, none⟩ = some (.bool (gd y))) := Lib.hid (fun y hy => by
      obtain ⟨gb', goff', hA', _, hcy⟩ := rd_bool rdg (k := y) (by rw [HBSL.out]; exact hy)
      injection hA' with hA'
      injection hA' with e1 e2
      subst e1 e2
      rw [hcy, ← HGD.out]; rfl)
    have hgne : gb ≠ W.heap.size + 1 := by
      intro e
      subst e
      have := (hb4.cell (p := ⟨W.heap.size + 1, goff + q, none⟩) (show W.heap.size + 1 < w3.heap.size by omega)).trans (HNC3.out _)
      rw [hgc0] at this
      cases this
    have hs4 := hb4.size
    have hsz4 : W.heap.size + 1 < w4.heap.size := by omega
    clear hb4 rdg hgc0
    go_wp2_with fail
    rw [HWI.out]
    go_loopw [1, 8, 11] (fun pv gv lv wr => ∃ (x a : Nat) (A' : Option Addr) (c' : Nat) (gm : List Ln), pv = .int .i64 x ∧ lv = .int .i64 a ∧ gv = .slice A' gm.length c' ∧ x ∈ R ∧ gd x = true ∧ a ≤ wh ∧ gm ++ sgame ls gd r x a = G ∧ gm.length + popc x ≤ 16 ∧ wr.ownsRow W.heap.size 51 3 (.slice A' gm.length c') gm.length (flat gm) ∧ (∀ g, (Value.slice A' gm.length c').ownBlock = some g → g = W.heap.size + 1 ∨ w4.heap.size ≤ g) ∧ w4.grownBy wr (some (W.heap.size + 1))) (fun pv _ _ _ => popc (intOf pv).toNat)
    case atStart => exact ⟨q, wh, _, _, [], rfl, rfl, rfl, HSELF.out, HGQ.out, Nat.le_refl _, HGE.out, by have := HPS.out q hql; simpa using this, by have := HO4.out; simpa [flat_nil] using this, fun g hg => by injection hg with hg; left; simpa using hg.symm, World.grownBy.refl _ _⟩
    case round =>
      obtain ⟨x, a, A', c', gm, rfl, rfl, rfl, hxR, hgx, haw, hcat, hlen, own, hblk, hgr⟩ := hrel
      have HGR := Lib.hid hgr
      have HCAT := Lib.hid hcat
      have HOWN := Lib.hid own
      have HBLK := Lib.hid hblk
      have HXR := Lib.hid hxR
      have HGX := Lib.hid hgx
      have hsz := hgr.size
      have hxN := HRN.out x hxR
      have x63 : B63 x := by unfold B63; omega
      have hxi : I64 (x : Int) := by unfold I64; omega
      clear hcat own hblk hgx
      by_cases hxr : x = r
      · have HG0 : Hid (gm = G) := Lib.hid (by have := HCAT.out; subst hxr; rw [sgame_end, List.append_nil] at this; exact this)
        have hxb : ((x : Int) != (r : Int)) = false := by simp; omega
        have HBE := Lib.hid (hw4.grown hgr hw4.size (fun k hk => by injection hk with hk; omega))
        clear hxr
        go_wp2
        refine bodyPost_ret (v := .tuple #[.slice A' gm.length c', .bool true]) (by simp [results, Try.results25, go_sem]) rfl ⟨A', c', by rw [HGL.out, ← HG0.out, HLB.out], by rw [HGL.out, ← HG0.out]; exact HOWN.out, HBE.out⟩
      · have hxb : ((x : Int) != (r : Int)) = true := by simp; omega
        obtain ⟨lp, hpick, hlp, hcp, hgp, hcost⟩ := HPICK.out x a HGX.out hxr
        have HNEXT := Lib.hid (sgame_next HLS.out (g := r) hxr hpick hlp hcp)
        have HPOP := Lib.hid (popc_jump (HLS.out lp hlp) hcp)
        have hsv0 := HPOS.out x a HGX.out
        have hsvb := (HBD.out x a).2
        have hpx := HPS.out x hxN
        obtain ⟨sv, hsv⟩ : ∃ v, swp ls gd r x a = v := ⟨_, rfl⟩
        obtain ⟨fl, hfl⟩ : ∃ fl, ls.filter (canJ x) = fl := ⟨_, rfl⟩
        have HPK0 : Hid ((fl.drop 0).find? (fun l => costS (swp ls gd r) gd x a l == sv) = some lp) := Lib.hid (by
          rw [List.drop_zero, ← hfl, find_filter ls (fun l _ hc => by
            cases hcj : canJ x l with
            | true => rfl
            | false => rw [cost_no (by rw [hcj]; rfl)] at hc; have := eq_of_beq hc; omega), ← hsv]
          exact hpick)
        have HFM : Hid (∀ l ∈ fl, l ∈ ls ∧ canJ x l = true) := Lib.hid fun l hl => by rw [← hfl] at hl; exact List.mem_filter.1 hl
        have hfle : fl.length ≤ ls.length := by rw [← hfl]; exact List.length_filter_le _ _
        have HJF : Hid (jumpsL ⟨w, h, s⟩ x = fl) := Lib.hid ((HJL.out x (HPO.out x hxR)).trans hfl)
        have HSV : Hid ((F x)[a]? = some sv) := Lib.hid (by rw [HRV.out x a HGX.out haw, hsv])
        rw [hsv] at hsv0 hsvb
        have HT5 := Lib.hid (HT4.out.grown hgr (fun g hg => by injection hg with hg; omega))
        have HGC5 : Hid (∀ y, y < N → wr.cell? ⟨gb, goff + y, none⟩ = some (.bool (gd y))) := Lib.hid (fun y hy => (World.cell?_of_block (a := ⟨gb, goff + y, none⟩) (hgr.block _ hgb (show some gb ≠ some (W.heap.size + 1) from fun e => by injection e with e; exact hgne e))).trans (HGC4.out y hy))
        have hgb5 : gb < wr.heap.size := by omega
        have d0 : wr.cell? ⟨W.heap.size, 0, none⟩ = some (.int .i64 w) := (World.cell?_of_block (a := ⟨W.heap.size, 0, none⟩) (hgr.block _ z0 (show some W.heap.size ≠ some (W.heap.size + 1) by simp))).trans c0
        have d1 : wr.cell? ⟨W.heap.size, 1, none⟩ = some (.int .i64 h) := (World.cell?_of_block (a := ⟨W.heap.size, 1, none⟩) (hgr.block _ z0 (show some W.heap.size ≠ some (W.heap.size + 1) by simp))).trans c1
        have d2 : wr.cell? ⟨W.heap.size, 2, none⟩ = some (.int .i64 s) := (World.cell?_of_block (a := ⟨W.heap.size, 2, none⟩) (hgr.block _ z0 (show some W.heap.size ≠ some (W.heap.size + 1) by simp))).trans c2
        have hzr : W.heap.size < wr.heap.size := by omega
        clear hxr hpick hlp hcp hgp hcost hfl hsv
        go_wp2_with fail
        refine (sJumpsOfL_ ⟨w, h, s⟩ x hxi _).mono ?_
        rintro e w5 ⟨AL, cL, rfl, rdl, hb5, hjl⟩
        rw [HJF.out] at rdl ⊢
        have HRL := Lib.hid rdl
        have HG5 := Lib.hid (hgr.trans (grown_below hb5 (some (W.heap.size + 1))))
        have HO5 := Lib.hid (own_next HOWN.out hb5)
        have HT6 := Lib.hid (HT5.out.next hb5)
        have HGC6 : Hid (∀ y, y < N → w5.cell? ⟨gb, goff + y, none⟩ = some (.bool (gd y))) := Lib.hid (fun y hy => (hb5.cell (p := ⟨gb, goff + y, none⟩) hgb5).trans (HGC5.out y hy))
        have hgb6 : gb < w5.heap.size := by have := hb5.size; omega
        have hs5 := HG5.out.size
        have HNJ : Hid (∀ (gb' : Nat) (ad : Addr), Value.ownBlock (.slice A' gm.length c') = some gb' → AL = some ad → gb' ≠ ad.block) := Lib.hid (fun gb' ad hh ha e => by have h1 := (HOWN.out.lt gb' hh).2; have h2 := hjl ad ha; omega)
        clear rdl hb5 hgr d0 d1 d2 hjl
        go_wp2_with fail
        go_loopw [1, 8, 11, 13] (fun pv gv lv kv wx => ∃ k : Nat, pv = .int .i64 x ∧ gv = .slice A' gm.length c' ∧ lv = .int .i64 a ∧ k ≤ fl.length ∧ kv = .int .i64 k ∧ (fl.drop k).find? (fun l => costS (swp ls gd r) gd x a l == sv) = some lp ∧ Below w5.heap.size w5 wx) (fun _ _ _ kv _ => fl.length - (intOf kv).toNat)
        case atStart => exact ⟨0, rfl, rfl, rfl, Nat.zero_le _, rfl, HPK0.out, Below.refl _ _⟩
        case round =>
          obtain ⟨k, rfl, rfl, rfl, hk, rfl, hpk, hwk⟩ := hrel
          have HPK := Lib.hid hpk
          have hsk := hwk.size
          clear hpk
          by_cases hkl : k < fl.length
          · obtain ⟨bb, off, l, rfl, hbl, hl, x0, x1, x2⟩ := (HRL.out.next hwk).line hkl
            have hlf := HFM.out l (List.mem_of_getElem? hl)
            have HHIT := Lib.hid (fun (h : (costS (swp ls gd r) gd x a l == sv) = true) => findk_hit (P := fun l => costS (swp ls gd r) gd x a l == sv) hl h)
            have HPAST := Lib.hid (fun (h : (costS (swp ls gd r) gd x a l == sv) = false) => findk_past (P := fun l => costS (swp ls gd r) gd x a l == sv) hl h)
            have HCY0 := Lib.hid (fun (h : gd (flip x l) = true) => cost_yes (f := swp ls gd r) (good := gd) (p := x) (last := a) (l := l) (by rw [hlf.2, h]; rfl))
            have HCN0 := Lib.hid (fun (h : gd (flip x l) = false) => cost_no (f := swp ls gd r) (good := gd) (p := x) (last := a) (l := l) (by rw [hlf.2, h]; rfl))
            have hlt := (HLF.out l hlf.1).2.2.2
            have hQR := HCL.out x HXR.out l hlf.1 hlf.2
            obtain ⟨f, o, t, rfl, f1, o1, t1', hft, hot, hfo⟩ := HLS.out l hlf.1
            simp only at hlt
            have htw : t < wh := by omega
            have k0 : (0 : Int) ≤ (k : Int) := by omega
            have k1 : (k : Int) < (fl.length : Int) := by omega
            have hQN := HRN.out _ hQR
            have HQM0 := Lib.hid hQR
            have l63 : B63 (lbits ⟨f, o, t⟩) := by simp only [lbits, Int.toNat_natCast]; exact b63_or (b63_or (b63_pow2 (by omega)) (b63_pow2 (by omega))) (b63_pow2 (by omega))
            have b3 := i64_xor x (lbits ⟨f, o, t⟩) x63 l63
            rw [show x ^^^ lbits ⟨f, o, t⟩ = flip x ⟨f, o, t⟩ from rfl] at b3
            generalize hLB : lbits ⟨f, o, t⟩ = LB at b3
            have HLBB := Lib.hid hLB
            obtain ⟨Q, hQ⟩ : ∃ Q, flip x ⟨f, o, t⟩ = Q := ⟨_, rfl⟩
            rw [hQ] at hQN b3
            have HQ := Lib.hid hQ
            have HQM : Hid (Q ∈ R) := Lib.hid (by rw [← HQ.out]; exact HQM0.out)
            have HCY : Hid (gd Q = true → costS (swp ls gd r) gd x a ⟨f, o, t⟩ = swp ls gd r Q t + (if (f : Int) = (a : Int) then 0 else 1)) := Lib.hid (by rw [← HQ.out]; exact HCY0.out)
            have HCN : Hid (gd Q = false → costS (swp ls gd r) gd x a ⟨f, o, t⟩ = -1) := Lib.hid (by rw [← HQ.out]; exact HCN0.out)
            have q0 : (0 : Int) ≤ (Q : Int) := by omega
            have q1 : (Q : Int) < (N : Int) := by omega
            have q2 : (Q : Int) < (bs.length : Int) := by rw [HBSL.out]; omega
            have p0 : (0 : Int) ≤ (x : Int) := by omega
            have p1 : (x : Int) < (N : Int) := by omega
            have a0' : (0 : Int) ≤ (a : Int) := by omega
            have a1' : (a : Int) < (wh : Int) + 1 := by omega
            clear hl hft hot hfo hQ hQR hlf hLB l63 HCY0 HCN0 HQM0
            go_wp2_with fail
            refine (isI_ (l05Bits_ f o t (by omega) (by omega) (by omega) _) (congrArg Int.ofNat HLBB.out)).mono ?_
            rintro e w7 ⟨rfl, hb7⟩
            have hw7 : Below w5.heap.size w5 w7 := hwk.trans (hb7.mono hsk)
            have x07 := (hb7.cell (p := ⟨bb, off + k * 3, none⟩) hbl).trans x0
            have x17 := (hb7.cell (p := ⟨bb, off + k * 3 + 1, none⟩) hbl).trans x1
            have x27 := (hb7.cell (p := ⟨bb, off + k * 3 + 2, none⟩) hbl).trans x2
            have hbl7 : bb < w7.heap.size := by have := hb7.size; omega
            have HT7 := Lib.hid (HT6.out.next hw7)
            have htb7 := HT7.out.2.1
            have hqc := (hw7.cell (p := ⟨gb, goff + Q, none⟩) hgb6).trans (HGC6.out Q hQN)
            have hgb7 : gb < w7.heap.size := by have := hw7.size; omega
            obtain ⟨xb, xc, hxb1, hxb2, hxc0, hxcs⟩ := HT7.out.2.2 x HXR.out (HPG.out x HGX.out)
            have hxc1 := hxcs a _ HSV.out
            have HBB : Hid (∀ gb' : Nat, Value.ownBlock (.slice A' gm.length c') = some gb' → gb' ≠ bb) := Lib.hid (fun gb' hh => HNJ.out gb' _ hh rfl)
            clear x0 x1 x2 hxcs
            rcases Bool.eq_false_or_eq_true ((f : Int) == (a : Int)) with h3 | h3
            · have hif : (if (f : Int) = (a : Int) then (0 : Int) else 1) = 0 := if_pos (by simpa using h3)
              have HIF := Lib.hid hif
              clear hif
              rcases Bool.eq_false_or_eq_true (gd Q) with h2 | h2
              · rw [h2] at hqc
                have HC := Lib.hid (HCY.out h2)
                obtain ⟨ib, ic, hib, hil, hrc0, hrcs⟩ := HT7.out.2.2 Q HQM.out (HPG.out Q h2)
                have hrc1 := hrcs t _ (HRV.out Q t h2 (by omega))
                have hmv := HPOS.out Q t h2
                have hmb := (HBD.out Q t).2
                have hpQ := HPS.out Q hQN
                generalize swp ls gd r Q t = mv at hrc1 hmv hmb HC
                have t0' : (0 : Int) ≤ (t : Int) := by omega
                have t1' : (t : Int) < (wh : Int) + 1 := by omega
                clear hrcs
                rcases Bool.eq_false_or_eq_true ((mv) == sv) with h5 | h5
                · have HEQ := Lib.hid (HHIT.out (by rw [HC.out, HIF.out, Int.add_zero]; exact h5))
                  have HLJ : Hid (lp = ⟨f, o, t⟩) := Lib.hid (by have := HEQ.out.symm.trans HPK.out; injection this with this; exact this.symm)
                  have HGQ2 := Lib.hid h2
                  have hgl : gm.length ≤ 16 := by omega
                  clear h2
                  have hc : ∀ (a : Addr) (p : Regrown) (W : World), a.block < W.heap.size → (grow (redrawn W p.d) p.os).cell? a = W.cell? a := fun a p W h => (below_regrown W p.d p.os).cell h
                  go_wp2_with fail
                  refine wp_region_quiet_below (by kernel_rfl) (by kernel_rfl) ?_
                  repeat (go_big_quiet_step (fail))
                  refine wpQuiet_nil ?_
                  intro w8 hw8
                  obtain ⟨p8, hp8⟩ := hw8
                  have hb8 := of_rg hp8
                  clear hp8 p8
                  have hb48 : Below w5.heap.size w5 w8 := hw7.trans (hb8.mono hw7.size)
                  have s0 := (hb8.cell (p := ⟨bb, off + k * 3, none⟩) hbl7).trans x07
                  have s1 := (hb8.cell (p := ⟨bb, off + k * 3 + 1, none⟩) hbl7).trans x17
                  have s2 := (hb8.cell (p := ⟨bb, off + k * 3 + 2, none⟩) hbl7).trans x27
                  have hbl8 : bb < w8.heap.size := by have := hb8.size; omega
                  have HO8 := Lib.hid (own_next HO5.out hb48)
                  have HG8 := Lib.hid (HG5.out.trans (grown_below hb48 (some (W.heap.size + 1))))
                  have hs8 := hb48.size
                  have HNB : Hid (∀ gb, Value.ownBlock (.slice A' gm.length c') = some gb → gb ≠ bb) := Lib.hid (fun gb hh => HBB.out gb hh)
                  clear hc hrc0 hrc1 hqc x07 x17 x27
                  go_wp2_with (first
                    | (at_builtin; refine wpList_append_own_at _ rfl (.tmp 88) (.tmp 93) 32 rfl W.heap.size 51 i0 _ 3 24 Try.underlying32 hi0 hz0 hz1 hz2 rfl (by decide) _ _ _ rfl (HO8.out.alloc _) ⟨w8.heap.size, 0, none⟩ 1 1 [.int .i64 f, .int .i64 o, .int .i64 t] rfl rfl (World.news_of_block (cs := #[.int .i64 f, .int .i64 o, .int .i64 t]) (t := 51) (fr := (0, 0)) (heap_alloc_new w8 _)) (by intro u hu; simp at hu; rcases hu with rfl | rfl | rfl <;> rfl) (by unfold maxLen; omega) (by omega) (by simp; omega) ?_; intro v9 w9 own9 hg9 hnil9 hat9; have sz9 := hg9.size; (try simp at sz9); have s29 := (World.cell?_of_block (a := ⟨bb, off + k * 3 + 2, none⟩) (hg9.block _ (show bb < (w8.alloc (.cells #[.int .i64 f, .int .i64 o, .int .i64 t] 51)).heap.size by simp; omega) (fun e => HNB.out _ e.symm rfl))).trans ((World.cell?_of_block (a := ⟨bb, off + k * 3 + 2, none⟩) (heap_alloc_old w8 (.cells #[.int .i64 f, .int .i64 o, .int .i64 t] 51) hbl8)).trans s2); have hbl9 : bb < w9.heap.size := (by omega)))
                  obtain ⟨A9, c9, hv9⟩ := own_value own9
                  subst hv9
                  have HO9 := Lib.hid own9
                  have HG9 := Lib.hid (grown_or (grown_alloc HG8.out (.cells #[.int .i64 f, .int .i64 o, .int .i64 t] 51)) hg9 (fun g hg => by
                    rcases HBLK.out g hg with e | e
                    · left; rw [e]
                    · right; exact e))
                  have HB9 : Hid (∀ g, (Value.slice A9 (gm.length + 1) c9).ownBlock = some g → g = W.heap.size + 1 ∨ w4.heap.size ≤ g) := Lib.hid (fun g hg => by
                    rcases hat9 with e | e
                    · exact HBLK.out g (e.symm.trans hg)
                    · rw [e] at hg; injection hg with hg; right; simp at hg; omega)
                  clear own9 hg9 hnil9 hat9
                  go_wp2
                  go_roundw
                  case rel => exact ⟨Q, t, A9, c9, gm ++ [⟨f, o, t⟩], by go_num, by go_num, by simp, HQM.out, HGQ2.out, by omega, by
                    have := HCAT.out
                    rw [HNEXT.out, HLJ.out, HQ.out] at this
                    simpa using this, by have := HPOP.out; rw [HLJ.out, HQ.out] at this; simp; omega, by rw [flat_append]; simpa [flat, lnC] using HO9.out, by simpa using HB9.out, HG9.out⟩
                  case measure => have := HPOP.out; rw [HLJ.out, HQ.out] at this; simp [intOf]; omega
                · have HPS2 := Lib.hid (HPAST.out (by rw [HC.out, HIF.out, Int.add_zero]; exact h5))
                  clear h2
                  have hc : ∀ (a : Addr) (p : Regrown) (W : World), a.block < W.heap.size → (grow (redrawn W p.d) p.os).cell? a = W.cell? a := fun a p W h => (below_regrown W p.d p.os).cell h
                  go_wp2_with fail
                  refine wp_region_quiet_below (by kernel_rfl) (by kernel_rfl) ?_
                  repeat (go_big_quiet_step (fail))
                  refine wpQuiet_nil ?_
                  intro w8 hw8
                  obtain ⟨p8, hp8⟩ := hw8
                  have hb8 := of_rg hp8
                  clear hp8 p8
                  have hb48 : Below w5.heap.size w5 w8 := hw7.trans (hb8.mono hw7.size)
                  clear hc
                  go_wp2
                  go_roundw
                  case rel => exact ⟨k + 1, rfl, rfl, rfl, by omega, by go_num, by rw [← HPS2.out]; exact HPK.out, hb48⟩
                  case measure => simp [intOf]; omega
              · rw [h2] at hqc
                have HPS2 := Lib.hid (HPAST.out (by rw [HCN.out h2]; simp; omega))
                clear h2
                have hc : ∀ (a : Addr) (p : Regrown) (W : World), a.block < W.heap.size → (grow (redrawn W p.d) p.os).cell? a = W.cell? a := fun a p W h => (below_regrown W p.d p.os).cell h
                go_wp2_with fail
                refine wp_region_quiet_below (by kernel_rfl) (by kernel_rfl) ?_
                repeat (go_big_quiet_step (fail))
                refine wpQuiet_nil ?_
                intro w8 hw8
                obtain ⟨p8, hp8⟩ := hw8
                have hb8 := of_rg hp8
                clear hp8 p8
                have hb48 : Below w5.heap.size w5 w8 := hw7.trans (hb8.mono hw7.size)
                clear hc
                go_wp2
                go_roundw
                case rel => exact ⟨k + 1, rfl, rfl, rfl, by omega, by go_num, by rw [← HPS2.out]; exact HPK.out, hb48⟩
                case measure => simp [intOf]; omega
            · have hif : (if (f : Int) = (a : Int) then (0 : Int) else 1) = 1 := if_neg (by simpa using h3)
              have HIF := Lib.hid hif
              clear hif
              rcases Bool.eq_false_or_eq_true (gd Q) with h2 | h2
              · rw [h2] at hqc
                have HC := Lib.hid (HCY.out h2)
                obtain ⟨ib, ic, hib, hil, hrc0, hrcs⟩ := HT7.out.2.2 Q HQM.out (HPG.out Q h2)
                have hrc1 := hrcs t _ (HRV.out Q t h2 (by omega))
                have hmv := HPOS.out Q t h2
                have hmb := (HBD.out Q t).2
                have hpQ := HPS.out Q hQN
                generalize swp ls gd r Q t = mv at hrc1 hmv hmb HC
                have t0' : (0 : Int) ≤ (t : Int) := by omega
                have t1' : (t : Int) < (wh : Int) + 1 := by omega
                clear hrcs
                rcases Bool.eq_false_or_eq_true ((1 + mv) == sv) with h5 | h5
                · have HEQ := Lib.hid (HHIT.out (by rw [HC.out, HIF.out, Int.add_comm]; exact h5))
                  have HLJ : Hid (lp = ⟨f, o, t⟩) := Lib.hid (by have := HEQ.out.symm.trans HPK.out; injection this with this; exact this.symm)
                  have HGQ2 := Lib.hid h2
                  have hgl : gm.length ≤ 16 := by omega
                  clear h2
                  have hc : ∀ (a : Addr) (p : Regrown) (W : World), a.block < W.heap.size → (grow (redrawn W p.d) p.os).cell? a = W.cell? a := fun a p W h => (below_regrown W p.d p.os).cell h
                  go_wp2_with fail
                  refine wp_region_quiet_below (by kernel_rfl) (by kernel_rfl) ?_
                  repeat (go_big_quiet_step (fail))
                  refine wpQuiet_nil ?_
                  intro w8 hw8
                  obtain ⟨p8, hp8⟩ := hw8
                  have hb8 := of_rg hp8
                  clear hp8 p8
                  have hb48 : Below w5.heap.size w5 w8 := hw7.trans (hb8.mono hw7.size)
                  have s0 := (hb8.cell (p := ⟨bb, off + k * 3, none⟩) hbl7).trans x07
                  have s1 := (hb8.cell (p := ⟨bb, off + k * 3 + 1, none⟩) hbl7).trans x17
                  have s2 := (hb8.cell (p := ⟨bb, off + k * 3 + 2, none⟩) hbl7).trans x27
                  have hbl8 : bb < w8.heap.size := by have := hb8.size; omega
                  have HO8 := Lib.hid (own_next HO5.out hb48)
                  have HG8 := Lib.hid (HG5.out.trans (grown_below hb48 (some (W.heap.size + 1))))
                  have hs8 := hb48.size
                  have HNB : Hid (∀ gb, Value.ownBlock (.slice A' gm.length c') = some gb → gb ≠ bb) := Lib.hid (fun gb hh => HBB.out gb hh)
                  clear hc hrc0 hrc1 hqc x07 x17 x27
                  go_wp2_with (first
                    | (at_builtin; refine wpList_append_own_at _ rfl (.tmp 88) (.tmp 93) 32 rfl W.heap.size 51 i0 _ 3 24 Try.underlying32 hi0 hz0 hz1 hz2 rfl (by decide) _ _ _ rfl (HO8.out.alloc _) ⟨w8.heap.size, 0, none⟩ 1 1 [.int .i64 f, .int .i64 o, .int .i64 t] rfl rfl (World.news_of_block (cs := #[.int .i64 f, .int .i64 o, .int .i64 t]) (t := 51) (fr := (0, 0)) (heap_alloc_new w8 _)) (by intro u hu; simp at hu; rcases hu with rfl | rfl | rfl <;> rfl) (by unfold maxLen; omega) (by omega) (by simp; omega) ?_; intro v9 w9 own9 hg9 hnil9 hat9; have sz9 := hg9.size; (try simp at sz9); have s29 := (World.cell?_of_block (a := ⟨bb, off + k * 3 + 2, none⟩) (hg9.block _ (show bb < (w8.alloc (.cells #[.int .i64 f, .int .i64 o, .int .i64 t] 51)).heap.size by simp; omega) (fun e => HNB.out _ e.symm rfl))).trans ((World.cell?_of_block (a := ⟨bb, off + k * 3 + 2, none⟩) (heap_alloc_old w8 (.cells #[.int .i64 f, .int .i64 o, .int .i64 t] 51) hbl8)).trans s2); have hbl9 : bb < w9.heap.size := (by omega)))
                  obtain ⟨A9, c9, hv9⟩ := own_value own9
                  subst hv9
                  have HO9 := Lib.hid own9
                  have HG9 := Lib.hid (grown_or (grown_alloc HG8.out (.cells #[.int .i64 f, .int .i64 o, .int .i64 t] 51)) hg9 (fun g hg => by
                    rcases HBLK.out g hg with e | e
                    · left; rw [e]
                    · right; exact e))
                  have HB9 : Hid (∀ g, (Value.slice A9 (gm.length + 1) c9).ownBlock = some g → g = W.heap.size + 1 ∨ w4.heap.size ≤ g) := Lib.hid (fun g hg => by
                    rcases hat9 with e | e
                    · exact HBLK.out g (e.symm.trans hg)
                    · rw [e] at hg; injection hg with hg; right; simp at hg; omega)
                  clear own9 hg9 hnil9 hat9
                  go_wp2
                  go_roundw
                  case rel => exact ⟨Q, t, A9, c9, gm ++ [⟨f, o, t⟩], by go_num, by go_num, by simp, HQM.out, HGQ2.out, by omega, by
                    have := HCAT.out
                    rw [HNEXT.out, HLJ.out, HQ.out] at this
                    simpa using this, by have := HPOP.out; rw [HLJ.out, HQ.out] at this; simp; omega, by rw [flat_append]; simpa [flat, lnC] using HO9.out, by simpa using HB9.out, HG9.out⟩
                  case measure => have := HPOP.out; rw [HLJ.out, HQ.out] at this; simp [intOf]; omega
                · have HPS2 := Lib.hid (HPAST.out (by rw [HC.out, HIF.out, Int.add_comm]; exact h5))
                  clear h2
                  have hc : ∀ (a : Addr) (p : Regrown) (W : World), a.block < W.heap.size → (grow (redrawn W p.d) p.os).cell? a = W.cell? a := fun a p W h => (below_regrown W p.d p.os).cell h
                  go_wp2_with fail
                  refine wp_region_quiet_below (by kernel_rfl) (by kernel_rfl) ?_
                  repeat (go_big_quiet_step (fail))
                  refine wpQuiet_nil ?_
                  intro w8 hw8
                  obtain ⟨p8, hp8⟩ := hw8
                  have hb8 := of_rg hp8
                  clear hp8 p8
                  have hb48 : Below w5.heap.size w5 w8 := hw7.trans (hb8.mono hw7.size)
                  clear hc
                  go_wp2
                  go_roundw
                  case rel => exact ⟨k + 1, rfl, rfl, rfl, by omega, by go_num, by rw [← HPS2.out]; exact HPK.out, hb48⟩
                  case measure => simp [intOf]; omega
              · rw [h2] at hqc
                have HPS2 := Lib.hid (HPAST.out (by rw [HCN.out h2]; simp; omega))
                clear h2
                have hc : ∀ (a : Addr) (p : Regrown) (W : World), a.block < W.heap.size → (grow (redrawn W p.d) p.os).cell? a = W.cell? a := fun a p W h => (below_regrown W p.d p.os).cell h
                go_wp2_with fail
                refine wp_region_quiet_below (by kernel_rfl) (by kernel_rfl) ?_
                repeat (go_big_quiet_step (fail))
                refine wpQuiet_nil ?_
                intro w8 hw8
                obtain ⟨p8, hp8⟩ := hw8
                have hb8 := of_rg hp8
                clear hp8 p8
                have hb48 : Below w5.heap.size w5 w8 := hw7.trans (hb8.mono hw7.size)
                clear hc
                go_wp2
                go_roundw
                case rel => exact ⟨k + 1, rfl, rfl, rfl, by omega, by go_num, by rw [← HPS2.out]; exact HPK.out, hb48⟩
                case measure => simp [intOf]; omega
          · have e : k = fl.length := by omega
            subst e
            have := HPK.out
            rw [findk_end] at this
            cases this
  · have HR : Hid (sgL b p g = [] ∧ leadsB b p g = false) := Lib.hid ⟨by simp [sgL, hO], hO⟩
    go_enter Try.func25, Try.ntmps25
    have HLIT := Lib.hid (World.ownsRow_lit (base := W.heap.size) (e := 51) (size := 3) (W.alloc (.cells #[.int .i64 b.f, .int .i64 b.o, .int .i64 b.t] 25)) #[] 0 (by simp) (by simp [maxLen]) rfl)
    go_wp2_with fail
    refine (is_ (sCanReach_ b p g hp hg _) hO).mono ?_
    rintro e w1 ⟨rfl, hb1⟩
    obtain ⟨hc, hf⟩ := bcell hb1
    have z0 : W.heap.size < w1.heap.size := by have := hb1.size; (try simp at this); omega
    have hw1 : Below W.heap.size W w1 := below_step (((Below.refl _ _).alloc (Nat.le_refl _) _).alloc (by simp) _) hb1 (by (try simp); try omega)
    have c0 : w1.cell? ⟨W.heap.size, 0, none⟩ = some (.int .i64 b.f) := by rw [hc _ _ (by simp; try omega)]; simp [go_sem]
    have c1 : w1.cell? ⟨W.heap.size, 1, none⟩ = some (.int .i64 b.o) := by rw [hc _ _ (by simp; try omega)]; simp [go_sem]
    have c2 : w1.cell? ⟨W.heap.size, 2, none⟩ = some (.int .i64 b.t) := by rw [hc _ _ (by simp; try omega)]; simp [go_sem]
    clear hc hf
    have HO1 := Lib.hid (own_next HLIT.out hb1)
    go_wp2
    refine bodyPost_ret (v := .tuple #[.slice (some ⟨W.heap.size + 1, 0, none⟩) 0 0, .bool false]) (by simp [results, Try.results25, go_sem]) rfl ⟨_, _, by rw [HR.out.1, HR.out.2]; rfl, by rw [HR.out.1]; have := HO1.out; simpa [flat_nil] using this, hw1⟩
end Go.Proofs.Ytliljgmpdfdakaa

/- The contract of the reference's l21Least. -/
import Derived.Test.YtliljgmpdfdakaaChecked
import Derived.Test.YtliljgmpdfdakaaMem
import Derived.Tactics
import Derived.Tactics2
import Derived.WalkKit
import Derived.WalkSpells
import Derived.WalkLawsBesides
import Derived.Deep.QuietTactic
import Derived.BigQuiet
import Derived.BigGuardPart
import Derived.Lib.QuietBelow
import Derived.OwnWalk
import Derived.KernelRfl
import Derived.Test.YtliljgmpdfdakaaSweepL
set_option linter.unusedVariables false
set_option maxRecDepth 100000
namespace Go.Proofs.Ytliljgmpdfdakaa
open Go.RowKit Go.Sort

/-- The call hands back a table of rows. -/
def GivesTab (W : World) (N : Nat) (R : List Nat) (pg : Nat) (F : Nat → List Int) (e : Ending) (w' : World) : Prop :=
  ∃ A c vs rows, e = .returned (.slice A N c) ∧ rows.length = N ∧ (∀ x ∈ R, pg ≤ popc x → rows[x]? = some (F x)) ∧ Grid w' W.heap.size 59 3 1 (.slice A N c) vs (flatsI rows) ∧ Below W.heap.size W w'
theorem infoLI : (Try.prog.info? 59).map (fun i => (i.zero, i.size, i.bytes)) = some (some (.slice none 0 0), 1, 24) := by kernel_rfl
theorem Grid.base {w : World} {b b' T E size : Nat} {v : Value} {vs : List Value} {cs : List (List Value)} (h : Grid w b T E size v vs cs) (hb : b' ≤ b) : Grid w b' T E size v vs cs :=
  ⟨own_base h.outer hb, h.len, fun i u xs hu hx => by obtain ⟨n, hn⟩ := h.inner i u xs hu hx; exact ⟨n, own_base hn hb⟩, h.apart, h.off⟩
theorem bestK {f : Nat → Int → Int} {good : Nat → Bool} {p : Nat} {last : Int} {ls : List Ln} {k : Nat} {l : Ln} (hl : ls[k]? = some l) (h : (canJ p l && good (flip p l)) = false) : foldB f good p last (ls.take (k + 1)) = foldB f good p last (ls.take k) := by
  rw [foldB_take hl, cost_no h, best_skip]
set_option maxHeartbeats 16000000 in
theorem l21Least_ (w h s q g : Nat) (hO : leadsB ⟨w, h, s⟩ q g = true) (W : World) :
    Calls Try.prog 52 #[.agg #[.int .i64 w, .int .i64 h, .int .i64 s], .int .i64 q, .int .i64 g] W
      (GivesTab W (2 ^ (w * h)) (reachL ⟨w, h, s⟩ q false) (popc g) (rowV (linesL ⟨w, h, s⟩) (goodL (spreadL ⟨w, h, s⟩ g true)) g (w * h))) := by
  have hPG := leadsB_pair hO
  simp only [pairB, Bool.and_eq_true] at hPG
  obtain ⟨⟨hS, hP⟩, hG⟩ := hPG
  have hb : BdOk w h s := by
    obtain ⟨w', h', s', e, hb, _, _⟩ := smallB_nat hS
    injection e with e1 e2 e3
    have e1 : w = w' := by omega
    have e2 : h = h' := by omega
    have e3 : s = s' := by omega
    subst e1; subst e2; subst e3
    exact hb
  have h16 : w * h ≤ 16 := by
    obtain ⟨w', h', s', e, _, h16, _⟩ := smallB_nat hS
    injection e with e1 e2 e3
    have e1 : w = w' := by omega
    have e2 : h = h' := by omega
    subst e1; subst e2
    exact h16
  have hq : q &&& s = q := by
    obtain ⟨q', e, hq⟩ := posB_nat hP
    have e : q = q' := by omega
    subst e
    exact hq
  have hg : g &&& s = g := by
    obtain ⟨q', e, hq⟩ := posB_nat hG
    have e : g = q' := by omega
    subst e
    exact hq
  have hql := posB_lt hb hq
  have hgl := posB_lt hb hg
  have hq64 : I64 (q : Int) := posB_i64 hP
  have hg64 : I64 (g : Int) := posB_i64 hG
  obtain ⟨m1, m2, m3⟩ := area_bounds hb.w1 hb.w7 hb.h1 hb.h7
  have hsh := i64_pow (w * h) (by omega)
  have HST := Lib.hid (stays_of hb)
  have HLS := Lib.hid (lsFo_of hb)
  have HLT : Hid (∀ l ∈ linesL ⟨w, h, s⟩, l.t.toNat < w * h ∧ 0 ≤ l.t ∧ l.f ≠ (-1 : Int)) := Lib.hid fun l hl => by
    obtain ⟨f, o, t, k⟩ := linesL_ok hb hl
    have := k.eq
    subst this
    have := k.t1
    simp
    omega
  have hle := linesL_le ⟨w, h, s⟩
  have HRP := Lib.hid (fun x (hx : x ∈ reachL ⟨w, h, s⟩ q false) => reach_pos hx)
  have hrle := reachL_le ⟨w, h, s⟩ q false
  have HND : Hid (reachL ⟨w, h, s⟩ q false).Nodup := Lib.hid (trues_sorted _ _)
  have HCL : Hid (∀ x ∈ reachL ⟨w, h, s⟩ q false, x < 2 ^ (w * h) ∧ ∀ l ∈ linesL ⟨w, h, s⟩, canJ x l = true → flip x l ∈ reachL ⟨w, h, s⟩ q false) := Lib.hid fun x hx => by
    have hx' := (reachL_mem hS hP x).1 hx
    refine ⟨?_, fun l hl hc => (reachL_mem hS hP _).2 (bfs_closed (back := false) hql (stays_of hb) hx' hl hc)⟩
    have := (List.getElem?_eq_some_iff.1 hx').1
    rw [bfs, (bst_inv hql (stays_of hb) _).len] at this
    exact this
  have HGI := Lib.hid (fun (x : Nat) => good_iff (x := x) hb hS hG hgl)
  have HBK := Lib.hid (fun W' => l15Back_ w h s g hS hG W')
  have hbl : (spreadL ⟨w, h, s⟩ g true).length = 2 ^ (w * h) := spreadL_len hS hG hb hgl
  have hN1 : 2 ^ (w * h) ≤ 65536 := Nat.pow_le_pow_right (n := 2) (j := 16) (by omega) h16
  have HPC : Hid (∀ x, x < 2 ^ (w * h) → popc x ≤ w * h) := Lib.hid fun x hx => popc_le x hx (by omega)
  have hpgw := HPC.out g hgl
  have HPGE : Hid (pegsB ⟨w, h, s⟩ g = ((popc g : Nat) : Int)) := Lib.hid (by rw [pegsB, if_pos hG, Int.toNat_natCast])
  have HWI : Hid ((w : Int) * (h : Int) = ((w * h : Nat) : Int)) := Lib.hid (by rw [Int.natCast_mul])
  obtain ⟨j0, hj0, jz0, jz1, jz2⟩ := info_parts infoInt
  obtain ⟨j1, hj1, jy0, jy1, jy2⟩ := info_parts infoLI
  obtain ⟨ls, hls⟩ : ∃ ls, linesL ⟨w, h, s⟩ = ls := ⟨_, rfl⟩
  rw [hls] at HST HLS hle HCL HGI HLT
  have HL := Lib.hid hls
  obtain ⟨R, hR⟩ : ∃ R, reachL ⟨w, h, s⟩ q false = R := ⟨_, rfl⟩
  rw [hR] at HRP hrle HND HCL
  have HR := Lib.hid hR
  obtain ⟨bs, hbs⟩ : ∃ x, spreadL ⟨w, h, s⟩ g true = x := ⟨_, rfl⟩
  rw [hbs] at HGI HBK hbl
  obtain ⟨N, hN⟩ : ∃ N, 2 ^ (w * h) = N := ⟨_, rfl⟩
  rw [hN] at HST hql hN1 HCL HPC hbl hgl
  rw [show pow2 (w * h) = N from hN] at hsh
  have hN0 : 0 < N := by omega
  have HBL := Lib.hid hbl
  obtain ⟨wh, hwh⟩ : ∃ n, w * h = n := ⟨_, rfl⟩
  rw [hwh] at HPC HWI hpgw h16 HLT hsh
  obtain ⟨gd, hgd⟩ : ∃ x, goodL bs = x := ⟨_, rfl⟩
  have HGD := Lib.hid hgd
  rw [hgd] at HGI
  have HSW := Lib.hid (fun (x : Nat) (a : Int) (hne : x ≠ g) => swp_eq (g := g) HLS.out (good := gd) (last := a) hne)
  have HPG : Hid (∀ x, gd x = true → popc g ≤ popc x) := Lib.hid fun x hx => Leads.pop HLS.out ((HGI.out x).1 hx)
  have HPOS : Hid (∀ x (a : Int), gd x = true → 0 ≤ swp ls gd g x a) := Lib.hid fun x a hx => swp_pos HLS.out (fun y hy => (HGI.out y).2 hy) ((HGI.out x).1 hx) a
  have HBD := Lib.hid (fun (x : Nat) (a : Int) => swp_bd (ls := ls) HLS.out (good := gd) (g := g) x a)
  have HFB := Lib.hid (fun (x : Nat) (a : Int) (k : Nat) => foldB_bd (f := swp ls gd g) (good := gd) (p := x) (last := a) (m := popc x) (ls.take k) (fun l hl => cost_bd HLS.out (List.mem_of_mem_take hl)))
  obtain ⟨F, hF⟩ : ∃ F, rowV ls gd g wh = F := ⟨_, rfl⟩
  have HF := Lib.hid hF
  obtain ⟨pg, hpg⟩ : ∃ n, popc g = n := ⟨_, rfl⟩
  have HPGN := Lib.hid hpg
  rw [hpg] at HPG hpgw HPGE
  rw [hls, hR, hbs, hN, hwh, hgd, hF, hpg]
  have h65 : R.length ≤ 65536 := hrle
  clear hls hR hbs hN hwh hgd hF hpg hO hS hP hG hq hg hb
  go_enter Try.func52, Try.ntmps52
  go_wp2_with fail
  rw [HWI.out]
  refine (HBK.out _).mono ?_
  rintro e W1 ⟨A3, k3, rfl, rd3, hb1⟩
  obtain ⟨hc, hf⟩ := bcell hb1
  have hz1' : W.heap.size < W1.heap.size := by have := hb1.size; simp at this; omega
  have hW1 : Below W.heap.size W W1 := below_step ((Below.refl _ _).alloc (Nat.le_refl _) _) hb1 (by simp)
  have c0 : W1.cell? ⟨W.heap.size, 0, none⟩ = some (.int .i64 w) := by rw [hc _ _ (by simp)]; simp [go_sem]
  have c1 : W1.cell? ⟨W.heap.size, 1, none⟩ = some (.int .i64 h) := by rw [hc _ _ (by simp)]; simp [go_sem]
  have c2 : W1.cell? ⟨W.heap.size, 2, none⟩ = some (.int .i64 s) := by rw [hc _ _ (by simp)]; simp [go_sem]
  clear hc hf hb1
  go_wp2_with fail
  refine (sLinesOf_ ⟨w, h, s⟩ _).mono ?_
  rintro e W2 ⟨A1, k1, rfl, rd1, hb2⟩
  rw [HL.out] at rd1 ⊢
  have rd3' := rd3.next hb2
  replace c0 := (hb2.cell (p := ⟨W.heap.size, 0, none⟩) hz1').trans c0
  replace c1 := (hb2.cell (p := ⟨W.heap.size, 1, none⟩) hz1').trans c1
  replace c2 := (hb2.cell (p := ⟨W.heap.size, 2, none⟩) hz1').trans c2
  have hz2' : W.heap.size < W2.heap.size := by have := hb2.size; omega
  have hW2 := below_next hW1 hb2
  clear rd3 hb2
  go_wp2_with fail
  refine (sReachOf_ ⟨w, h, s⟩ q hq64 _).mono ?_
  rintro e W3 ⟨A2, k2, rfl, own2, hb3⟩
  rw [HR.out] at own2 ⊢
  have rd2 := rd_of_own own2
  have rd1' := rd1.next hb3
  have rd3 := rd3'.next hb3
  replace c0 := (hb3.cell (p := ⟨W.heap.size, 0, none⟩) hz2').trans c0
  replace c1 := (hb3.cell (p := ⟨W.heap.size, 1, none⟩) hz2').trans c1
  replace c2 := (hb3.cell (p := ⟨W.heap.size, 2, none⟩) hz2').trans c2
  have hz3' : W.heap.size < W3.heap.size := by have := hb3.size; omega
  have hW3 := below_next hW2 hb3
  clear own2 rd1 rd3' hb3
  have HSH := Lib.hid hsh
  clear hsh
  go_wp2_with (first | (at_make; refine wpList_make_full _ rfl (.tmp 36) (.tmp 36) 67 rfl W3.heap.size 59 j1 _ 1 Try.underlying67 hj1 jy0 jy1 .i64 .i64 _ _ N rfl rfl HSH.out HSH.out (by rw [jy2]; omega) (by unfold maxLen; omega) (Nat.le_refl _) ?_; intro W4 hown hg4; have hb4 : Below W3.heap.size W3 W4 := (Below.refl _ _).grown hg4 (Nat.le_refl _) (by simp); have d0 := (hb4.cell (p := ⟨W.heap.size, 0, none⟩) hz3').trans c0; have d1 := (hb4.cell (p := ⟨W.heap.size, 1, none⟩) hz3').trans c1; have d2 := (hb4.cell (p := ⟨W.heap.size, 2, none⟩) hz3').trans c2; have hz4' : W.heap.size < W4.heap.size := (by have := hb4.size; omega)))
  have HG4 : Hid (Grid W4 W3.heap.size 59 3 1 (.slice (some ⟨W3.heap.size, 0, none⟩) N N) (List.replicate N (.slice none 0 0)) (flatsI (List.replicate N []))) := Lib.hid (grid_made (by simpa [Value.cells, toList_madeCells_one] using hown))
  have hs4 := hb4.size
  clear hown hg4
  refine (isI_ (sCountPegs_ ⟨w, h, s⟩ g hg64 _) HPGE.out).mono ?_
  rintro e W5 ⟨rfl, hb5⟩
  have HG5 := Lib.hid (HG4.out.next hb5)
  have hw5 : Below W3.heap.size W3 W5 := hb4.trans (hb5.mono hs4)
  have HDS := Lib.hid (dcount_start R pg)
  clear hb5 hb4 d0 d1 d2
  go_wp2_with fail
  go_loopw [12, 13] (fun dv pv wr => ∃ (cc : Nat) (rows : List (List Int)) (vs : List Value), pg ≤ cc ∧ cc ≤ wh + 1 ∧ pv = .int .i64 cc ∧ dv = .int .i64 (dcount R pg cc 0) ∧ TabOk R F N pg cc 0 rows ∧ Grid wr W3.heap.size 59 3 1 (.slice (some ⟨W3.heap.size, 0, none⟩) N N) vs (flatsI rows) ∧ Below W3.heap.size W3 wr) (fun _ pv _ => wh + 1 - (intOf pv).toNat)
  case atStart => exact ⟨pg, _, _, Nat.le_refl _, by omega, rfl, by rw [HDS.out]; rfl, tab_start R F N pg, HG5.out, hw5⟩
  case round =>
    obtain ⟨cc, rows, vs, hpc1, hcc, rfl, rfl, hok, hgrid, hw⟩ := hrel
    have HOK := Lib.hid hok
    have HG := Lib.hid hgrid
    have hdc := dcount_le R pg cc 0
    have HFU := Lib.hid (fun (h : R.length ≤ dcount R pg cc 0) => dcount_full h)
    have HD0 := Lib.hid (dcount_level R (pg := pg) (c := cc) hpc1)
    obtain ⟨dc, hdce⟩ : ∃ x, dcount R pg cc 0 = x := ⟨_, rfl⟩
    have HDC := Lib.hid hdce
    rw [hdce] at hdc HFU ⊢
    clear hok hgrid hdce
    by_cases hdr : dc < R.length
    · by_cases hcw : cc ≤ wh
      · have hcwI : (cc : Int) ≤ (wh : Int) := by omega
        go_wp2_with fail
        go_loopw [12, 14] (fun dv iv wr => ∃ (i : Nat) (rows : List (List Int)) (vs : List Value), i ≤ R.length ∧ iv = .int .i64 i ∧ dv = .int .i64 (dcount R pg cc i) ∧ TabOk R F N pg cc i rows ∧ Grid wr W3.heap.size 59 3 1 (.slice (some ⟨W3.heap.size, 0, none⟩) N N) vs (flatsI rows) ∧ Below W3.heap.size W3 wr) (fun _ iv _ => R.length - (intOf iv).toNat)
        case atStart => exact ⟨0, rows, vs, Nat.zero_le _, rfl, by rw [HDC.out], HOK.out, HG.out, hw⟩
        case round =>
          obtain ⟨i, rows, vs, hi', rfl, rfl, hok, hgrid, hw⟩ := hrel
          have HOK := Lib.hid hok
          have HG := Lib.hid hgrid
          have hsz := hw.size
          have hdci := dcount_le R pg cc i
          have b0 := (hw.cell (p := ⟨W.heap.size, 0, none⟩) hz3').trans c0
          have b1 := (hw.cell (p := ⟨W.heap.size, 1, none⟩) hz3').trans c1
          have b2 := (hw.cell (p := ⟨W.heap.size, 2, none⟩) hz3').trans c2
          have hzr : W.heap.size < wr.heap.size := by omega
          clear hok hgrid
          by_cases hil : i < R.length
          · have hx : R[i]? = some R[i] := List.getElem?_eq_getElem hil
            generalize R[i] = x at hx
            have hxm := List.mem_of_getElem? hx
            have hxc := HCL.out x hxm
            have hxl := hxc.1
            have HXC := Lib.hid hxc.2
            have x63 : B63 x := by unfold B63; omega
            have x64 : I64 (x : Int) := by unfold I64; omega
            have hpx := HRP.out x hxm
            have HPX : Hid (pegsB ⟨w, h, s⟩ x = ((popc x : Nat) : Int)) := Lib.hid (by rw [pegsB, if_pos hpx, Int.toNat_natCast])
            have HX := Lib.hid hx
            have HDK := Lib.hid (fun (h : popc x ≠ cc) => dcount_skip (pg := pg) hx h)
            have HDH := Lib.hid (fun (h : popc x = cc) => dcount_hit (pg := pg) hx h)
            obtain ⟨di, hdi⟩ : ∃ v, dcount R pg cc i = v := ⟨_, rfl⟩
            rw [hdi] at HDK HDH hdci ⊢
            obtain ⟨rb, roff, y, hA, hrb, hy, hrc⟩ := rd2.int (k := i) (by rw [natL_length]; exact hil)
            rw [natL_get hx] at hy
            injection hy with hy
            subst hy
            subst hA
            have rc := (hw.cell (p := ⟨rb, roff + i, none⟩) hrb).trans hrc
            have hrz : rb < wr.heap.size := by omega
            have i0' : (0 : Int) ≤ (i : Int) := by omega
            have i1' : (i : Int) < (R.length : Int) := by omega
            obtain ⟨px, hpxx⟩ : ∃ n, popc x = n := ⟨_, rfl⟩
            rw [hpxx] at HPX HDK HDH
            have HPXX := Lib.hid hpxx
            clear hx hxm hxc hpx hdi hpxx
            rcases Bool.eq_false_or_eq_true ((px : Int) == (cc : Int)) with hpc | hpc
            · have hpn : ((px : Int) != (cc : Int)) = false := by simpa using hpc
              have hpc' : px = cc := by have : (px : Int) = (cc : Int) := by simpa using hpc
                                        omega
              have HPQ : Hid (popc x = cc) := Lib.hid (HPXX.out.trans hpc')
              have HDH' := Lib.hid (HDH.out hpc')
              clear hpc'
              go_wp2_with fail
              refine (isI_ (sCountPegs_ ⟨w, h, s⟩ x x64 _) HPX.out).mono ?_
              rintro e w2 ⟨rfl, hb2'⟩
              have hw2 : Below W3.heap.size W3 w2 := hw.trans (hb2'.mono hsz)
              have HG2 := Lib.hid (HG.out.next hb2')
              have hs2 := hw2.size
              have x0' : (0 : Int) ≤ (x : Int) := by omega
              have x1' : (x : Int) < (N : Int) := by omega
              obtain ⟨gz, Az, cz, rz, hAz, hgz2, hrz', hvz, hoz, hcz, hfz⟩ := HG2.out.rowI (i := x) (by rw [HOK.out.1]; exact hxl)
              have hAz' : W3.heap.size = gz := by injection hAz with hAz; injection hAz
              subst hAz'
              have HVZ := Lib.hid hvz
              clear hb2' b0 b1 b2 hAz hrz' hvz hoz
              go_wp2_with (first | (at_make; refine wpList_make_full _ rfl (.tmp 72) (.tmp 72) 59 rfl w2.heap.size 3 j0 _ 1 Try.underlying59 hj0 jz0 jz1 .i64 .i64 _ _ (wh + 1) rfl rfl (by omega) (by omega) (by rw [jz2]; omega) (by unfold maxLen; omega) (Nat.le_refl _) ?_; intro w3 hown hg3; have hcz3 := (World.cell?_of_block (a := ⟨W3.heap.size, x, none⟩) (hg3.block _ hgz2 (by simp))).trans hcz; have hfz3 := (World.frozen?_of_block (a := ⟨W3.heap.size, x, none⟩) (hg3.block _ hgz2 (by simp))).trans hfz))
              have hown2 : w3.ownsRow W3.heap.size 3 1 (.slice (some ⟨w2.heap.size, 0, none⟩) (wh + 1) (wh + 1)) (wh + 1) (ints (partV ls gd g wh x 0)) := by
                rw [made_ints] at hown
                rw [partV_zero]
                exact own_base hown hs2
              have HG3 : Hid (Grid (w3.setCell ⟨W3.heap.size, x, none⟩ (.slice (some ⟨w2.heap.size, 0, none⟩) (wh + 1) (wh + 1))) W3.heap.size 59 3 1 (.slice (some ⟨W3.heap.size, 0, none⟩) N N) (vs.set x (.slice (some ⟨w2.heap.size, 0, none⟩) (wh + 1) (wh + 1))) (flatsI (rows.set x (partV ls gd g wh x 0)))) := Lib.hid (by
                rw [flatsI_set]
                exact HG2.out.put rfl HVZ.out (hg3.but _) hown2 (.inr rfl))
              have HW3' : Hid (Below W3.heap.size W3 (w3.setCell ⟨W3.heap.size, x, none⟩ (.slice (some ⟨w2.heap.size, 0, none⟩) (wh + 1) (wh + 1)))) := Lib.hid ((hw2.grown hg3 hs2 (fun k hk => by cases hk)).setCell (show W3.heap.size ≤ (⟨W3.heap.size, x, none⟩ : Addr).block from Nat.le_refl _) _)
              clear hown hown2 hg3 hcz3 hfz3 hcz hfz
              go_loopw [16] (fun av wr => ∃ (a : Nat) (vs : List Value), a ≤ wh + 1 ∧ av = .int .i64 a ∧ Grid wr W3.heap.size 59 3 1 (.slice (some ⟨W3.heap.size, 0, none⟩) N N) vs (flatsI (rows.set x (partV ls gd g wh x a))) ∧ Below W3.heap.size W3 wr) (fun av _ => wh + 1 - (intOf av).toNat)
              case atStart => exact ⟨0, _, Nat.zero_le _, rfl, HG3.out, HW3'.out⟩
              case round =>
                obtain ⟨a, vs, ha, rfl, hgrid, hwz⟩ := hrel
                have HGW := Lib.hid hgrid
                have hszz := hwz.size
                clear hgrid
                by_cases haw : a ≤ wh
                · have haI : (a : Int) ≤ (wh : Int) := by omega
                  have hgoodc := rd_bool (rd3.below hwz) (k := x) (by rw [hbl]; exact hxl)
                  obtain ⟨gb, goff, rfl, hgb, hgc⟩ := hgoodc
                  have hgx : bs.getD x false = gd x := by rw [← HGD.out]; rfl
                  rw [hgx] at hgc
                  have hgbz : gb < wr.heap.size := by omega
                  clear hgx
                  rcases Bool.eq_false_or_eq_true ((x : Int) == (g : Int)) with hxg | hxg
                  · have hxgn : ((x : Int) != (g : Int)) = false := by simpa using hxg
                    have HXG : Hid (x = g) := Lib.hid (by have : (x : Int) = (g : Int) := by simpa using hxg
                                                          omega)
                    have HGX : Hid (gd x = true) := Lib.hid ((HGI.out x).2 (by rw [HXG.out]; exact .refl g))
                    have HV : Hid (tabV ls gd g x a = 0) := Lib.hid (by rw [tabV, HGX.out, if_pos rfl, HXG.out]; exact swp_goal)
                    rw [HGX.out] at hgc
                    go_wp2_with fail
                    go_loopw [17, 18] (fun bv kv wr => kv = .int .i64 0 ∧ bv = .int .i64 0 ∧ Grid wr W3.heap.size 59 3 1 (.slice (some ⟨W3.heap.size, 0, none⟩) N N) vs (flatsI (rows.set x (partV ls gd g wh x a))) ∧ Below W3.heap.size W3 wr ∧ wr.cell? ⟨gb, goff + x, none⟩ = some (.bool true)) (fun _ _ _ => 0)
                    case atStart => exact ⟨rfl, rfl, HGW.out, hwz, hgc⟩
                    case round =>
                      obtain ⟨rfl, rfl, hgz, hwZ, hgc'⟩ := hrel
                      have HGZ := Lib.hid hgz
                      clear hgz hgc
                      by_cases hl0 : 0 < ls.length
                      · obtain ⟨gz, Az, cz, rz, hAz, hgz2, hrz, hvz, hoz, hcz, hfz⟩ := HGZ.out.rowI (i := x) (by rw [List.length_set, HOK.out.1]; exact hxl)
                        have hAz' : W3.heap.size = gz := by injection hAz with hAz; injection hAz
                        subst hAz'
                        have hrz' : partV ls gd g wh x a = rz := by rw [List.getElem?_set_self (by rw [HOK.out.1]; exact hxl)] at hrz; injection hrz
                        subst hrz'
                        have hplen : (partV ls gd g wh x a).length = wh + 1 := partV_len (by omega)
                        rw [hplen] at hvz hoz hcz
                        obtain ⟨iz, icap, hivz, hib, hizl⟩ := hoz.form (by omega)
                        injection hivz with e1 e2 e3
                        subst e1 e3
                        obtain ⟨zold, hzold, zc, zf⟩ := own_at1 hoz (k := a) (by omega)
                        have HTN : Hid (Grid (wr.setCell ⟨iz, a, none⟩ (.int .i64 0)) W3.heap.size 59 3 1 (.slice (some ⟨W3.heap.size, 0, none⟩) N N) vs (flatsI (rows.set x (partV ls gd g wh x (a + 1))))) := Lib.hid (by
                          have := HGZ.out.turn (i := x) hvz ((hoz.stored a (.int .i64 0)).2) (own_set1 hoz a 0)
                          rw [← flatsI_set, List.set_set, show (partV ls gd g wh x a).set a 0 = partV ls gd g wh x (a + 1) from by rw [← partV_next (by omega), HV.out]] at this
                          exact this)
                        have HW6 := Lib.hid (Below.setCell hwZ (show W3.heap.size ≤ (⟨iz, a, none⟩ : Addr).block from hib) (.int .i64 0))
                        have a0' : (0 : Int) ≤ (a : Int) := by omega
                        have a1' : (a : Int) < (wh : Int) + 1 := by omega
                        clear hrz hvz hoz hzold hplen hfz
                        go_wp2
                        go_roundw
                        case rel => exact ⟨a + 1, vs, by omega, by go_num, HTN.out, HW6.out⟩
                        case measure => simp [intOf]; omega
                      · obtain ⟨gz, Az, cz, rz, hAz, hgz2, hrz, hvz, hoz, hcz, hfz⟩ := HGZ.out.rowI (i := x) (by rw [List.length_set, HOK.out.1]; exact hxl)
                        have hAz' : W3.heap.size = gz := by injection hAz with hAz; injection hAz
                        subst hAz'
                        have hrz' : partV ls gd g wh x a = rz := by rw [List.getElem?_set_self (by rw [HOK.out.1]; exact hxl)] at hrz; injection hrz
                        subst hrz'
                        have hplen : (partV ls gd g wh x a).length = wh + 1 := partV_len (by omega)
                        rw [hplen] at hvz hoz hcz
                        obtain ⟨iz, icap, hivz, hib, hizl⟩ := hoz.form (by omega)
                        injection hivz with e1 e2 e3
                        subst e1 e3
                        obtain ⟨zold, hzold, zc, zf⟩ := own_at1 hoz (k := a) (by omega)
                        have HTN : Hid (Grid (wr.setCell ⟨iz, a, none⟩ (.int .i64 0)) W3.heap.size 59 3 1 (.slice (some ⟨W3.heap.size, 0, none⟩) N N) vs (flatsI (rows.set x (partV ls gd g wh x (a + 1))))) := Lib.hid (by
                          have := HGZ.out.turn (i := x) hvz ((hoz.stored a (.int .i64 0)).2) (own_set1 hoz a 0)
                          rw [← flatsI_set, List.set_set, show (partV ls gd g wh x a).set a 0 = partV ls gd g wh x (a + 1) from by rw [← partV_next (by omega), HV.out]] at this
                          exact this)
                        have HW6 := Lib.hid (Below.setCell hwZ (show W3.heap.size ≤ (⟨iz, a, none⟩ : Addr).block from hib) (.int .i64 0))
                        have a0' : (0 : Int) ≤ (a : Int) := by omega
                        have a1' : (a : Int) < (wh : Int) + 1 := by omega
                        clear hrz hvz hoz hzold hplen hfz
                        go_wp2
                        go_roundw
                        case rel => exact ⟨a + 1, vs, by omega, by go_num, HTN.out, HW6.out⟩
                        case measure => simp [intOf]; omega
                  · have hxgn : ((x : Int) != (g : Int)) = true := by simpa using hxg
                    have HXG : Hid (x ≠ g) := Lib.hid (fun e => by subst e; simp at hxg)
                    rcases Bool.eq_false_or_eq_true (gd x) with hgx | hgx
                    · have HGX : Hid (gd x = true) := Lib.hid hgx
                      have HV : Hid (tabV ls gd g x a = foldB (swp ls gd g) gd x a ls) := Lib.hid (by rw [tabV, hgx, if_pos rfl, HSW.out x a HXG.out])
                      rw [hgx] at hgc
                      clear hgx
                      go_wp2_with fail
                      go_loopw [17, 18] (fun bv kv wr => ∃ k : Nat, k ≤ ls.length ∧ kv = .int .i64 k ∧ bv = .int .i64 (foldB (swp ls gd g) gd x a (ls.take k)) ∧ Grid wr W3.heap.size 59 3 1 (.slice (some ⟨W3.heap.size, 0, none⟩) N N) vs (flatsI (rows.set x (partV ls gd g wh x a))) ∧ Below W3.heap.size W3 wr ∧ wr.cell? ⟨gb, goff + x, none⟩ = some (.bool true)) (fun _ kv _ => ls.length - (intOf kv).toNat)
                      case atStart => exact ⟨0, Nat.zero_le _, rfl, rfl, HGW.out, hwz, hgc⟩
                      case round =>
                        obtain ⟨k, hk, rfl, rfl, hgz, hwZ, hgc'⟩ := hrel
                        have HGZ := Lib.hid hgz
                        have hsZ := hwZ.size
                        have hgbZ : gb < wr.heap.size := by omega
                        clear hgz hgc
                        by_cases hkl : k < ls.length
                        · obtain ⟨bb, off, l, rfl, hbl, hll, x0', x1', x2'⟩ := rd1'.line hkl
                          have y0 := (hwZ.cell (p := ⟨bb, off + k * 3, none⟩) hbl).trans x0'
                          have y1 := (hwZ.cell (p := ⟨bb, off + k * 3 + 1, none⟩) hbl).trans x1'
                          have y2 := (hwZ.cell (p := ⟨bb, off + k * 3 + 2, none⟩) hbl).trans x2'
                          have hlm := List.mem_of_getElem? hll
                          have HCJ := Lib.hid (HXC.out l hlm)
                          have HL49 := Lib.hid (HLS.out l hlm)
                          have htw := (HLT.out l hlm).1
                          obtain ⟨f, o, t, rfl, f1, o1, t1, hft, hot, hfo⟩ := HLS.out l hlm
                          simp only [Int.toNat_natCast] at htw
                          have HPJ := Lib.hid (popc_jump (p := x) HL49.out)
                          have HNO := Lib.hid (bestK (f := swp ls gd g) (good := gd) (p := x) (last := a) hll)
                          have HSTEP := Lib.hid (foldB_take (f := swp ls gd g) (good := gd) (p := x) (last := a) hll)
                          have k0' : (0 : Int) ≤ (k : Int) := by omega
                          have k1' : (k : Int) < (ls.length : Int) := by omega
                          have hbz : bb < wr.heap.size := by omega
                          have pf := i64_pow f (by omega)
                          have po := i64_pow o (by omega)
                          have l63 : B63 (lbits ⟨f, o, t⟩) := by simp only [lbits, Int.toNat_natCast]; exact b63_or (b63_or (b63_pow2 (by omega)) (b63_pow2 (by omega))) (b63_pow2 (by omega))
                          have a1 := i64_and x (lbits ⟨f, o, t⟩) x63 l63
                          have a2 := i64_or (pow2 f) (pow2 o) (b63_pow2 (by omega)) (b63_pow2 (by omega))
                          have a3 := i64_xor x (lbits ⟨f, o, t⟩) x63 l63
                          rw [show x ^^^ lbits ⟨f, o, t⟩ = flip x ⟨f, o, t⟩ from rfl] at a3
                          have H0 : (((x &&& lbits ⟨f, o, t⟩ : Nat) : Int) == ((pow2 f ||| pow2 o : Nat) : Int)) = canJ x ⟨f, o, t⟩ := by
                            rw [canJ_and hft hot, Bool.eq_iff_iff]; simp; omega
                          have H1 : (((x &&& lbits ⟨f, o, t⟩ : Nat) : Int) != ((pow2 f ||| pow2 o : Nat) : Int)) = !canJ x ⟨f, o, t⟩ := by rw [bne, H0]
                          generalize hLB : lbits ⟨f, o, t⟩ = LB at a1 a3 H0 H1
                          have HLB := Lib.hid hLB
                          have hbv := HFB.out x a k
                          clear hll hlm hft hot hfo hLB l63 x0' x1' x2' H0
                          rcases Bool.eq_false_or_eq_true (canJ x ⟨f, o, t⟩) with h1 | h1
                          · rw [h1] at H1
                            have hQR := HCJ.out h1
                            have hQN := (HCL.out _ hQR).1
                            have hpq := HPJ.out h1
                            have hQx : flip x ⟨f, o, t⟩ ≠ x := by
                              intro e
                              rw [e] at hpq
                              omega
                            have H1C := Lib.hid h1
                            generalize hQe : flip x ⟨f, o, t⟩ = Q at a3 hQR hQN hpq hQx
                            have HQE := Lib.hid hQe
                            obtain ⟨qb, qoff, hQA, hqb, hqc⟩ := rd_bool (rd3.below hwZ) (k := Q) (by rw [HBL.out]; exact hQN)
                            have hQA' : qb = gb ∧ qoff = goff := by injection hQA with hQA; injection hQA with h1 h2; exact ⟨h1.symm, h2.symm⟩
                            rw [hQA'.1, hQA'.2] at hqc
                            have hgq : bs.getD Q false = gd Q := by rw [← HGD.out]; rfl
                            rw [hgq] at hqc
                            have q0 : (0 : Int) ≤ (Q : Int) := by omega
                            have q1 : (Q : Int) < (bs.length : Int) := by omega
                            have q2 : (Q : Int) < (N : Int) := by omega
                            clear h1 hgq hQA hQe
                            rcases Bool.eq_false_or_eq_true (gd Q) with h2 | h2
                            · rw [h2] at hqc
                              have HCS := Lib.hid (HSTEP.out.trans (by rw [cost_yes (by rw [H1C.out, HQE.out, h2]; rfl), HQE.out]))
                              have hpgQ := HPG.out Q h2
                              have hmv := HPOS.out Q t h2
                              have hmb := (HBD.out Q t).2
                              have HQR := Lib.hid (tab_next HOK.out hQR hpgQ (by have := HPQ.out; omega) hQN)
                              have HTV : Hid (tabV ls gd g Q t = swp ls gd g Q t) := Lib.hid (by rw [tabV, h2, if_pos rfl])
                              have hpQ := HPC.out Q hQN
                              generalize swp ls gd g Q t = mv at HCS hmv hmb HTV
                              generalize foldB (swp ls gd g) gd x a (ls.take k) = bv at HCS hbv ⊢
                              clear h2 hpgQ
                              go_wp2_with fail
                              refine (isI_ (l05Bits_ f o t (by omega) (by omega) (by omega) _) (congrArg Int.ofNat HLB.out)).mono ?_
                              rintro e w4 ⟨rfl, hb4⟩
                              have s0 : w4.cell? ⟨wr.heap.size, 0, none⟩ = some (.int .i64 f) := by rw [hb4.cell (p := ⟨wr.heap.size, 0, none⟩) (by simp)]; simp [go_sem]
                              have s1 : w4.cell? ⟨wr.heap.size, 1, none⟩ = some (.int .i64 o) := by rw [hb4.cell (p := ⟨wr.heap.size, 1, none⟩) (by simp)]; simp [go_sem]
                              have s2 : w4.cell? ⟨wr.heap.size, 2, none⟩ = some (.int .i64 t) := by rw [hb4.cell (p := ⟨wr.heap.size, 2, none⟩) (by simp)]; simp [go_sem]
                              have hbw : Below wr.heap.size wr w4 := below_step ((Below.refl _ _).alloc (Nat.le_refl _) _) hb4 (by simp)
                              have hc4 := (hbw.cell (p := ⟨gb, goff + x, none⟩) hgbZ).trans hgc'
                              have hq4 := (hbw.cell (p := ⟨gb, goff + Q, none⟩) hgbZ).trans hqc
                              have hzz : wr.heap.size < w4.heap.size := by have := hb4.size; simp at this; omega
                              have hgb4 : gb < w4.heap.size := by omega
                              clear hb4 y0 y1 y2
                              have hc : ∀ (a : Addr) (p : Regrown) (W : World), a.block < W.heap.size → (grow (redrawn W p.d) p.os).cell? a = W.cell? a := fun a p W h => (below_regrown W p.d p.os).cell h
                              go_wp2_with fail
                              refine wp_region_quiet_below (by kernel_rfl) (by kernel_rfl) ?_
                              repeat (go_big_quiet_step (first | (go_at_call 57; exact Calls.regrown_of (isI_ (l05Bits_ f o t (by omega) (by omega) (by omega) _) (congrArg Int.ofNat HLB.out)))))
                              refine wpQuiet_nil ?_
                              intro w5 hw5
                              obtain ⟨p5, hp5⟩ := hw5
                              have hb5 := of_rg hp5
                              clear hp5 p5
                              have hb45 : Below wr.heap.size wr w5 := hbw.trans (hb5.mono (by omega))
                              have HG5 := Lib.hid (HGZ.out.next hb45)
                              have hw5 : Below W3.heap.size W3 w5 := hwZ.trans (hb45.mono hsZ)
                              have hc5 := (hb5.cell (p := ⟨gb, goff + x, none⟩) (show gb < w4.heap.size by omega)).trans hc4
                              have u0 := (hb5.cell (p := ⟨wr.heap.size, 0, none⟩) hzz).trans s0
                              have u1 := (hb5.cell (p := ⟨wr.heap.size, 1, none⟩) hzz).trans s1
                              have u2 := (hb5.cell (p := ⟨wr.heap.size, 2, none⟩) hzz).trans s2
                              have hz5 : wr.heap.size < w5.heap.size := by have := hb5.size; omega
                              have hg5 : gb < w5.heap.size := by have := hb5.size; omega
                              obtain ⟨gz, Az, cz, rz, hAz, hgz2, hrz, hvz, hoz, hcz, hfz⟩ := HG5.out.rowI (i := Q) (by rw [List.length_set, HOK.out.1]; exact hQN)
                              have hAz' : W3.heap.size = gz := by injection hAz with hAz; injection hAz
                              subst hAz'
                              have hrz' : F Q = rz := by rw [List.getElem?_set_ne (Ne.symm hQx), HQR.out] at hrz; injection hrz
                              subst hrz'
                              have hplen : (F Q).length = wh + 1 := by rw [← HF.out]; exact rowV_len ls gd g wh Q
                              rw [hplen] at hvz hoz hcz
                              obtain ⟨iz, icap, hivz, hib, hizl⟩ := hoz.form (by omega)
                              injection hivz with e1 e2 e3
                              subst e1 e3
                              obtain ⟨zv, hzv, zc, zf⟩ := own_at1 hoz (k := t) (by omega)
                              have hzv' : zv = mv := by rw [← HF.out, rowV_get (by omega), HTV.out] at hzv; injection hzv with h; exact h.symm
                              subst hzv'
                              have t0' : (0 : Int) ≤ (t : Int) := by omega
                              have t1' : (t : Int) < (wh : Int) + 1 := by omega
                              have t2' : (t : Int) < ((wh + 1 : Nat) : Int) := by omega
                              clear hrz hvz hoz hzv hplen hfz zf s0 s1 s2 hc
                              have hc : ∀ (a : Addr) (p : Regrown) (W : World), a.block < W.heap.size → (grow (redrawn W p.d) p.os).cell? a = W.cell? a := fun a p W h => (below_regrown W p.d p.os).cell h
                              go_wp2_with fail
                              refine wp_region_quiet_below (by kernel_rfl) (by kernel_rfl) ?_
                              repeat (go_big_quiet_step (fail))
                              refine wpQuiet_nil ?_
                              intro w6 hw6
                              obtain ⟨p6, hp6⟩ := hw6
                              have hb6 := of_rg hp6
                              clear hp6 p6
                              have hb46 : Below wr.heap.size wr w6 := hb45.trans (hb6.mono (by omega))
                              have HG6 := Lib.hid (HGZ.out.next hb46)
                              have hw6 : Below W3.heap.size W3 w6 := hwZ.trans (hb46.mono hsZ)
                              have hc6 := (hb6.cell (p := ⟨gb, goff + x, none⟩) hg5).trans hc5
                              have v0 := (hb6.cell (p := ⟨wr.heap.size, 0, none⟩) hz5).trans u0
                              clear u0 u1 u2 hc
                              rcases Bool.eq_false_or_eq_true ((f : Int) == (a : Int)) with h3 | h3
                              · have h3n : ((f : Int) != (a : Int)) = false := by simpa using h3
                                have HCT := Lib.hid (HCS.out.trans (show bestS bv (zv + (if (f : Int) = (a : Int) then 0 else 1)) = bestS bv zv by rw [if_pos (show (f : Int) = (a : Int) by simpa using h3), Int.add_zero]))
                                rcases Bool.eq_false_or_eq_true (decide (bv < 0)) with h4 | h4
                                · have HX := Lib.hid (HCT.out.trans (show bestS bv (zv) = zv by rw [bestS, if_pos ⟨by omega, .inl (of_decide_eq_true h4)⟩]))
                                  go_wp2
                                  go_roundw
                                  case rel => exact ⟨k + 1, by omega, by go_num, by rw [HX.out], HG6.out, hw6, hc6⟩
                                  case measure => simp [intOf]; omega
                                · rcases Bool.eq_false_or_eq_true (decide (zv < bv)) with h5 | h5
                                  · have HX := Lib.hid (HCT.out.trans (show bestS bv (zv) = zv by rw [bestS, if_pos ⟨by omega, .inr (of_decide_eq_true h5)⟩]))
                                    go_wp2
                                    go_roundw
                                    case rel => exact ⟨k + 1, by omega, by go_num, by rw [HX.out], HG6.out, hw6, hc6⟩
                                    case measure => simp [intOf]; omega
                                  · have HX := Lib.hid (HCT.out.trans (show bestS bv (zv) = bv by rw [bestS, if_neg (fun h => by rcases h.2 with h | h; exact of_decide_eq_false h4 h; exact of_decide_eq_false h5 h)]))
                                    go_wp2
                                    go_roundw
                                    case rel => exact ⟨k + 1, by omega, by go_num, by rw [HX.out], HG6.out, hw6, hc6⟩
                                    case measure => simp [intOf]; omega
                              · have h3n : ((f : Int) != (a : Int)) = true := by simpa using h3
                                have HCT := Lib.hid (HCS.out.trans (show bestS bv (zv + (if (f : Int) = (a : Int) then 0 else 1)) = bestS bv (zv + 1) by rw [if_neg (show ¬ (f : Int) = (a : Int) by simpa using h3)]))
                                rcases Bool.eq_false_or_eq_true (decide (bv < 0)) with h4 | h4
                                · have HX := Lib.hid (HCT.out.trans (show bestS bv (zv + 1) = zv + 1 by rw [bestS, if_pos ⟨by omega, .inl (of_decide_eq_true h4)⟩]))
                                  go_wp2
                                  go_roundw
                                  case rel => exact ⟨k + 1, by omega, by go_num, by rw [HX.out], HG6.out, hw6, hc6⟩
                                  case measure => simp [intOf]; omega
                                · rcases Bool.eq_false_or_eq_true (decide (zv + 1 < bv)) with h5 | h5
                                  · have HX := Lib.hid (HCT.out.trans (show bestS bv (zv + 1) = zv + 1 by rw [bestS, if_pos ⟨by omega, .inr (of_decide_eq_true h5)⟩]))
                                    go_wp2
                                    go_roundw
                                    case rel => exact ⟨k + 1, by omega, by go_num, by rw [HX.out], HG6.out, hw6, hc6⟩
                                    case measure => simp [intOf]; omega
                                  · have HX := Lib.hid (HCT.out.trans (show bestS bv (zv + 1) = bv by rw [bestS, if_neg (fun h => by rcases h.2 with h | h; exact of_decide_eq_false h4 h; exact of_decide_eq_false h5 h)]))
                                    go_wp2
                                    go_roundw
                                    case rel => exact ⟨k + 1, by omega, by go_num, by rw [HX.out], HG6.out, hw6, hc6⟩
                                    case measure => simp [intOf]; omega
                            · rw [h2] at hqc
                              have HXX := Lib.hid (HNO.out (by rw [H1C.out, HQE.out, h2]; rfl))
                              generalize foldB (swp ls gd g) gd x a (ls.take k) = bv at HXX ⊢
                              clear h2
                              go_wp2_with fail
                              refine (isI_ (l05Bits_ f o t (by omega) (by omega) (by omega) _) (congrArg Int.ofNat HLB.out)).mono ?_
                              rintro e w4 ⟨rfl, hb4⟩
                              have s0 : w4.cell? ⟨wr.heap.size, 0, none⟩ = some (.int .i64 f) := by rw [hb4.cell (p := ⟨wr.heap.size, 0, none⟩) (by simp)]; simp [go_sem]
                              have s1 : w4.cell? ⟨wr.heap.size, 1, none⟩ = some (.int .i64 o) := by rw [hb4.cell (p := ⟨wr.heap.size, 1, none⟩) (by simp)]; simp [go_sem]
                              have s2 : w4.cell? ⟨wr.heap.size, 2, none⟩ = some (.int .i64 t) := by rw [hb4.cell (p := ⟨wr.heap.size, 2, none⟩) (by simp)]; simp [go_sem]
                              have hbw : Below wr.heap.size wr w4 := below_step ((Below.refl _ _).alloc (Nat.le_refl _) _) hb4 (by simp)
                              have hc4 := (hbw.cell (p := ⟨gb, goff + x, none⟩) hgbZ).trans hgc'
                              have hq4 := (hbw.cell (p := ⟨gb, goff + Q, none⟩) hgbZ).trans hqc
                              have hzz : wr.heap.size < w4.heap.size := by have := hb4.size; simp at this; omega
                              have hgb4 : gb < w4.heap.size := by omega
                              clear hb4 y0 y1 y2
                              have hc : ∀ (a : Addr) (p : Regrown) (W : World), a.block < W.heap.size → (grow (redrawn W p.d) p.os).cell? a = W.cell? a := fun a p W h => (below_regrown W p.d p.os).cell h
                              go_wp2_with fail
                              refine wp_region_quiet_below (by kernel_rfl) (by kernel_rfl) ?_
                              repeat (go_big_quiet_step (first | (go_at_call 57; exact Calls.regrown_of (isI_ (l05Bits_ f o t (by omega) (by omega) (by omega) _) (congrArg Int.ofNat HLB.out)))))
                              refine wpQuiet_nil ?_
                              intro w5 hw5
                              obtain ⟨p5, hp5⟩ := hw5
                              have hb5 := of_rg hp5
                              clear hp5 p5
                              have hb45 : Below wr.heap.size wr w5 := hbw.trans (hb5.mono (by omega))
                              have HG5 := Lib.hid (HGZ.out.next hb45)
                              have hw5 : Below W3.heap.size W3 w5 := hwZ.trans (hb45.mono hsZ)
                              have hc5 := (hb5.cell (p := ⟨gb, goff + x, none⟩) (show gb < w4.heap.size by omega)).trans hc4
                              go_wp2
                              go_roundw
                              case rel => exact ⟨k + 1, by omega, by go_num, by rw [HXX.out], HG5.out, hw5, hc5⟩
                              case measure => simp [intOf]; omega
                          · rw [h1] at H1
                            have HXX := Lib.hid (HNO.out (by rw [h1]; rfl))
                            generalize foldB (swp ls gd g) gd x a (ls.take k) = bv at HXX ⊢
                            clear h1
                            go_wp2_with fail
                            refine (isI_ (l05Bits_ f o t (by omega) (by omega) (by omega) _) (congrArg Int.ofNat HLB.out)).mono ?_
                            rintro e w4 ⟨rfl, hb4⟩
                            have s0 : w4.cell? ⟨wr.heap.size, 0, none⟩ = some (.int .i64 f) := by rw [hb4.cell (p := ⟨wr.heap.size, 0, none⟩) (by simp)]; simp [go_sem]
                            have s1 : w4.cell? ⟨wr.heap.size, 1, none⟩ = some (.int .i64 o) := by rw [hb4.cell (p := ⟨wr.heap.size, 1, none⟩) (by simp)]; simp [go_sem]
                            have s2 : w4.cell? ⟨wr.heap.size, 2, none⟩ = some (.int .i64 t) := by rw [hb4.cell (p := ⟨wr.heap.size, 2, none⟩) (by simp)]; simp [go_sem]
                            have hbw : Below wr.heap.size wr w4 := below_step ((Below.refl _ _).alloc (Nat.le_refl _) _) hb4 (by simp)
                            have hc4 := (hbw.cell (p := ⟨gb, goff + x, none⟩) hgbZ).trans hgc'
                            skip
                            have hzz : wr.heap.size < w4.heap.size := by have := hb4.size; simp at this; omega
                            have hgb4 : gb < w4.heap.size := by omega
                            clear hb4 y0 y1 y2
                            have hc : ∀ (a : Addr) (p : Regrown) (W : World), a.block < W.heap.size → (grow (redrawn W p.d) p.os).cell? a = W.cell? a := fun a p W h => (below_regrown W p.d p.os).cell h
                            go_wp2_with fail
                            refine wp_region_quiet_below (by kernel_rfl) (by kernel_rfl) ?_
                            repeat (go_big_quiet_step (first | (go_at_call 57; exact Calls.regrown_of (isI_ (l05Bits_ f o t (by omega) (by omega) (by omega) _) (congrArg Int.ofNat HLB.out)))))
                            refine wpQuiet_nil ?_
                            intro w5 hw5
                            obtain ⟨p5, hp5⟩ := hw5
                            have hb5 := of_rg hp5
                            clear hp5 p5
                            have hb45 : Below wr.heap.size wr w5 := hbw.trans (hb5.mono (by omega))
                            have HG5 := Lib.hid (HGZ.out.next hb45)
                            have hw5 : Below W3.heap.size W3 w5 := hwZ.trans (hb45.mono hsZ)
                            have hc5 := (hb5.cell (p := ⟨gb, goff + x, none⟩) (show gb < w4.heap.size by omega)).trans hc4
                            go_wp2
                            go_roundw
                            case rel => exact ⟨k + 1, by omega, by go_num, by rw [HXX.out], HG5.out, hw5, hc5⟩
                            case measure => simp [intOf]; omega
                        · have e : k = ls.length := by omega
                          subst e
                          have HVE : Hid (tabV ls gd g x a = foldB (swp ls gd g) gd x a (ls.take ls.length)) := Lib.hid (by rw [HV.out, List.take_length])
                          generalize foldB (swp ls gd g) gd x a (ls.take ls.length) = bv at HVE ⊢
                          obtain ⟨gz, Az, cz, rz, hAz, hgz2, hrz, hvz, hoz, hcz, hfz⟩ := HGZ.out.rowI (i := x) (by rw [List.length_set, HOK.out.1]; exact hxl)
                          have hAz' : W3.heap.size = gz := by injection hAz with hAz; injection hAz
                          subst hAz'
                          have hrz' : partV ls gd g wh x a = rz := by rw [List.getElem?_set_self (by rw [HOK.out.1]; exact hxl)] at hrz; injection hrz
                          subst hrz'
                          have hplen : (partV ls gd g wh x a).length = wh + 1 := partV_len (by omega)
                          rw [hplen] at hvz hoz hcz
                          obtain ⟨iz, icap, hivz, hib, hizl⟩ := hoz.form (by omega)
                          injection hivz with e1 e2 e3
                          subst e1 e3
                          obtain ⟨zold, hzold, zc, zf⟩ := own_at1 hoz (k := a) (by omega)
                          have HTN : Hid (Grid (wr.setCell ⟨iz, a, none⟩ (.int .i64 bv)) W3.heap.size 59 3 1 (.slice (some ⟨W3.heap.size, 0, none⟩) N N) vs (flatsI (rows.set x (partV ls gd g wh x (a + 1))))) := Lib.hid (by
                            have := HGZ.out.turn (i := x) hvz ((hoz.stored a (.int .i64 bv)).2) (own_set1 hoz a bv)
                            rw [← flatsI_set, List.set_set, show (partV ls gd g wh x a).set a bv = partV ls gd g wh x (a + 1) from by rw [← partV_next (by omega), HVE.out]] at this
                            exact this)
                          have HW6 := Lib.hid (Below.setCell hwZ (show W3.heap.size ≤ (⟨iz, a, none⟩ : Addr).block from hib) (.int .i64 bv))
                          have a0' : (0 : Int) ≤ (a : Int) := by omega
                          have a1' : (a : Int) < (wh : Int) + 1 := by omega
                          clear hrz hvz hoz hzold hplen hfz
                          go_wp2
                          go_roundw
                          case rel => exact ⟨a + 1, vs, by omega, by go_num, HTN.out, HW6.out⟩
                          case measure => simp [intOf]; omega
                    · have HV : Hid (tabV ls gd g x a = -1) := Lib.hid (by rw [tabV, hgx]; simp)
                      rw [hgx] at hgc
                      go_wp2_with fail
                      go_loopw [17, 18] (fun bv kv wr => kv = .int .i64 0 ∧ bv = .int .i64 (-1) ∧ Grid wr W3.heap.size 59 3 1 (.slice (some ⟨W3.heap.size, 0, none⟩) N N) vs (flatsI (rows.set x (partV ls gd g wh x a))) ∧ Below W3.heap.size W3 wr ∧ wr.cell? ⟨gb, goff + x, none⟩ = some (.bool false)) (fun _ _ _ => 0)
                      case atStart => exact ⟨rfl, rfl, HGW.out, hwz, hgc⟩
                      case round =>
                        obtain ⟨rfl, rfl, hgz, hwZ, hgc'⟩ := hrel
                        have HGZ := Lib.hid hgz
                        clear hgz hgc
                        by_cases hl0 : 0 < ls.length
                        · obtain ⟨gz, Az, cz, rz, hAz, hgz2, hrz, hvz, hoz, hcz, hfz⟩ := HGZ.out.rowI (i := x) (by rw [List.length_set, HOK.out.1]; exact hxl)
                          have hAz' : W3.heap.size = gz := by injection hAz with hAz; injection hAz
                          subst hAz'
                          have hrz' : partV ls gd g wh x a = rz := by rw [List.getElem?_set_self (by rw [HOK.out.1]; exact hxl)] at hrz; injection hrz
                          subst hrz'
                          have hplen : (partV ls gd g wh x a).length = wh + 1 := partV_len (by omega)
                          rw [hplen] at hvz hoz hcz
                          obtain ⟨iz, icap, hivz, hib, hizl⟩ := hoz.form (by omega)
                          injection hivz with e1 e2 e3
                          subst e1 e3
                          obtain ⟨zold, hzold, zc, zf⟩ := own_at1 hoz (k := a) (by omega)
                          have HTN : Hid (Grid (wr.setCell ⟨iz, a, none⟩ (.int .i64 (-1))) W3.heap.size 59 3 1 (.slice (some ⟨W3.heap.size, 0, none⟩) N N) vs (flatsI (rows.set x (partV ls gd g wh x (a + 1))))) := Lib.hid (by
                            have := HGZ.out.turn (i := x) hvz ((hoz.stored a (.int .i64 (-1))).2) (own_set1 hoz a (-1))
                            rw [← flatsI_set, List.set_set, show (partV ls gd g wh x a).set a (-1) = partV ls gd g wh x (a + 1) from by rw [← partV_next (by omega), HV.out]] at this
                            exact this)
                          have HW6 := Lib.hid (Below.setCell hwZ (show W3.heap.size ≤ (⟨iz, a, none⟩ : Addr).block from hib) (.int .i64 (-1)))
                          have a0' : (0 : Int) ≤ (a : Int) := by omega
                          have a1' : (a : Int) < (wh : Int) + 1 := by omega
                          clear hrz hvz hoz hzold hplen hfz
                          go_wp2
                          go_roundw
                          case rel => exact ⟨a + 1, vs, by omega, by go_num, HTN.out, HW6.out⟩
                          case measure => simp [intOf]; omega
                        · obtain ⟨gz, Az, cz, rz, hAz, hgz2, hrz, hvz, hoz, hcz, hfz⟩ := HGZ.out.rowI (i := x) (by rw [List.length_set, HOK.out.1]; exact hxl)
                          have hAz' : W3.heap.size = gz := by injection hAz with hAz; injection hAz
                          subst hAz'
                          have hrz' : partV ls gd g wh x a = rz := by rw [List.getElem?_set_self (by rw [HOK.out.1]; exact hxl)] at hrz; injection hrz
                          subst hrz'
                          have hplen : (partV ls gd g wh x a).length = wh + 1 := partV_len (by omega)
                          rw [hplen] at hvz hoz hcz
                          obtain ⟨iz, icap, hivz, hib, hizl⟩ := hoz.form (by omega)
                          injection hivz with e1 e2 e3
                          subst e1 e3
                          obtain ⟨zold, hzold, zc, zf⟩ := own_at1 hoz (k := a) (by omega)
                          have HTN : Hid (Grid (wr.setCell ⟨iz, a, none⟩ (.int .i64 (-1))) W3.heap.size 59 3 1 (.slice (some ⟨W3.heap.size, 0, none⟩) N N) vs (flatsI (rows.set x (partV ls gd g wh x (a + 1))))) := Lib.hid (by
                            have := HGZ.out.turn (i := x) hvz ((hoz.stored a (.int .i64 (-1))).2) (own_set1 hoz a (-1))
                            rw [← flatsI_set, List.set_set, show (partV ls gd g wh x a).set a (-1) = partV ls gd g wh x (a + 1) from by rw [← partV_next (by omega), HV.out]] at this
                            exact this)
                          have HW6 := Lib.hid (Below.setCell hwZ (show W3.heap.size ≤ (⟨iz, a, none⟩ : Addr).block from hib) (.int .i64 (-1)))
                          have a0' : (0 : Int) ≤ (a : Int) := by omega
                          have a1' : (a : Int) < (wh : Int) + 1 := by omega
                          clear hrz hvz hoz hzold hplen hfz
                          go_wp2
                          go_roundw
                          case rel => exact ⟨a + 1, vs, by omega, by go_num, HTN.out, HW6.out⟩
                          case measure => simp [intOf]; omega
                · have e : a = wh + 1 := by omega
                  subst e
                  have haI : ¬ (((wh + 1 : Nat) : Int) ≤ (wh : Int)) := by omega
                  have HGE : Hid (Grid wr W3.heap.size 59 3 1 (.slice (some ⟨W3.heap.size, 0, none⟩) N N) vs (flatsI (rows.set x (F x)))) := Lib.hid (by have := HGW.out; rw [partV_end, HF.out] at this; exact this)
                  go_wp2
                  go_roundw
                  case rel => exact ⟨i + 1, _, vs, by omega, by go_num, by rw [HDH'.out]; go_num, tab_set HOK.out HX.out HPQ.out hpc1 hxl, HGE.out, hwz⟩
                  case measure => simp [intOf]; omega
            · have hpn : ((px : Int) != (cc : Int)) = true := by simpa using hpc
              have hpc' : px ≠ cc := by have : (px : Int) ≠ (cc : Int) := by simpa using hpc
                                        omega
              have HPQ : Hid (popc x ≠ cc) := Lib.hid (by rw [HPXX.out]; exact hpc')
              have HDK' := Lib.hid (HDK.out hpc')
              clear hpc'
              go_wp2_with fail
              refine (isI_ (sCountPegs_ ⟨w, h, s⟩ x x64 _) HPX.out).mono ?_
              rintro e w2 ⟨rfl, hb2'⟩
              have hw2 : Below W3.heap.size W3 w2 := hw.trans (hb2'.mono hsz)
              have HG2 := Lib.hid (HG.out.next hb2')
              go_wp2
              go_roundw
              case rel => exact ⟨i + 1, rows, vs, by omega, by go_num, by rw [HDK'.out], tab_skip HOK.out HX.out HPQ.out, HG2.out, hw2⟩
              case measure => simp [intOf]; omega
          · have e : i = R.length := by omega
            subst e
            go_wp2
            go_roundw
            case rel => exact ⟨cc + 1, rows, vs, by omega, by omega, by go_num, by rw [HD0.out], tab_level HOK.out, HG.out, hw⟩
            case measure => simp [intOf]; omega
      · have hcwI : ¬ (cc : Int) ≤ (wh : Int) := by omega
        have hcwI' : (wh : Int) < (cc : Int) := by omega
        go_wp2
        go_ret
        exact ⟨_, N, vs, rows, rfl, HOK.out.1, fun x hx hp => tab_next HOK.out hx hp (by have := HPC.out x (HCL.out x hx).1; omega) (HCL.out x hx).1, HG.out.base hW3.size, below_next hW3 hw⟩
    · have hdr' : ¬ ((dc : Int) < (R.length : Int)) := by omega
      have hdr2 : R.length ≤ dc := by omega
      go_wp2
      go_ret
      exact ⟨_, N, vs, rows, rfl, HOK.out.1, fun x hx hp => tab_next HOK.out hx hp (HFU.out hdr2 x hx) (HCL.out x hx).1, HG.out.base hW3.size, below_next hW3 hw⟩
end Go.Proofs.Ytliljgmpdfdakaa

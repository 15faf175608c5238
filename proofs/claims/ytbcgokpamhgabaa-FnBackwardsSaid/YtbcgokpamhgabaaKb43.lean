/- The contracts of SolvableHoles and PairsOf. -/
import Derived.Test.YtbcgokpamhgabaaChecked
import Derived.Test.YtbcgokpamhgabaaKb01
import Derived.Tactics
import Derived.Tactics2
import Derived.WalkKit
import Derived.WalkSpells
import Derived.WalkLawsBesides
import Derived.Deep.QuietTactic
import Derived.BigQuiet
import Derived.BigGuardPart
import Derived.Lib.QuietBelow
import Derived.OwnWalk
import Derived.KernelRfl
import Derived.BigRegion
import Derived.RegionTactic
import Derived.Deep.RegionWith
import Derived.Test.YtbcgokpamhgabaaKb41
import Derived.Test.YtbcgokpamhgabaaKb42
namespace Go.Proofs.Ytbcgokpamhgabaa
set_option linter.unusedVariables false
set_option maxRecDepth 20000
open Go.RowKit Go.Sort

theorem rd_non2 (w : World) (xs : List Value) (h : xs = []) : Rd w w.heap.size none xs := fun hn => by rw [h] at hn; simp at hn
/-- FinalsOf, its answer known. -/
theorem iFinals_on (w h s p : Nat) (hb : BdOk w h s) (h16 : w * h ≤ 16) (hp : I64 p) (fs : List Nat) (n : Nat) (hf : finalsL ⟨w, h, s⟩ p = fs) (hn : fs.length = n) (W : World) :
    Calls Try.prog 142 #[.agg #[.int .i64 w, .int .i64 h, .int .i64 s], .int .i64 p] W fun e w' => ∃ A c, e = .returned (.slice A n c) ∧ w'.ownsRow W.heap.size 3 1 (.slice A n c) n (ints (natL fs)) ∧ Below W.heap.size W w' := by
  subst hf hn
  exact iFinalsOf_ w h s p hb h16 hp W
theorem finals_le (b : Ln) (p : Int) : (finalsL b p).length ≤ 49 := Nat.le_trans (List.length_filter_le _ _) (holesL_le b)
set_option maxHeartbeats 2000000 in
theorem iSolvableHoles_ (w h s : Nat) (hb : BdOk w h s) (h16 : w * h ≤ 16) (W : World) :
    Calls Try.prog 77 #[.agg #[.int .i64 w, .int .i64 h, .int .i64 s]] W (GivesSlice W 3 1 (someL ⟨w, h, s⟩).length (ints (natL (someL ⟨w, h, s⟩)))) := by
  obtain ⟨i0, hi, hz0, hz1, hz2⟩ := info_parts infoInt
  have HBD := Lib.hid hb
  have H16 := Lib.hid h16
  have hrl := holesL_le ⟨w, h, s⟩
  have HBIT : Hid (∀ k ∈ holesL ⟨w, h, s⟩, s.testBit k = true ∧ k < 49) := Lib.hid fun k hk => ⟨(hole_bit hb hk).2, (bit63 w h s hb (hole_bit hb hk).2).2⟩
  have hS := small_of hb h16
  have HST0 : someL ⟨w, h, s⟩ = ftk (someF ⟨w, h, s⟩) (holesL ⟨w, h, s⟩) (holesL ⟨w, h, s⟩).length := (ftk_all _ _).symm
  have HPV0 : ∀ j, decide (0 < (finalsL ⟨w, h, s⟩ (fullB s j : Nat)).length) = someF ⟨w, h, s⟩ j := fun j => rfl
  obtain ⟨rs, hrs⟩ : ∃ rs, holesL ⟨w, h, s⟩ = rs := ⟨_, rfl⟩
  obtain ⟨P, hP⟩ : ∃ P, someF ⟨w, h, s⟩ = P := ⟨_, rfl⟩
  rw [hrs] at hrl HBIT HST0
  rw [hP] at HST0 HPV0
  have HHS := Lib.hid hrs
  have HPV := Lib.hid HPV0
  have HST := Lib.hid HST0
  clear hb h16 hrs hP HPV0 HST0
  go_enter Try.func77, Try.ntmps77
  go_wp2_with fail
  refine (is_ (iIsSmall_ ⟨w, h, s⟩ _) hS).mono ?_
  rintro e w1 ⟨rfl, hb1⟩
  obtain ⟨hc, hf⟩ := bcell hb1
  have z0 : W.heap.size < w1.heap.size := by have := hb1.size; (try simp at this); omega
  have hw1 : Below W.heap.size W w1 := below_step ((Below.refl _ _).alloc (Nat.le_refl _) _) hb1 (by (try simp))
  have c0 : w1.cell? ⟨W.heap.size, 0, none⟩ = some (.int .i64 w) := by rw [hc _ _ (by simp)]; simp [go_sem]
  have c1 : w1.cell? ⟨W.heap.size, 1, none⟩ = some (.int .i64 h) := by rw [hc _ _ (by simp)]; simp [go_sem]
  have c2 : w1.cell? ⟨W.heap.size, 2, none⟩ = some (.int .i64 s) := by rw [hc _ _ (by simp)]; simp [go_sem]
  clear hc hf
  have rdS := rd_non2 w1 [] rfl
  have hL0 : (w1.alloc (.cells #[] 3)).ownsRow W.heap.size 3 1 (.slice (some ⟨w1.heap.size, 0, none⟩) 0 0) 0 [] := own_base (World.ownsRow_lit w1 #[] 0 (Nat.le_refl _) (by simp [maxLen]) rfl) hw1.size
  have HLX := Lib.hid hL0
  have HRS1 := Lib.hid rdS
  clear hL0 rdS hb1
  go_wp2_with fail
  refine (iHolesOf_ ⟨w, h, s⟩ _).mono ?_
  rintro e W2 ⟨AR, cR, rfl, rdR, hb2⟩
  rw [HHS.out] at rdR ⊢
  have hA : Below w1.heap.size w1 (w1.alloc (.cells #[] 3)) := (Below.refl _ _).alloc (Nat.le_refl _) _
  have RS := Lib.hid (HRS1.out.next (below_next hA hb2))
  have HL0 := Lib.hid (own_next HLX.out hb2)
  have hW2 := below_next (below_next hw1 hA) hb2
  have hB2 : W.heap.size ≤ W2.heap.size := hW2.size
  have hz12 : w1.heap.size < W2.heap.size := by have := hb2.size; simp at this; omega
  have e0 := ((below_next hA hb2).cell (p := ⟨W.heap.size, 0, none⟩) z0).trans c0
  have e1 := ((below_next hA hb2).cell (p := ⟨W.heap.size, 1, none⟩) z0).trans c1
  have e2 := ((below_next hA hb2).cell (p := ⟨W.heap.size, 2, none⟩) z0).trans c2
  clear c0 c1 c2 hA hb2
  have c0 := e0
  have c1 := e1
  have c2 := e2
  have zW : W.heap.size < W2.heap.size := by omega
  clear e0 e1 e2
  obtain ⟨B0, hB0⟩ : ∃ B0, w1.heap.size = B0 := ⟨_, rfl⟩
  rw [hB0] at HL0 hz12 z0 ⊢
  clear hw1
  go_wp2_with fail
  go_loopw [3, 13] (fun v i wr => ∃ (k : Nat) (A' : Option Addr) (c' : Nat), k ≤ rs.length ∧ i = .int .i64 k ∧ v = .slice A' (ftk P rs k).length c' ∧ Slab wr W2.heap.size (some ⟨B0, 0, none⟩) 3 1 (.slice A' (ftk P rs k).length c') (ftk P rs k).length (ints (natL (ftk P rs k))) ∧ Below W2.heap.size W2 wr) (fun _ i _ => rs.length - (intOf i).toNat)
  case atStart => exact ⟨0, _, _, Nat.zero_le _, rfl, rfl, slab_zero _ _ _ _ _, Below.refl _ _⟩
  case round =>
    obtain ⟨k, A', c', hk, rfl, rfl, hs, hw⟩ := hrel
    have hle := ftk_le P rs k
    have hsz := hw.size
    by_cases hlt : k < rs.length
    · have hx : rs[k]? = some rs[k] := List.getElem?_eq_getElem hlt
      obtain ⟨hbit, h49⟩ := HBIT.out _ (List.getElem_mem hlt)
      generalize rs[k] = j at hx hbit h49
      obtain ⟨bb, off, rfl, hbb, x0⟩ := rd_nat (rdR.below hw) hx
      have hbz : bb < wr.heap.size := by omega
      have k0' : (0 : Int) ≤ (k : Int) := by omega
      have k1' : (k : Int) < (rs.length : Int) := by omega
      have j0' : (0 : Int) ≤ (j : Int) := by omega
      have d0 := (hw.cell (p := ⟨W.heap.size, 0, none⟩) zW).trans c0
      have d1 := (hw.cell (p := ⟨W.heap.size, 1, none⟩) zW).trans c1
      have d2 := (hw.cell (p := ⟨W.heap.size, 2, none⟩) zW).trans c2
      have zR : W.heap.size < wr.heap.size := by omega
      have HS := Lib.hid hs
      have HX := Lib.hid hx
      have HPJ := Lib.hid (HPV.out j)
      clear hs hx
      rcases Bool.eq_false_or_eq_true (P j) with ht | ht
      · have HY := Lib.hid (ftk_yes HX.out ht)
        obtain ⟨nf, hnf⟩ : ∃ nf, (finalsL ⟨w, h, s⟩ (fullB s j : Nat)).length = nf := ⟨_, rfl⟩
        have HNF := Lib.hid hnf
        have hnd : decide (0 < nf) = true := by rw [← hnf]; exact HPJ.out.trans ht
        have HX2 := Lib.hid ((Below.refl wr.heap.size wr).drew)
        have hfi : I64 ((fullB s j : Nat) : Int) := posB_i64 (full_pos HBD.out j)
        have hq1 : decide ((0 : Int) < (nf : Int)) = true := by rw [← hnd]; simp
        have hnl : (nf : Int) ≤ 49 := by have := finals_le ⟨w, h, s⟩ (fullB s j : Nat); rw [hnf] at this; omega
        clear hnf
        go_upto_region 7 with fail
        go_region_with (first
          | (go_at_call 138; refine (iFullBut_ w h s HBD.out j hbit _).mono ?_; rintro e w0 ⟨rfl, hb0⟩; have hX0 := below_next HX2.out hb0; have t0 := (hX0.cell (p := ⟨W.heap.size, 0, none⟩) zR).trans d0; have t1 := (hX0.cell (p := ⟨W.heap.size, 1, none⟩) zR).trans d1; have t2 := (hX0.cell (p := ⟨W.heap.size, 2, none⟩) zR).trans d2)
          | (go_at_call 142; refine (iFinals_on w h s (fullB s j) HBD.out H16.out hfi _ nf rfl HNF.out _).mono ?_; rintro e w1 ⟨AF, cF, rfl, -, hbF⟩; have hb1 := below_next hX0 hbF; clear hbF))
        all_goals
          have hs1 := HS.out.next hb1
          have hw1 := hw.trans (hb1.mono hsz)
          have hsz1 : W2.heap.size ≤ w1.heap.size := hw1.size
          clear x0 ht d0 d1 d2
          go_wp2_with (first | (at_builtin; refine wpList_append_slab _ rfl (.tmp 24) (.tmp 26) 69 rfl W2.heap.size (some ⟨B0, 0, none⟩) 3 i0 (.int .i64 0) 1 8 Try.underlying69 hi hz0 hz1 hz2 rfl (by decide) _ _ _ rfl (hs1.alloc _) ⟨w1.heap.size, 0, none⟩ 1 1 [.int .i64 j] rfl rfl (cell_one_new _ _ _) (by intro u hu; simp at hu; subst hu; rfl) (by omega) (by unfold maxLen; omega) (by omega) (by have := hsz1; simp; omega) ?_; intro g cap wA ownA hbA))
          have HO := Lib.hid ownA
          have hwA : Below W2.heap.size W2 wA := (hw1.alloc hsz1 _).trans hbA
          clear hs1 ownA
          go_wp2
          go_roundw
          case rel => exact ⟨k + 1, some ⟨g, 0, none⟩, cap, by omega, by go_num, by rw [HY.out]; simp, .inl (by rw [HY.out]; simpa [ints, natL] using HO.out), hwA⟩
          case measure => simp [intOf]; omega
      · have HY := Lib.hid (ftk_no HX.out ht)
        obtain ⟨nf, hnf⟩ : ∃ nf, (finalsL ⟨w, h, s⟩ (fullB s j : Nat)).length = nf := ⟨_, rfl⟩
        have HNF := Lib.hid hnf
        have hnd : decide (0 < nf) = false := by rw [← hnf]; exact HPJ.out.trans ht
        have HX2 := Lib.hid ((Below.refl wr.heap.size wr).drew)
        have hfi : I64 ((fullB s j : Nat) : Int) := posB_i64 (full_pos HBD.out j)
        have hq1 : decide ((0 : Int) < (nf : Int)) = false := by rw [← hnd]; simp
        have hnl : (nf : Int) ≤ 49 := by have := finals_le ⟨w, h, s⟩ (fullB s j : Nat); rw [hnf] at this; omega
        clear hnf
        go_upto_region 7 with fail
        go_region_with (first
          | (go_at_call 138; refine (iFullBut_ w h s HBD.out j hbit _).mono ?_; rintro e w0 ⟨rfl, hb0⟩; have hX0 := below_next HX2.out hb0; have t0 := (hX0.cell (p := ⟨W.heap.size, 0, none⟩) zR).trans d0; have t1 := (hX0.cell (p := ⟨W.heap.size, 1, none⟩) zR).trans d1; have t2 := (hX0.cell (p := ⟨W.heap.size, 2, none⟩) zR).trans d2)
          | (go_at_call 142; refine (iFinals_on w h s (fullB s j) HBD.out H16.out hfi _ nf rfl HNF.out _).mono ?_; rintro e w1 ⟨AF, cF, rfl, -, hbF⟩; have hb1 := below_next hX0 hbF; clear hbF))
        all_goals
          have hs1 := Lib.hid (HS.out.next hb1)
          have hw1 := hw.trans (hb1.mono hsz)
          clear ht d0 d1 d2
          go_wp2
          go_roundw
          case rel => exact ⟨k + 1, A', c', by omega, by go_num, by rw [HY.out], by rw [HY.out]; exact hs1.out, hw1⟩
          case measure => simp [intOf]; omega
    · have e : k = rs.length := by omega
      subst e
      have HF := Lib.hid (hs.end (own_below HL0.out hw (fun g hg => by simp [Value.ownBlock] at hg; omega)) hB2)
      clear hs
      go_wp2
      go_ret
      exact ⟨_, _, ret_slice (by rw [HST.out]), by rw [HST.out]; exact HF.out, hW2.trans (hw.mono hB2)⟩
theorem infoII : (Try.prog.info? 69).map (fun i => (i.zero, i.size, i.bytes)) = some (some (.slice none 0 0), 1, 24) := by kernel_rfl
/-- The pairs so far, and those of j with the first i. -/
def pairsI (ps0 : List (Nat × Nat)) (j : Nat) (fs : List Nat) (i : Nat) : List (Nat × Nat) := ps0 ++ (fs.take i).map fun y => (j, y)
theorem pairsI_zero (ps0 : List (Nat × Nat)) (j : Nat) (fs : List Nat) : pairsI ps0 j fs 0 = ps0 := by simp [pairsI]
theorem pairsI_next {ps0 : List (Nat × Nat)} {j i m : Nat} {fs : List Nat} (h : fs[i]? = some m) : pairsI ps0 j fs (i + 1) = pairsI ps0 j fs i ++ [(j, m)] := by
  rw [pairsI, List.take_add_one, h, Option.toList_some, List.map_append, ← List.append_assoc]
  rfl
theorem pairsI_all (ps0 : List (Nat × Nat)) (j : Nat) (fs : List Nat) : pairsI ps0 j fs fs.length = ps0 ++ fs.map fun y => (j, y) := by rw [pairsI, List.take_length]
theorem pairsI_le (ps0 : List (Nat × Nat)) (j : Nat) (fs : List Nat) (i : Nat) : (pairsI ps0 j fs i).length ≤ ps0.length + fs.length := by
  rw [pairsI, List.length_append, List.length_map, List.length_take]
  omega
theorem pairsK_le {F : Nat → List Nat} (hF : ∀ x, (F x).length ≤ 49) (hs : List Nat) : ∀ k, (pairsK F hs k).length ≤ 49 * k
  | 0 => by simp [pairsK]
  | k + 1 => by
    have := pairsK_le hF hs k
    rcases Nat.lt_or_ge k hs.length with h | h
    · rw [pairsK_next (List.getElem?_eq_getElem h), List.length_append, List.length_map]
      have := hF hs[k]
      omega
    · have e : pairsK F hs (k + 1) = pairsK F hs k := by rw [pairsK, pairsK, List.take_of_length_le (by omega), List.take_of_length_le (by omega)]
      rw [e]
      omega
theorem cell_two_new (w : World) (o : Obj) (x : Value) (t : TypeId) : ∀ j u, [x][j]? = some u → ((w.alloc o).alloc (.cells #[x] t)).cell? ((⟨w.heap.size + 1, 0, none⟩ : Addr).add j) = some u := by
  have := cell_one_new (w.alloc o) x t
  simpa using this
theorem own_row {w : World} {base T : Nat} {A : Option Addr} {n c i x : Nat} {fs : List Nat} (h : w.ownsRow base T 1 (.slice A n c) n (ints (natL fs))) (hx : fs[i]? = some x) :
    ∃ b off, A = some ⟨b, off, none⟩ ∧ base ≤ b ∧ b < w.heap.size ∧ w.cell? ⟨b, off + i, none⟩ = some (.int .i64 x) := by
  obtain ⟨b, off, rfl, hb, hc⟩ := rd_nat (rd_of_own h) hx
  exact ⟨b, off, rfl, (h.lt b rfl).1, hb, hc⟩
def GivesPrs (W : World) (T : TypeId) (ps : List (Nat × Nat)) (e : Ending) (w' : World) : Prop :=
  ∃ A c base v0, e = .returned (.slice A ps.length c) ∧ Prs w' base v0 T (.slice A ps.length c) ps ∧ Below W.heap.size W w'
set_option maxHeartbeats 4000000 in
theorem iPairsOf_ (w h s : Nat) (hb : BdOk w h s) (h16 : w * h ≤ 16) (n12 : Nat) (hn12 : popc s = n12) (h12 : n12 ≤ 12) (W : World) :
    Calls Try.prog 76 #[.agg #[.int .i64 w, .int .i64 h, .int .i64 s]] W (GivesPrs W 69 (pairsL ⟨w, h, s⟩)) := by
  obtain ⟨i0, hi, hz0, hz1, hz2⟩ := info_parts infoInt
  have HBD := Lib.hid hb
  have H16 := Lib.hid h16
  have hrl := holesL_le ⟨w, h, s⟩
  have HBIT : Hid (∀ k ∈ holesL ⟨w, h, s⟩, s.testBit k = true ∧ k < 49) := Lib.hid fun k hk => ⟨(hole_bit hb hk).2, (bit63 w h s hb (hole_bit hb hk).2).2⟩
  obtain ⟨i1, hj, hy0, hy1, hy2⟩ := info_parts infoII
  have hS := small_of hb h16
  have hCN : ((popc s : Nat) : Int) = (n12 : Int) := by omega
  have s16 : s < 65536 := Nat.lt_of_lt_of_le hb.s2 (Nat.pow_le_pow_right (n := 2) (j := 16) (by omega) h16)
  have hn3 : (n12 : Int) ≤ 12 := by omega
  have HFL : ∀ x, (finN ⟨w, h, s⟩ x).length ≤ 49 := fun x => finals_le _ _
  have HST0 : pairsL ⟨w, h, s⟩ = pairsK (finN ⟨w, h, s⟩) (holesL ⟨w, h, s⟩) (holesL ⟨w, h, s⟩).length := rfl
  have HFE0 : ∀ j, finalsL ⟨w, h, s⟩ (fullB s j : Nat) = finN ⟨w, h, s⟩ j := fun j => rfl
  obtain ⟨rs, hrs⟩ : ∃ rs, holesL ⟨w, h, s⟩ = rs := ⟨_, rfl⟩
  obtain ⟨F, hF⟩ : ∃ F, finN ⟨w, h, s⟩ = F := ⟨_, rfl⟩
  rw [hrs] at hrl HBIT HST0
  rw [hF] at HST0 HFE0 HFL
  have HPL := Lib.hid (pairsK_le HFL rs)
  have HFLH := Lib.hid HFL
  have HHS := Lib.hid hrs
  have HFE := Lib.hid HFE0
  have HST := Lib.hid HST0
  have HS16 := Lib.hid s16
  clear hb h16 hrs hF HST0 HFE0 HFL hn12 h12 s16
  go_enter Try.func76, Try.ntmps76
  go_wp2_with fail
  refine (is_ (iIsSmall_ ⟨w, h, s⟩ _) hS).mono ?_
  rintro e w9 ⟨rfl, hb9⟩
  obtain ⟨hc, hf⟩ := bcell hb9
  have z9 : W.heap.size < w9.heap.size := by have := hb9.size; (try simp at this); omega
  have hw9 : Below W.heap.size W w9 := below_step ((Below.refl _ _).alloc (Nat.le_refl _) _) hb9 (by (try simp))
  have b0 : w9.cell? ⟨W.heap.size, 0, none⟩ = some (.int .i64 w) := by rw [hc _ _ (by simp)]; simp [go_sem]
  have b1 : w9.cell? ⟨W.heap.size, 1, none⟩ = some (.int .i64 h) := by rw [hc _ _ (by simp)]; simp [go_sem]
  have b2 : w9.cell? ⟨W.heap.size, 2, none⟩ = some (.int .i64 s) := by rw [hc _ _ (by simp)]; simp [go_sem]
  clear hc hf hb9
  go_wp2_with fail
  refine (isI_ (iCountHoles_ w h s HBD.out HS16.out _) hCN).mono ?_
  rintro e w1 ⟨rfl, hb1⟩
  have c0 := (hb1.cell (p := ⟨W.heap.size, 0, none⟩) z9).trans b0
  have c1 := (hb1.cell (p := ⟨W.heap.size, 1, none⟩) z9).trans b1
  have c2 := (hb1.cell (p := ⟨W.heap.size, 2, none⟩) z9).trans b2
  have z0 : W.heap.size < w1.heap.size := by have := hb1.size; omega
  have hw1 := below_next hw9 hb1
  clear b0 b1 b2 hw9 hb1 hCN
  go_wp2_with fail
  refine (iHolesOf_ ⟨w, h, s⟩ _).mono ?_
  rintro e W2 ⟨AR, cR, rfl, rdR, hb2⟩
  rw [HHS.out] at rdR ⊢
  have hA : Below w1.heap.size w1 (w1.alloc (.cells #[] 69)) := (Below.refl _ _).alloc (Nat.le_refl _) _
  have hW2 := below_next (below_next hw1 hA) hb2
  have hB2 : W.heap.size ≤ W2.heap.size := hW2.size
  have hz12 : w1.heap.size < W2.heap.size := by have := hb2.size; simp at this; omega
  have e0 := ((below_next hA hb2).cell (p := ⟨W.heap.size, 0, none⟩) z0).trans c0
  have e1 := ((below_next hA hb2).cell (p := ⟨W.heap.size, 1, none⟩) z0).trans c1
  have e2 := ((below_next hA hb2).cell (p := ⟨W.heap.size, 2, none⟩) z0).trans c2
  clear c0 c1 c2 hA hb2
  have c0 := e0
  have c1 := e1
  have c2 := e2
  have zW : W.heap.size < W2.heap.size := by omega
  clear e0 e1 e2
  obtain ⟨B0, hB0⟩ : ∃ B0, w1.heap.size = B0 := ⟨_, rfl⟩
  rw [hB0] at hz12 z0 ⊢
  have HV0 : Hid (∀ g, (Value.slice (some ⟨B0, 0, none⟩) 0 0).ownBlock = some g → g < W2.heap.size) := Lib.hid (fun g hg => by simp [Value.ownBlock] at hg; omega)
  clear hw1
  go_wp2_with fail
  go_loopw [3, 20] (fun v i wr => ∃ (k : Nat) (A' : Option Addr) (c' : Nat), k ≤ rs.length ∧ i = .int .i64 k ∧ v = .slice A' (pairsK F rs k).length c' ∧ Prs wr W2.heap.size (some ⟨B0, 0, none⟩) 69 (.slice A' (pairsK F rs k).length c') (pairsK F rs k) ∧ Below W2.heap.size W2 wr) (fun _ i _ => rs.length - (intOf i).toNat)
  case atStart => exact ⟨0, _, _, Nat.zero_le _, rfl, rfl, prs_nil _ _ _ _, Below.refl _ _⟩
  case round =>
    obtain ⟨k, A', c', hk, rfl, rfl, hs, hw⟩ := hrel
    have hlen := HPL.out k
    have hsz := hw.size
    by_cases hlt : k < rs.length
    · have hx : rs[k]? = some rs[k] := List.getElem?_eq_getElem hlt
      obtain ⟨hbit, h49⟩ := HBIT.out _ (List.getElem_mem hlt)
      generalize rs[k] = j at hx hbit h49
      have HNX := Lib.hid (pairsK_next (F := F) hx)
      obtain ⟨bb, off, rfl, hbb, x0⟩ := rd_nat (rdR.below hw) hx
      have hbz : bb < wr.heap.size := by omega
      have k0' : (0 : Int) ≤ (k : Int) := by omega
      have k1' : (k : Int) < (rs.length : Int) := by omega
      have j0' : (0 : Int) ≤ (j : Int) := by omega
      have d0 := (hw.cell (p := ⟨W.heap.size, 0, none⟩) zW).trans c0
      have d1 := (hw.cell (p := ⟨W.heap.size, 1, none⟩) zW).trans c1
      have d2 := (hw.cell (p := ⟨W.heap.size, 2, none⟩) zW).trans c2
      have zR : W.heap.size < wr.heap.size := by omega
      obtain ⟨ps0, hps⟩ : ∃ ps0, pairsK F rs k = ps0 := ⟨_, rfl⟩
      rw [hps] at hs hlen HNX ⊢
      have HFI := Lib.hid (HFE.out j)
      have hfl := HFLH.out j
      obtain ⟨fs, hfs⟩ : ∃ fs, F j = fs := ⟨_, rfl⟩
      rw [hfs] at HFI hfl HNX
      obtain ⟨nf, hnf⟩ : ∃ nf, fs.length = nf := ⟨_, rfl⟩
      have HNF := Lib.hid hnf
      have HS := Lib.hid hs
      rw [hnf] at hfl
      have hkl : 49 * k ≤ 2401 := by omega
      have HOLT : Hid (∀ g, (Value.slice A' ps0.length c').ownBlock = some g → g < wr.heap.size) := Lib.hid (by obtain ⟨vs, hv⟩ := hs; exact hv.1.olt HV0.out hsz)
      obtain ⟨n0, hn0⟩ : ∃ n0, ps0.length = n0 := ⟨_, rfl⟩
      have HN0 := Lib.hid hn0
      rw [hn0] at HS HOLT hlen ⊢
      have HX2 := Lib.hid ((Below.refl wr.heap.size wr).drew)
      have hfi : I64 ((fullB s j : Nat) : Int) := posB_i64 (full_pos HBD.out j)
      clear hs hx hps hfs hnf hn0
      go_upto_region 7 with fail
      go_cut [28, 29, 30] (fun a b d wc => ∃ (AF : Option Addr) (cF : Nat), a = .slice AF nf cF ∧ b = .int .i64 nf ∧ d = .int .i64 0 ∧ wc.ownsRow wr.heap.size 3 1 (.slice AF nf cF) nf (ints (natL fs)) ∧ Below wr.heap.size wr wc)
      case first =>
        go_region_with (first
          | (go_at_call 138; refine (iFullBut_ w h s HBD.out j hbit _).mono ?_; rintro e w0 ⟨rfl, hb0⟩; have hX0 := below_next HX2.out hb0; have t0 := (hX0.cell (p := ⟨W.heap.size, 0, none⟩) zR).trans d0; have t1 := (hX0.cell (p := ⟨W.heap.size, 1, none⟩) zR).trans d1; have t2 := (hX0.cell (p := ⟨W.heap.size, 2, none⟩) zR).trans d2)
          | (go_at_call 142; refine (iFinals_on w h s (fullB s j) HBD.out H16.out hfi fs nf HFI.out HNF.out _).mono ?_; rintro e w5 ⟨AF, cF, rfl, ownF, hbF⟩; have hb5 := below_next hX0 hbF; have HOF := Lib.hid ownF; have hz0F := hX0.size; clear hbF ownF))
        all_goals
          go_wp2_with fail
          go_meet
          exact ⟨AF, cF, rfl, rfl, rfl, own_base HOF.out hz0F, hb5⟩
      case rest =>
        obtain ⟨AF, cF, rfl, rfl, rfl, ownF, hb5⟩ := hcut
        have HOF := Lib.hid ownF
        clear ownF
        have HS5 := Lib.hid (HS.out.next hb5)
        have hw5 := hw.trans (hb5.mono hsz)
        have hz5 := hb5.size
        clear d0 d1 d2 x0
        go_wp2_with fail
        go_loopw [3, 30] (fun v iv wx => ∃ (i : Nat) (A'' : Option Addr) (c'' : Nat), i ≤ nf ∧ iv = .int .i64 i ∧ v = .slice A'' (pairsI ps0 j fs i).length c'' ∧ Prs wx W2.heap.size (some ⟨B0, 0, none⟩) 69 (.slice A'' (pairsI ps0 j fs i).length c'') (pairsI ps0 j fs i) ∧ Below W2.heap.size W2 wx ∧ wc.grownBy wx (Value.slice A' n0 c').ownBlock ∧ ∀ g, (Value.slice A'' (pairsI ps0 j fs i).length c'').ownBlock = some g → (Value.slice A' n0 c').ownBlock = some g ∨ wc.heap.size ≤ g) (fun _ iv _ => nf - (intOf iv).toNat)
        case atStart => exact ⟨0, A', c', Nat.zero_le _, rfl, by rw [pairsI_zero, HN0.out], by rw [pairsI_zero, HN0.out]; exact HS5.out, hw5, World.grownBy.refl _ _, fun g hg => by rw [pairsI_zero, HN0.out] at hg; exact .inl hg⟩
        case round =>
          rename World => wx
          obtain ⟨i, A'', c'', hi, rfl, rfl, hp, hwx, hgx, hob⟩ := hrel
          have hil := pairsI_le ps0 j fs i
          rw [HN0.out, HNF.out] at hil
          have HGX := Lib.hid hgx
          have HOB := Lib.hid hob
          have hzx := hgx.size
          have hzw := hwx.size
          by_cases hif : i < nf
          · have hm : fs[i]? = some (fs[i]'(by rw [HNF.out]; exact hif)) := List.getElem?_eq_getElem _
            generalize fs[i]'(by rw [HNF.out]; exact hif) = m at hm
            have HI := Lib.hid (pairsI_next (ps0 := ps0) (j := j) hm)
            obtain ⟨bF, off2, hAF, hbF1, hbF2, x1⟩ := own_row HOF.out hm
            subst hAF
            have y1 := (World.cell?_of_block (a := ⟨bF, off2 + i, none⟩) (hgx.block bF hbF2 (fun e => by have := HOLT.out bF e.symm; omega))).trans x1
            have hbFx : bF < wx.heap.size := by omega
            have i0' : (0 : Int) ≤ (i : Int) := by omega
            have i1' : (i : Int) < (nf : Int) := by omega
            obtain ⟨vs, hv⟩ := hp
            have HV := Lib.hid hv
            generalize pairsI ps0 j fs i = ps at *
            clear hv hm x1 hgx hob
            go_wp2_with (first | (at_builtin; refine wpList_append_slab_at _ rfl (.tmp 34) (.tmp 38) 78 rfl W2.heap.size (some ⟨B0, 0, none⟩) 69 i1 (.slice none 0 0) 1 24 Try.underlying78 hj hy0 hy1 hy2 rfl (by decide) _ _ _ rfl ((HV.out.1.alloc _).alloc _) ⟨wx.heap.size + 1, 0, none⟩ 1 1 [.slice (some ⟨wx.heap.size, 0, none⟩) 2 2] rfl rfl (cell_two_new _ _ _ _) (by intro u hu; simp at hu; subst hu; rfl) (by omega) (by unfold maxLen; omega) (by omega) (by simp; omega) ?_; intro g cap wA ownA hbA hgA hatA))
            have hat2 : (Value.slice (some ⟨g, 0, none⟩) (ps.length + 1) cap).ownBlock = (Value.slice A'' ps.length c'').ownBlock ∨ (Value.slice (some ⟨g, 0, none⟩) (ps.length + 1) cap).ownBlock = some (wx.heap.size + 2) := by
              rcases hatA with e | e
              · exact .inl e
              · right; rw [e]; simp
            have HPA := Lib.hid (HV.out.push HV0.out hzw ownA hgA hat2)
            have HGA := Lib.hid (grown_or2 ((HGX.out.trans (World.grownBy_alloc _ _ _)).trans (World.grownBy_alloc _ _ _)) hgA HOB.out)
            have HWA : Hid (Below W2.heap.size W2 wA) := Lib.hid ((((hwx.alloc hzw _).alloc (by simp; omega) _)).trans hbA)
            have HOA : Hid (∀ g', (Value.slice (some ⟨g, 0, none⟩) (ps.length + 1) cap).ownBlock = some g' → (Value.slice A' n0 c').ownBlock = some g' ∨ wc.heap.size ≤ g') := Lib.hid (fun g' hg' => by
              rcases hat2 with e | e
              · exact HOB.out g' (e.symm.trans hg')
              · rw [hg'] at e; injection e with e; right; omega)
            clear ownA hgA hatA hbA hat2
            go_wp2
            go_roundw
            case rel => exact ⟨i + 1, some ⟨g, 0, none⟩, cap, by omega, by go_num, by rw [HI.out]; simp, by rw [HI.out]; simpa using HPA.out, HWA.out, HGA.out, by rw [HI.out]; simpa using HOA.out⟩
            case measure => simp [intOf]; omega
          · have e : i = nf := by omega
            have HPN : Hid (pairsI ps0 j fs i = pairsK F rs (k + 1)) := Lib.hid (by rw [e, ← HNF.out, pairsI_all, HNX.out])
            have HP := Lib.hid hp
            clear hp hgx hob
            go_wp2
            go_roundw
            case rel => exact ⟨k + 1, A'', c'', by omega, by go_num, by rw [← HPN.out], by rw [← HPN.out]; exact HP.out, hwx⟩
            case measure => simp [intOf]; omega
    · have e : k = rs.length := by omega
      subst e
      have HS := Lib.hid hs
      clear hs
      go_wp2
      go_ret
      exact ⟨_, _, _, _, ret_slice (by rw [HST.out]), by rw [HST.out]; exact HS.out, hW2.trans (hw.mono hB2)⟩
end Go.Proofs.Ytbcgokpamhgabaa

/- The contracts of BackOf, CountBack, StartsFor, FinalsOf, SolvableHoles. -/
import Derived.Test.YtbcgokpamhgabaaChecked
import Derived.Test.YtbcgokpamhgabaaKb01
import Derived.Tactics
import Derived.Tactics2
import Derived.WalkKit
import Derived.WalkSpells
import Derived.WalkLawsBesides
import Derived.Deep.QuietTactic
import Derived.BigQuiet
import Derived.BigGuardPart
import Derived.Lib.QuietBelow
import Derived.OwnWalk
import Derived.KernelRfl
import Derived.BigRegion
import Derived.RegionTactic
import Derived.Deep.RegionWith
import Derived.Test.YtbcgokpamhgabaaKb40
namespace Go.Proofs.Ytbcgokpamhgabaa
set_option linter.unusedVariables false
set_option maxRecDepth 20000
open Go.RowKit Go.Sort

set_option maxHeartbeats 1000000 in
theorem iBackOf_ (b : Ln) (p : Int) (hp : I64 p) (W : World) :
    Calls Try.prog 68 #[.agg #[.int .i64 b.f, .int .i64 b.o, .int .i64 b.t], .int .i64 p] W (GivesSlice W 3 1 (reachL b p true).length (ints (natL (reachL b p true)))) := by
  have hle := spreadL_le b p true
  go_enter Try.func68, Try.ntmps68
  go_wp2_with fail
  refine (spreadOf_ b p true hp _).mono ?_
  rintro e w1 ⟨A, c, rfl, rd, hb1⟩
  have hw1 : Below W.heap.size W w1 := below_step ((Below.refl _ _).alloc (Nat.le_refl _) _) hb1 (by (try simp))
  go_wp2_with fail
  refine (list_ _ A c hle _ rd).mono ?_
  rintro e w2 ⟨A2, c2, rfl, own2, hb2⟩
  have HO := Lib.hid (own_base own2 hw1.size)
  clear own2
  go_wp2
  go_ret
  exact ⟨A2, c2, rfl, HO.out, below_next hw1 hb2⟩
set_option maxHeartbeats 1000000 in
theorem iCountBack_ (b : Ln) (p : Int) (hp : I64 p) (W : World) :
    Calls Try.prog 70 #[.agg #[.int .i64 b.f, .int .i64 b.o, .int .i64 b.t], .int .i64 p] W fun e w' => e = .returned (.int .i64 ((reachL b p true).length : Nat)) ∧ Below W.heap.size W w' := by
  go_enter Try.func70, Try.ntmps70
  go_wp2_with fail
  refine (iBackOf_ b p hp _).mono ?_
  rintro e w1 ⟨A, c, rfl, -, hb1⟩
  have hw1 : Below W.heap.size W w1 := below_step ((Below.refl _ _).alloc (Nat.le_refl _) _) hb1 (by (try simp))
  go_wp2
  go_ret
  exact ⟨rfl, hw1⟩
set_option maxHeartbeats 2000000 in
theorem iStartsFor_ (w h s p : Nat) (hb : BdOk w h s) (h16 : w * h ≤ 16) (hp : I64 p) (W : World) :
    Calls Try.prog 71 #[.agg #[.int .i64 w, .int .i64 h, .int .i64 s], .int .i64 p] W (GivesSlice W 3 1 (startsL ⟨w, h, s⟩ p).length (ints (natL (startsL ⟨w, h, s⟩ p)))) := by
  obtain ⟨i0, hi, hz0, hz1, hz2⟩ := info_parts infoInt
  have HBD := Lib.hid hb
  have H16 := Lib.hid h16
  have hrl := holesL_le ⟨w, h, s⟩
  have HBIT : Hid (∀ k ∈ holesL ⟨w, h, s⟩, s.testBit k = true ∧ k < 49) := Lib.hid fun k hk => ⟨(hole_bit hb hk).2, (bit63 w h s hb (hole_bit hb hk).2).2⟩
  have hnb := spreadL_le ⟨w, h, s⟩ p true
  have HST0 : startsL ⟨w, h, s⟩ p = ftk (startF ⟨w, h, s⟩ p) (holesL ⟨w, h, s⟩) (holesL ⟨w, h, s⟩).length := (ftk_all _ _).symm
  have HPV0 : ∀ j, hasB (spreadL ⟨w, h, s⟩ p true) (fullB s j : Nat) = startF ⟨w, h, s⟩ p j := fun j => rfl
  obtain ⟨rs, hrs⟩ : ∃ rs, holesL ⟨w, h, s⟩ = rs := ⟨_, rfl⟩
  obtain ⟨bs, hbs⟩ : ∃ bs, spreadL ⟨w, h, s⟩ p true = bs := ⟨_, rfl⟩
  obtain ⟨P, hP⟩ : ∃ P, startF ⟨w, h, s⟩ p = P := ⟨_, rfl⟩
  rw [hrs] at hrl HBIT HST0
  rw [hP] at HST0 HPV0
  rw [hbs] at hnb HPV0
  obtain ⟨nb, hnbl⟩ : ∃ nb, bs.length = nb := ⟨_, rfl⟩
  rw [hnbl] at hnb
  have HBL := Lib.hid hnbl
  have HHS := Lib.hid hrs
  have HBS := Lib.hid hbs
  have HPV := Lib.hid HPV0
  have HST := Lib.hid HST0
  clear hb h16 hrs hbs hP hnbl HPV0 HST0
  go_enter Try.func71, Try.ntmps71
  go_wp2_with fail
  refine (spreadOf_ ⟨w, h, s⟩ p true hp _).mono ?_
  rintro e w1 ⟨AS, cS, rfl, rdS, hb1⟩
  rw [HBS.out] at rdS ⊢
  rw [HBL.out]
  obtain ⟨hc, hf⟩ := bcell hb1
  have z0 : W.heap.size < w1.heap.size := by have := hb1.size; (try simp at this); omega
  have hw1 : Below W.heap.size W w1 := below_step ((Below.refl _ _).alloc (Nat.le_refl _) _) hb1 (by (try simp))
  have c0 : w1.cell? ⟨W.heap.size, 0, none⟩ = some (.int .i64 w) := by rw [hc _ _ (by simp)]; simp [go_sem]
  have c1 : w1.cell? ⟨W.heap.size, 1, none⟩ = some (.int .i64 h) := by rw [hc _ _ (by simp)]; simp [go_sem]
  have c2 : w1.cell? ⟨W.heap.size, 2, none⟩ = some (.int .i64 s) := by rw [hc _ _ (by simp)]; simp [go_sem]
  clear hc hf
  have hL0 : (w1.alloc (.cells #[] 3)).ownsRow W.heap.size 3 1 (.slice (some ⟨w1.heap.size, 0, none⟩) 0 0) 0 [] := own_base (World.ownsRow_lit w1 #[] 0 (Nat.le_refl _) (by simp [maxLen]) rfl) hw1.size
  have HLX := Lib.hid hL0
  have HRS1 := Lib.hid rdS
  clear hL0 rdS hb1
  go_wp2_with fail
  refine (iHolesOf_ ⟨w, h, s⟩ _).mono ?_
  rintro e W2 ⟨AR, cR, rfl, rdR, hb2⟩
  rw [HHS.out] at rdR ⊢
  have hA : Below w1.heap.size w1 (w1.alloc (.cells #[] 3)) := (Below.refl _ _).alloc (Nat.le_refl _) _
  have RS := Lib.hid (HRS1.out.next (below_next hA hb2))
  have HL0 := Lib.hid (own_next HLX.out hb2)
  have hW2 := below_next (below_next hw1 hA) hb2
  have hB2 : W.heap.size ≤ W2.heap.size := hW2.size
  have hz12 : w1.heap.size < W2.heap.size := by have := hb2.size; simp at this; omega
  have e0 := ((below_next hA hb2).cell (p := ⟨W.heap.size, 0, none⟩) z0).trans c0
  have e1 := ((below_next hA hb2).cell (p := ⟨W.heap.size, 1, none⟩) z0).trans c1
  have e2 := ((below_next hA hb2).cell (p := ⟨W.heap.size, 2, none⟩) z0).trans c2
  clear c0 c1 c2 hA hb2
  have c0 := e0
  have c1 := e1
  have c2 := e2
  have zW : W.heap.size < W2.heap.size := by omega
  clear e0 e1 e2
  obtain ⟨B0, hB0⟩ : ∃ B0, w1.heap.size = B0 := ⟨_, rfl⟩
  rw [hB0] at HL0 hz12 z0 ⊢
  clear hw1
  go_wp2_with fail
  go_loopw [6, 16] (fun v i wr => ∃ (k : Nat) (A' : Option Addr) (c' : Nat), k ≤ rs.length ∧ i = .int .i64 k ∧ v = .slice A' (ftk P rs k).length c' ∧ Slab wr W2.heap.size (some ⟨B0, 0, none⟩) 3 1 (.slice A' (ftk P rs k).length c') (ftk P rs k).length (ints (natL (ftk P rs k))) ∧ Below W2.heap.size W2 wr) (fun _ i _ => rs.length - (intOf i).toNat)
  case atStart => exact ⟨0, _, _, Nat.zero_le _, rfl, rfl, slab_zero _ _ _ _ _, Below.refl _ _⟩
  case round =>
    obtain ⟨k, A', c', hk, rfl, rfl, hs, hw⟩ := hrel
    have hle := ftk_le P rs k
    have hsz := hw.size
    by_cases hlt : k < rs.length
    · have hx : rs[k]? = some rs[k] := List.getElem?_eq_getElem hlt
      obtain ⟨hbit, h49⟩ := HBIT.out _ (List.getElem_mem hlt)
      generalize rs[k] = j at hx hbit h49
      obtain ⟨bb, off, rfl, hbb, x0⟩ := rd_nat (rdR.below hw) hx
      have hbz : bb < wr.heap.size := by omega
      have k0' : (0 : Int) ≤ (k : Int) := by omega
      have k1' : (k : Int) < (rs.length : Int) := by omega
      have j0' : (0 : Int) ≤ (j : Int) := by omega
      have d0 := (hw.cell (p := ⟨W.heap.size, 0, none⟩) zW).trans c0
      have d1 := (hw.cell (p := ⟨W.heap.size, 1, none⟩) zW).trans c1
      have d2 := (hw.cell (p := ⟨W.heap.size, 2, none⟩) zW).trans c2
      have zR : W.heap.size < wr.heap.size := by omega
      have HS := Lib.hid hs
      have HX := Lib.hid hx
      have HPJ := Lib.hid (HPV.out j)
      clear hs hx
      rcases Bool.eq_false_or_eq_true (P j) with ht | ht
      · have HY := Lib.hid (ftk_yes HX.out ht)
        go_wp2_with fail
        refine (iFullBut_ w h s HBD.out j hbit _).mono ?_
        rintro e w0 ⟨rfl, hb0⟩
        have RS0 := Lib.hid (RS.out.next (hw.trans (hb0.mono hsz)))
        go_wp2_with fail
        refine (spreadHas_ bs nb HBL.out AS cS (fullB s j) true (HPJ.out.trans ht) (by omega) _ RS0.out).mono ?_
        rintro e w1 ⟨rfl, hbE⟩
        have hb1 := below_next hb0 hbE
        clear hb0 hbE
        all_goals
          have hs1 := HS.out.next hb1
          have hw1 := hw.trans (hb1.mono hsz)
          have hsz1 : W2.heap.size ≤ w1.heap.size := hw1.size
          clear x0 ht d0 d1 d2
          go_wp2_with (first | (at_builtin; refine wpList_append_slab _ rfl (.tmp 25) (.tmp 27) 69 rfl W2.heap.size (some ⟨B0, 0, none⟩) 3 i0 (.int .i64 0) 1 8 Try.underlying69 hi hz0 hz1 hz2 rfl (by decide) _ _ _ rfl (hs1.alloc _) ⟨w1.heap.size, 0, none⟩ 1 1 [.int .i64 j] rfl rfl (cell_one_new _ _ _) (by intro u hu; simp at hu; subst hu; rfl) (by omega) (by unfold maxLen; omega) (by omega) (by have := hsz1; simp; omega) ?_; intro g cap wA ownA hbA))
          have HO := Lib.hid ownA
          have hwA : Below W2.heap.size W2 wA := (hw1.alloc hsz1 _).trans hbA
          clear hs1 ownA
          go_wp2
          go_roundw
          case rel => exact ⟨k + 1, some ⟨g, 0, none⟩, cap, by omega, by go_num, by rw [HY.out]; simp, .inl (by rw [HY.out]; simpa [ints, natL] using HO.out), hwA⟩
          case measure => simp [intOf]; omega
      · have HY := Lib.hid (ftk_no HX.out ht)
        go_wp2_with fail
        refine (iFullBut_ w h s HBD.out j hbit _).mono ?_
        rintro e w0 ⟨rfl, hb0⟩
        have RS0 := Lib.hid (RS.out.next (hw.trans (hb0.mono hsz)))
        go_wp2_with fail
        refine (spreadHas_ bs nb HBL.out AS cS (fullB s j) false (HPJ.out.trans ht) (by omega) _ RS0.out).mono ?_
        rintro e w1 ⟨rfl, hbE⟩
        have hb1 := below_next hb0 hbE
        clear hb0 hbE
        all_goals
          have hs1 := Lib.hid (HS.out.next hb1)
          have hw1 := hw.trans (hb1.mono hsz)
          clear ht d0 d1 d2
          go_wp2
          go_roundw
          case rel => exact ⟨k + 1, A', c', by omega, by go_num, by rw [HY.out], by rw [HY.out]; exact hs1.out, hw1⟩
          case measure => simp [intOf]; omega
    · have e : k = rs.length := by omega
      subst e
      have HF := Lib.hid (hs.end (own_below HL0.out hw (fun g hg => by simp [Value.ownBlock] at hg; omega)) hB2)
      clear hs
      go_wp2
      go_ret
      exact ⟨_, _, ret_slice (by rw [HST.out]), by rw [HST.out]; exact HF.out, hW2.trans (hw.mono hB2)⟩
set_option maxHeartbeats 2000000 in
theorem iFinalsOf_ (w h s p : Nat) (hb : BdOk w h s) (h16 : w * h ≤ 16) (hp : I64 p) (W : World) :
    Calls Try.prog 142 #[.agg #[.int .i64 w, .int .i64 h, .int .i64 s], .int .i64 p] W (GivesSlice W 3 1 (finalsL ⟨w, h, s⟩ p).length (ints (natL (finalsL ⟨w, h, s⟩ p)))) := by
  obtain ⟨i0, hi, hz0, hz1, hz2⟩ := info_parts infoInt
  have HBD := Lib.hid hb
  have H16 := Lib.hid h16
  have hrl := holesL_le ⟨w, h, s⟩
  have HBIT : Hid (∀ k ∈ holesL ⟨w, h, s⟩, s.testBit k = true ∧ k < 49) := Lib.hid fun k hk => ⟨(hole_bit hb hk).2, (bit63 w h s hb (hole_bit hb hk).2).2⟩
  have hnb := spreadL_le ⟨w, h, s⟩ p false
  have HST0 : finalsL ⟨w, h, s⟩ p = ftk (finalF ⟨w, h, s⟩ p) (holesL ⟨w, h, s⟩) (holesL ⟨w, h, s⟩).length := (ftk_all _ _).symm
  have HPV0 : ∀ j, hasB (spreadL ⟨w, h, s⟩ p false) (pow2 j : Nat) = finalF ⟨w, h, s⟩ p j := fun j => rfl
  obtain ⟨rs, hrs⟩ : ∃ rs, holesL ⟨w, h, s⟩ = rs := ⟨_, rfl⟩
  obtain ⟨bs, hbs⟩ : ∃ bs, spreadL ⟨w, h, s⟩ p false = bs := ⟨_, rfl⟩
  obtain ⟨P, hP⟩ : ∃ P, finalF ⟨w, h, s⟩ p = P := ⟨_, rfl⟩
  rw [hrs] at hrl HBIT HST0
  rw [hP] at HST0 HPV0
  rw [hbs] at hnb HPV0
  obtain ⟨nb, hnbl⟩ : ∃ nb, bs.length = nb := ⟨_, rfl⟩
  rw [hnbl] at hnb
  have HBL := Lib.hid hnbl
  have HHS := Lib.hid hrs
  have HBS := Lib.hid hbs
  have HPV := Lib.hid HPV0
  have HST := Lib.hid HST0
  clear hb h16 hrs hbs hP hnbl HPV0 HST0
  go_enter Try.func142, Try.ntmps142
  go_wp2_with fail
  refine (spreadOf_ ⟨w, h, s⟩ p false hp _).mono ?_
  rintro e w1 ⟨AS, cS, rfl, rdS, hb1⟩
  rw [HBS.out] at rdS ⊢
  rw [HBL.out]
  obtain ⟨hc, hf⟩ := bcell hb1
  have z0 : W.heap.size < w1.heap.size := by have := hb1.size; (try simp at this); omega
  have hw1 : Below W.heap.size W w1 := below_step ((Below.refl _ _).alloc (Nat.le_refl _) _) hb1 (by (try simp))
  have c0 : w1.cell? ⟨W.heap.size, 0, none⟩ = some (.int .i64 w) := by rw [hc _ _ (by simp)]; simp [go_sem]
  have c1 : w1.cell? ⟨W.heap.size, 1, none⟩ = some (.int .i64 h) := by rw [hc _ _ (by simp)]; simp [go_sem]
  have c2 : w1.cell? ⟨W.heap.size, 2, none⟩ = some (.int .i64 s) := by rw [hc _ _ (by simp)]; simp [go_sem]
  clear hc hf
  have hL0 : (w1.alloc (.cells #[] 3)).ownsRow W.heap.size 3 1 (.slice (some ⟨w1.heap.size, 0, none⟩) 0 0) 0 [] := own_base (World.ownsRow_lit w1 #[] 0 (Nat.le_refl _) (by simp [maxLen]) rfl) hw1.size
  have HLX := Lib.hid hL0
  have HRS1 := Lib.hid rdS
  clear hL0 rdS hb1
  go_wp2_with fail
  refine (iHolesOf_ ⟨w, h, s⟩ _).mono ?_
  rintro e W2 ⟨AR, cR, rfl, rdR, hb2⟩
  rw [HHS.out] at rdR ⊢
  have hA : Below w1.heap.size w1 (w1.alloc (.cells #[] 3)) := (Below.refl _ _).alloc (Nat.le_refl _) _
  have RS := Lib.hid (HRS1.out.next (below_next hA hb2))
  have HL0 := Lib.hid (own_next HLX.out hb2)
  have hW2 := below_next (below_next hw1 hA) hb2
  have hB2 : W.heap.size ≤ W2.heap.size := hW2.size
  have hz12 : w1.heap.size < W2.heap.size := by have := hb2.size; simp at this; omega
  have e0 := ((below_next hA hb2).cell (p := ⟨W.heap.size, 0, none⟩) z0).trans c0
  have e1 := ((below_next hA hb2).cell (p := ⟨W.heap.size, 1, none⟩) z0).trans c1
  have e2 := ((below_next hA hb2).cell (p := ⟨W.heap.size, 2, none⟩) z0).trans c2
  clear c0 c1 c2 hA hb2
  have c0 := e0
  have c1 := e1
  have c2 := e2
  have zW : W.heap.size < W2.heap.size := by omega
  clear e0 e1 e2
  obtain ⟨B0, hB0⟩ : ∃ B0, w1.heap.size = B0 := ⟨_, rfl⟩
  rw [hB0] at HL0 hz12 z0 ⊢
  clear hw1
  go_wp2_with fail
  go_loopw [6, 16] (fun v i wr => ∃ (k : Nat) (A' : Option Addr) (c' : Nat), k ≤ rs.length ∧ i = .int .i64 k ∧ v = .slice A' (ftk P rs k).length c' ∧ Slab wr W2.heap.size (some ⟨B0, 0, none⟩) 3 1 (.slice A' (ftk P rs k).length c') (ftk P rs k).length (ints (natL (ftk P rs k))) ∧ Below W2.heap.size W2 wr) (fun _ i _ => rs.length - (intOf i).toNat)
  case atStart => exact ⟨0, _, _, Nat.zero_le _, rfl, rfl, slab_zero _ _ _ _ _, Below.refl _ _⟩
  case round =>
    obtain ⟨k, A', c', hk, rfl, rfl, hs, hw⟩ := hrel
    have hle := ftk_le P rs k
    have hsz := hw.size
    by_cases hlt : k < rs.length
    · have hx : rs[k]? = some rs[k] := List.getElem?_eq_getElem hlt
      obtain ⟨hbit, h49⟩ := HBIT.out _ (List.getElem_mem hlt)
      generalize rs[k] = j at hx hbit h49
      obtain ⟨bb, off, rfl, hbb, x0⟩ := rd_nat (rdR.below hw) hx
      have hbz : bb < wr.heap.size := by omega
      have k0' : (0 : Int) ≤ (k : Int) := by omega
      have k1' : (k : Int) < (rs.length : Int) := by omega
      have j0' : (0 : Int) ≤ (j : Int) := by omega
      have d0 := (hw.cell (p := ⟨W.heap.size, 0, none⟩) zW).trans c0
      have d1 := (hw.cell (p := ⟨W.heap.size, 1, none⟩) zW).trans c1
      have d2 := (hw.cell (p := ⟨W.heap.size, 2, none⟩) zW).trans c2
      have zR : W.heap.size < wr.heap.size := by omega
      have HS := Lib.hid hs
      have HX := Lib.hid hx
      have HPJ := Lib.hid (HPV.out j)
      clear hs hx
      rcases Bool.eq_false_or_eq_true (P j) with ht | ht
      · have HY := Lib.hid (ftk_yes HX.out ht)
        have pf := i64_pow j (by omega)
        have RS0 := Lib.hid (RS.out.next hw)
        go_wp2_with fail
        refine (spreadHas_ bs nb HBL.out AS cS (pow2 j) true (HPJ.out.trans ht) (by omega) _ RS0.out).mono ?_
        rintro e w1 ⟨rfl, hb1⟩
        all_goals
          have hs1 := HS.out.next hb1
          have hw1 := hw.trans (hb1.mono hsz)
          have hsz1 : W2.heap.size ≤ w1.heap.size := hw1.size
          clear x0 ht d0 d1 d2
          go_wp2_with (first | (at_builtin; refine wpList_append_slab _ rfl (.tmp 24) (.tmp 26) 69 rfl W2.heap.size (some ⟨B0, 0, none⟩) 3 i0 (.int .i64 0) 1 8 Try.underlying69 hi hz0 hz1 hz2 rfl (by decide) _ _ _ rfl (hs1.alloc _) ⟨w1.heap.size, 0, none⟩ 1 1 [.int .i64 j] rfl rfl (cell_one_new _ _ _) (by intro u hu; simp at hu; subst hu; rfl) (by omega) (by unfold maxLen; omega) (by omega) (by have := hsz1; simp; omega) ?_; intro g cap wA ownA hbA))
          have HO := Lib.hid ownA
          have hwA : Below W2.heap.size W2 wA := (hw1.alloc hsz1 _).trans hbA
          clear hs1 ownA
          go_wp2
          go_roundw
          case rel => exact ⟨k + 1, some ⟨g, 0, none⟩, cap, by omega, by go_num, by rw [HY.out]; simp, .inl (by rw [HY.out]; simpa [ints, natL] using HO.out), hwA⟩
          case measure => simp [intOf]; omega
      · have HY := Lib.hid (ftk_no HX.out ht)
        have pf := i64_pow j (by omega)
        have RS0 := Lib.hid (RS.out.next hw)
        go_wp2_with fail
        refine (spreadHas_ bs nb HBL.out AS cS (pow2 j) false (HPJ.out.trans ht) (by omega) _ RS0.out).mono ?_
        rintro e w1 ⟨rfl, hb1⟩
        all_goals
          have hs1 := Lib.hid (HS.out.next hb1)
          have hw1 := hw.trans (hb1.mono hsz)
          clear ht d0 d1 d2
          go_wp2
          go_roundw
          case rel => exact ⟨k + 1, A', c', by omega, by go_num, by rw [HY.out], by rw [HY.out]; exact hs1.out, hw1⟩
          case measure => simp [intOf]; omega
    · have e : k = rs.length := by omega
      subst e
      have HF := Lib.hid (hs.end (own_below HL0.out hw (fun g hg => by simp [Value.ownBlock] at hg; omega)) hB2)
      clear hs
      go_wp2
      go_ret
      exact ⟨_, _, ret_slice (by rw [HST.out]), by rw [HST.out]; exact HF.out, hW2.trans (hw.mono hB2)⟩
end Go.Proofs.Ytbcgokpamhgabaa

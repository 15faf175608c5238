/- The contracts of JumpsOf, IsStuck, PlayAll. -/
import Derived.Test.YtbcgokpamhgabaaChecked
import Derived.Test.YtbcgokpamhgabaaKb01
import Derived.Tactics
import Derived.Tactics2
import Derived.WalkKit
import Derived.WalkSpells
import Derived.WalkLawsBesides
import Derived.Deep.QuietTactic
import Derived.BigQuiet
import Derived.BigGuardPart
import Derived.Lib.QuietBelow
import Derived.OwnWalk
import Derived.KernelRfl
import Derived.Test.YtbcgokpamhgabaaKb17
namespace Go.Proofs.Ytbcgokpamhgabaa
set_option linter.unusedVariables false
set_option maxRecDepth 20000
open Go.RowKit Go.Sort

theorem gives_rd' {w w1 w' : World} {n : Nat} {xs : List Value} {e : Ending} (h : GivesRd w1 n xs e w') (hb : Below w.heap.size w w1) : GivesRd w n xs e w' := by
  obtain ⟨A, c, he, ho, hb'⟩ := h
  exact ⟨A, c, he, ho, below_next hb hb'⟩
theorem jumpsL_no {b : Ln} {p : Int} (h : posB b p = false) : jumpsL b p = [] := by simp [jumpsL, h]
theorem jumpsL_yes {b : Ln} {p : Nat} (h : posB b p = true) : jumpsL b p = (linesL b).filter (canJ p) := by simp [jumpsL, h]

set_option maxHeartbeats 1000000 in
theorem iJumpsOf_ (b : Ln) (p : Int) (hp : I64 p) (W : World) :
    Calls Try.prog 128 #[.agg #[.int .i64 b.f, .int .i64 b.o, .int .i64 b.t], .int .i64 p] W (GivesRd W (jumpsL b p).length (flat (jumpsL b p))) := by
  obtain ⟨i0, hi, hz0, hz1, hz2⟩ := info_parts infoLine
  rcases Bool.eq_false_or_eq_true (posB b p) with hP | hP
  · obtain ⟨w, h, s, q, rfl, rfl, hb, hq⟩ := posB_open hP
    have q63 := b63_area hb (posB_lt hb hq)
    have HJ := Lib.hid (jumpsL_yes hP)
    have HLS := Lib.hid (lsOk_of hb)
    have hle := linesL_le ⟨w, h, s⟩
    obtain ⟨ls, hls⟩ : ∃ ls, linesL ⟨w, h, s⟩ = ls := ⟨_, rfl⟩
    rw [hls] at HJ HLS hle
    have HL := Lib.hid hls
    clear hls
    go_enter Try.func128, Try.ntmps128
    go_wp2_with fail
    refine (is_ (iPositionOk_ ⟨w, h, s⟩ q hp _) hP).mono ?_
    rintro e W0 ⟨rfl, hb0⟩
    obtain ⟨hc, hf⟩ := bcell hb0
    have hz : W.heap.size + 2 ≤ W0.heap.size := by have := hb0.size; simpa using this
    have hW0 : Below W.heap.size W W0 := below_step (((Below.refl _ _).alloc (Nat.le_refl _) _).alloc (by simp) _) hb0 (by simp; omega)
    have b0 : W0.cell? ⟨W.heap.size, 0, none⟩ = some (.int .i64 w) := by rw [hc _ _ (by simp; try omega)]; simp [go_sem]
    have b1 : W0.cell? ⟨W.heap.size, 1, none⟩ = some (.int .i64 h) := by rw [hc _ _ (by simp; try omega)]; simp [go_sem]
    have b2 : W0.cell? ⟨W.heap.size, 2, none⟩ = some (.int .i64 s) := by rw [hc _ _ (by simp; try omega)]; simp [go_sem]
    clear hc hf hb0
    go_wp2_with fail
    refine (iLinesOf_ ⟨w, h, s⟩ _).mono ?_
    rintro e W1 ⟨A1, c1, rfl, rd1, hb1⟩
    rw [HL.out] at rd1 ⊢
    have hW1 := below_next hW0 hb1
    have hzW : W.heap.size + 2 ≤ W1.heap.size := by have := hb1.size; omega
    clear b0 b1 b2 hb1
    go_wp2_with fail
    go_loopw [5, 19] (fun lv iv wr => ∃ (i : Nat) (A : Option Addr) (c : Nat), i ≤ ls.length ∧ iv = .int .i64 i ∧ lv = .slice A ((ls.take i).filter (canJ q)).length c ∧ Slab wr W1.heap.size (some ⟨W.heap.size + 1, 0, none⟩) 34 3 (.slice A ((ls.take i).filter (canJ q)).length c) ((ls.take i).filter (canJ q)).length (flat ((ls.take i).filter (canJ q))) ∧ Below W1.heap.size W1 wr) (fun _ iv _ => ls.length - (intOf iv).toNat)
    case atStart => exact ⟨0, _, _, Nat.zero_le _, rfl, rfl, slab_zero _ _ _ _ _, Below.refl _ _⟩
    case round =>
      obtain ⟨i, A, c, hi0, rfl, rfl, hsl, hw⟩ := hrel
      have HSL := Lib.hid hsl
      clear hsl
      have hsz := hw.size
      by_cases hlt : i < ls.length
      · obtain ⟨bb, off, l, rfl, hbl, hx, x0, x1, x2⟩ := (rd1.below hw).line hlt
        obtain ⟨f, o, t, rfl, f1, o1, t1, hft, hot⟩ := HLS.out l (List.mem_of_getElem? hx)
        have hl0 : ((ls.take i).filter (canJ q)).length ≤ 196 := by
          have := List.length_filter_le (canJ q) (ls.take i)
          simp at this; omega
        have i0' : (0 : Int) ≤ (i : Int) := by omega
        have i1' : (i : Int) < (ls.length : Int) := by omega
        have hbz : bb < wr.heap.size := by omega
        have HF := Lib.hid hft
        have HO := Lib.hid hot
        rcases Bool.eq_false_or_eq_true (canJ q ⟨f, o, t⟩) with h1 | h1
        · have HX := Lib.hid (filter_yes hx h1)
          generalize (ls.take i).filter (canJ q) = L at HSL HX hl0 ⊢
          clear hx hft hot
          go_wp2_with fail
          refine (jumpFrom_ q f o t q63 (by omega) (by omega) (by omega) HF.out HO.out _).mono ?_
          rintro e w3 ⟨rfl, hb3⟩
          have hw3 := below_step (hw.alloc hsz _) hb3 (by simp; omega)
          have hx3 := hw3.size
          have hzz : wr.heap.size < w3.heap.size := by have := hb3.size; simp at this; omega
          have s0 : w3.cell? ⟨wr.heap.size, 0, none⟩ = some (.int .i64 f) := by rw [hb3.cell (p := ⟨wr.heap.size, 0, none⟩) (by simp)]; simp [go_sem]
          have s1 : w3.cell? ⟨wr.heap.size, 1, none⟩ = some (.int .i64 o) := by rw [hb3.cell (p := ⟨wr.heap.size, 1, none⟩) (by simp)]; simp [go_sem]
          have s2 : w3.cell? ⟨wr.heap.size, 2, none⟩ = some (.int .i64 t) := by rw [hb3.cell (p := ⟨wr.heap.size, 2, none⟩) (by simp)]; simp [go_sem]
          have hs3 := ((HSL.out.alloc _).next hb3)
          go_wp2_with (first | (at_builtin; refine wpList_append_slab _ rfl (.tmp 30) (.tmp 32) 24 rfl W1.heap.size (some ⟨W.heap.size + 1, 0, none⟩) 34 i0 _ 3 24 Try.underlying24 hi hz0 hz1 hz2 rfl (by decide) _ _ _ rfl (hs3.alloc _) ⟨w3.heap.size, 0, none⟩ 1 1 [.int .i64 f, .int .i64 o, .int .i64 t] rfl rfl (cell_three_new _ _ _ _ _ rfl rfl rfl) (by intro u hu; simp at hu; rcases hu with rfl | rfl | rfl <;> rfl) (by omega) (by unfold maxLen; omega) (by omega) (by have := hw3.size; simp; omega) ?_; intro g cap wA ownA hbA))
          have HOA := Lib.hid ownA
          have hwA : Below W1.heap.size W1 wA := (hw3.alloc hx3 _).trans hbA
          clear hs3 ownA s0 s1 s2
          go_wp2
          go_roundw
          case rel => exact ⟨i + 1, some ⟨g, 0, none⟩, cap, by omega, by go_num, by rw [HX.out]; simp, .inl (by rw [HX.out, flat_append, List.length_append]; exact HOA.out), hwA⟩
          case measure => simp [intOf]; omega
        · have HX := Lib.hid (filter_no hx h1)
          generalize (ls.take i).filter (canJ q) = L at HSL HX hl0 ⊢
          clear hx hft hot
          go_wp2_with fail
          refine (jumpFrom_ q f o t q63 (by omega) (by omega) (by omega) HF.out HO.out _).mono ?_
          rintro e w3 ⟨rfl, hb3⟩
          have hw3 := below_step (hw.alloc hsz _) hb3 (by simp; omega)
          have hs3 := Lib.hid ((HSL.out.alloc _).next hb3)
          go_wp2
          go_roundw
          case rel => exact ⟨i + 1, A, c, by omega, by go_num, by rw [HX.out], by rw [HX.out]; exact hs3.out, hw3⟩
          case measure => simp [intOf]; omega
      · have e : i = ls.length := by omega
        subst e
        go_wp2
        go_ret
        exact ⟨A, c, ret_slice (by rw [HJ.out, List.take_length]), by rw [HJ.out]; have := rd_of_slab HSL.out; rwa [List.take_length] at this, below_next hW1 hw⟩
  · have HE : Hid (jumpsL b p = []) := Lib.hid (jumpsL_no hP)
    go_enter Try.func128, Try.ntmps128
    go_wp2_with fail
    refine (is_ (iPositionOk_ b p hp _) hP).mono ?_
    rintro e W0 ⟨rfl, hb0⟩
    have hW0 : Below W.heap.size W W0 := below_step (((Below.refl _ _).alloc (Nat.le_refl _) _).alloc (by simp) _) hb0 (by simp; omega)
    go_wp2
    go_ret
    exact ⟨_, _, ret_slice (by rw [HE.out]; rfl), by rw [HE.out]; exact Rd.nil, hW0⟩
set_option maxHeartbeats 1000000 in
theorem sJumpsOf_ (b : Ln) (p : Int) (hp : I64 p) (W : World) :
    Calls Try.prog 35 #[.agg #[.int .i64 b.f, .int .i64 b.o, .int .i64 b.t], .int .i64 p] W (GivesRd W (jumpsL b p).length (flat (jumpsL b p))) := by
  obtain ⟨i0, hi, hz0, hz1, hz2⟩ := info_parts infoLine
  have hle := linesL_le b
  have HLS := Lib.hid (lsOk_b b)
  obtain ⟨ls, hls⟩ : ∃ ls, linesL b = ls := ⟨_, rfl⟩
  rw [hls] at HLS hle
  have HL := Lib.hid hls
  clear hls
  rcases Bool.eq_false_or_eq_true (posB b p) with hP | hP
  · obtain ⟨w, h, s, q, rfl, rfl, hb, hq⟩ := posB_open hP
    have q63 := b63_area hb (posB_lt hb hq)
    have HJ : Hid (jumpsL ⟨w, h, s⟩ q = ls.filter (canJ q)) := Lib.hid (by rw [jumpsL_yes hP, HL.out])
    go_enter Try.func35, Try.ntmps35
    go_wp2_with fail
    refine (sLinesOf_ ⟨w, h, s⟩ _).mono ?_
    rintro e W1 ⟨A1, c1, rfl, rd1, hb1⟩
    rw [HL.out] at rd1 ⊢
    obtain ⟨hc, hf⟩ := bcell hb1
    have hz : W.heap.size + 2 ≤ W1.heap.size := by have := hb1.size; simpa using this
    have hW1 : Below W.heap.size W W1 := below_step (((Below.refl _ _).alloc (Nat.le_refl _) _).alloc (by simp) _) hb1 (by simp; omega)
    have b0 : W1.cell? ⟨W.heap.size, 0, none⟩ = some (.int .i64 w) := by rw [hc _ _ (by simp; try omega)]; simp [go_sem]
    have b1 : W1.cell? ⟨W.heap.size, 1, none⟩ = some (.int .i64 h) := by rw [hc _ _ (by simp; try omega)]; simp [go_sem]
    have b2 : W1.cell? ⟨W.heap.size, 2, none⟩ = some (.int .i64 s) := by rw [hc _ _ (by simp; try omega)]; simp [go_sem]
    have hsz0 : W.heap.size < W1.heap.size := by omega
    clear hc hf hb1
    go_wp2_with fail
    go_loopw [5, 7] (fun lv iv wr => ∃ (i : Nat) (A : Option Addr) (c : Nat), i ≤ ls.length ∧ iv = .int .i64 i ∧ lv = .slice A ((ls.take i).filter (canJ q)).length c ∧ Slab wr W1.heap.size (some ⟨W.heap.size + 1, 0, none⟩) 34 3 (.slice A ((ls.take i).filter (canJ q)).length c) ((ls.take i).filter (canJ q)).length (flat ((ls.take i).filter (canJ q))) ∧ Below W1.heap.size W1 wr) (fun _ iv _ => ls.length - (intOf iv).toNat)
    case atStart => exact ⟨0, _, _, Nat.zero_le _, rfl, rfl, slab_zero _ _ _ _ _, Below.refl _ _⟩
    case round =>
      obtain ⟨i, A, c, hi0, rfl, rfl, hsl, hw⟩ := hrel
      have HSL := Lib.hid hsl
      clear hsl
      have hsz := hw.size
      have c0 := (hw.cell (p := ⟨W.heap.size, 0, none⟩) hsz0).trans b0
      have c1' := (hw.cell (p := ⟨W.heap.size, 1, none⟩) hsz0).trans b1
      have c2' := (hw.cell (p := ⟨W.heap.size, 2, none⟩) hsz0).trans b2
      by_cases hlt : i < ls.length
      · obtain ⟨bb, off, l, rfl, hbl, hx, x0', x1', x2'⟩ := rd1.line hlt
        obtain ⟨f, o, t, rfl, f1, o1, t1, hft, hot⟩ := HLS.out l (List.mem_of_getElem? hx)
        have hl0 : ((ls.take i).filter (canJ q)).length ≤ 196 := by
          have := List.length_filter_le (canJ q) (ls.take i)
          simp at this; omega
        have i0' : (0 : Int) ≤ (i : Int) := by omega
        have i1' : (i : Int) < (ls.length : Int) := by omega
        have hbz : bb < wr.heap.size := by omega
        have HF := Lib.hid hft
        have HO := Lib.hid hot
        have H0 : (((q &&& lbits ⟨f, o, t⟩ : Nat) : Int) == ((pow2 f ||| pow2 o : Nat) : Int)) = canJ q ⟨f, o, t⟩ := by
          rw [canJ_and hft hot, Bool.eq_iff_iff]; simp; omega
        have pf := i64_pow f (by omega)
        have po := i64_pow o (by omega)
        have l63 : B63 (lbits ⟨f, o, t⟩) := by simp only [lbits, Int.toNat_natCast]; exact b63_or (b63_or (b63_pow2 (by omega)) (b63_pow2 (by omega))) (b63_pow2 (by omega))
        have a1 := i64_and q (lbits ⟨f, o, t⟩) q63 l63
        have a2 := i64_or (pow2 f) (pow2 o) (b63_pow2 (by omega)) (b63_pow2 (by omega))
        generalize hLB : lbits ⟨f, o, t⟩ = LB at a1 H0
        have HLB := Lib.hid hLB
        clear hLB l63
        rcases Bool.eq_false_or_eq_true (canJ q ⟨f, o, t⟩) with h1 | h1
        · have HX := Lib.hid (filter_yes hx h1)
          rw [h1] at H0
          generalize (ls.take i).filter (canJ q) = L at HSL HX hl0 ⊢
          clear hx hft hot h1
          go_wp2_with fail
          refine (is_ (sPositionOk_ ⟨w, h, s⟩ q hp _) hP).mono ?_
          rintro e w2 ⟨rfl, hb2⟩
          have hw2 := hw.trans (hb2.mono hsz)
          have hx2 := hw2.size
          have y0 := (hw2.cell (p := ⟨bb, off + i * 3, none⟩) hbl).trans x0'
          have y1 := (hw2.cell (p := ⟨bb, off + i * 3 + 1, none⟩) hbl).trans x1'
          have y2 := (hw2.cell (p := ⟨bb, off + i * 3 + 2, none⟩) hbl).trans x2'
          have hbz2 : bb < w2.heap.size := by omega
          have hs2 := HSL.out.next hb2
          have HS2 := Lib.hid hs2
          clear hs2 c0 c1' c2'
          have hc : ∀ (a : Addr) (p : Regrown) (W : World), a.block < W.heap.size → (grow (redrawn W p.d) p.os).cell? a = W.cell? a := fun a p W h => (below_regrown W p.d p.os).cell h
          go_wp2_with fail
          refine wp_region_quiet_below (by kernel_rfl) (by kernel_rfl) ?_
          repeat (go_big_quiet_step (first | (go_at_call 110; exact Calls.regrown_of (isI_ (l05Bits_ f o t (by omega) (by omega) (by omega) _) (congrArg Int.ofNat HLB.out)))))
          refine wpQuiet_nil ?_
          intro w3 hw3
          obtain ⟨p3, hp3⟩ := hw3
          have hb3 := of_rg hp3
          clear hp3 p3
          have hw3 := hw2.trans (hb3.mono hx2)
          have hx3 := hw3.size
          have hs3 := HS2.out.next hb3
          have u0 := (hb3.cell (p := ⟨bb, off + i * 3, none⟩) hbz2).trans y0
          have u1 := (hb3.cell (p := ⟨bb, off + i * 3 + 1, none⟩) hbz2).trans y1
          have u2 := (hb3.cell (p := ⟨bb, off + i * 3 + 2, none⟩) hbz2).trans y2
          clear y0 y1 y2 hc
          go_wp2_with (first | (at_builtin; refine wpList_append_slab _ rfl (.tmp 43) (.tmp 48) 24 rfl W1.heap.size (some ⟨W.heap.size + 1, 0, none⟩) 34 i0 _ 3 24 Try.underlying24 hi hz0 hz1 hz2 rfl (by decide) _ _ _ rfl (hs3.alloc _) ⟨w3.heap.size, 0, none⟩ 1 1 [.int .i64 f, .int .i64 o, .int .i64 t] rfl rfl (cell_three_new _ _ _ _ _ rfl rfl rfl) (by intro u hu; simp at hu; rcases hu with rfl | rfl | rfl <;> rfl) (by omega) (by unfold maxLen; omega) (by omega) (by have := hw3.size; simp; omega) ?_; intro g cap wA ownA hbA))
          have HOA := Lib.hid ownA
          have hwA : Below W1.heap.size W1 wA := (hw3.alloc hx3 _).trans hbA
          clear hs3 ownA u0 u1 u2
          go_wp2
          go_roundw
          case rel => exact ⟨i + 1, some ⟨g, 0, none⟩, cap, by omega, by go_num, by rw [HX.out]; simp, .inl (by rw [HX.out, flat_append, List.length_append]; exact HOA.out), hwA⟩
          case measure => simp [intOf]; omega
        · have HX := Lib.hid (filter_no hx h1)
          rw [h1] at H0
          generalize (ls.take i).filter (canJ q) = L at HSL HX hl0 ⊢
          clear hx hft hot h1
          go_wp2_with fail
          refine (is_ (sPositionOk_ ⟨w, h, s⟩ q hp _) hP).mono ?_
          rintro e w2 ⟨rfl, hb2⟩
          have hw2 := hw.trans (hb2.mono hsz)
          have hx2 := hw2.size
          have y0 := (hw2.cell (p := ⟨bb, off + i * 3, none⟩) hbl).trans x0'
          have y1 := (hw2.cell (p := ⟨bb, off + i * 3 + 1, none⟩) hbl).trans x1'
          have y2 := (hw2.cell (p := ⟨bb, off + i * 3 + 2, none⟩) hbl).trans x2'
          have hbz2 : bb < w2.heap.size := by omega
          have HS2 := Lib.hid (HSL.out.next hb2)
          clear c0 c1' c2'
          have hc : ∀ (a : Addr) (p : Regrown) (W : World), a.block < W.heap.size → (grow (redrawn W p.d) p.os).cell? a = W.cell? a := fun a p W h => (below_regrown W p.d p.os).cell h
          go_wp2_with fail
          refine wp_region_quiet_below (by kernel_rfl) (by kernel_rfl) ?_
          repeat (go_big_quiet_step (first | (go_at_call 110; exact Calls.regrown_of (isI_ (l05Bits_ f o t (by omega) (by omega) (by omega) _) (congrArg Int.ofNat HLB.out)))))
          refine wpQuiet_nil ?_
          intro w3 hw3
          obtain ⟨p3, hp3⟩ := hw3
          have hb3 := of_rg hp3
          clear hp3 p3
          have hw3 := hw2.trans (hb3.mono hx2)
          have hs3 := Lib.hid (HS2.out.next hb3)
          clear y0 y1 y2 hc
          go_wp2
          go_roundw
          case rel => exact ⟨i + 1, A, c, by omega, by go_num, by rw [HX.out], by rw [HX.out]; exact hs3.out, hw3⟩
          case measure => simp [intOf]; omega
      · have e : i = ls.length := by omega
        subst e
        go_wp2
        go_ret
        exact ⟨A, c, ret_slice (by rw [HJ.out, List.take_length]), by rw [HJ.out]; have := rd_of_slab HSL.out; rwa [List.take_length] at this, below_next hW1 hw⟩
  · have HE : Hid (jumpsL b p = []) := Lib.hid (jumpsL_no hP)
    go_enter Try.func35, Try.ntmps35
    go_wp2_with fail
    refine (sLinesOf_ b _).mono ?_
    rintro e W1 ⟨A1, c1, rfl, rd1, hb1⟩
    rw [HL.out] at rd1 ⊢
    obtain ⟨hc, hf⟩ := bcell hb1
    have hz : W.heap.size + 2 ≤ W1.heap.size := by have := hb1.size; simpa using this
    have hW1 : Below W.heap.size W W1 := below_step (((Below.refl _ _).alloc (Nat.le_refl _) _).alloc (by simp) _) hb1 (by simp; omega)
    have b0 : W1.cell? ⟨W.heap.size, 0, none⟩ = some (.int .i64 b.f) := by rw [hc _ _ (by simp; try omega)]; simp [go_sem]
    have b1 : W1.cell? ⟨W.heap.size, 1, none⟩ = some (.int .i64 b.o) := by rw [hc _ _ (by simp; try omega)]; simp [go_sem]
    have b2 : W1.cell? ⟨W.heap.size, 2, none⟩ = some (.int .i64 b.t) := by rw [hc _ _ (by simp; try omega)]; simp [go_sem]
    have hsz0 : W.heap.size < W1.heap.size := by omega
    clear hc hf hb1
    go_wp2_with fail
    go_loopw [5, 7] (fun lv iv wr => iv = .int .i64 0 ∧ lv = .slice (some ⟨W.heap.size + 1, 0, none⟩) 0 0 ∧ wr = W1) (fun _ _ _ => 0)
    case atStart => exact ⟨rfl, rfl, rfl⟩
    case round =>
      obtain ⟨rfl, rfl, rfl⟩ := hrel
      by_cases hlt : 0 < ls.length
      · go_wp2_with fail
        refine (is_ (sPositionOk_ b p hp _) hP).mono ?_
        rintro e w2 ⟨rfl, hb2⟩
        go_wp2
        go_ret
        exact ⟨_, _, ret_slice (by rw [HE.out]; rfl), by rw [HE.out]; exact Rd.nil, below_next hW1 hb2⟩
      · have hl0 : ls.length = 0 := by omega
        rw [hl0]
        go_wp2
        go_ret
        exact ⟨_, _, ret_slice (by rw [HE.out]; rfl), by rw [HE.out]; exact Rd.nil, hW1⟩
end Go.Proofs.Ytbcgokpamhgabaa

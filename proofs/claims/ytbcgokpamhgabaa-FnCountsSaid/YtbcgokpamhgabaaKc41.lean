/- The contract of the reference's HasHole. The contracts of HoleUse. -/
import Derived.Test.YtbcgokpamhgabaaChecked
import Derived.Test.YtbcgokpamhgabaaKc01
import Derived.Tactics
import Derived.Tactics2
import Derived.WalkKit
import Derived.WalkSpells
import Derived.WalkLawsBesides
import Derived.Deep.QuietTactic
import Derived.BigQuiet
import Derived.BigGuardPart
import Derived.Lib.QuietBelow
import Derived.OwnWalk
import Derived.KernelRfl
import Derived.Test.YtbcgokpamhgabaaKc10
import Derived.Deep.RegionHeld3
import Derived.Deep.RegionWith
import Derived.Test.YtbcgokpamhgabaaKc35
namespace Go.Proofs.Ytbcgokpamhgabaa
set_option linter.unusedVariables false
set_option maxRecDepth 20000
open Go.RowKit Go.Sort

set_option maxHeartbeats 1000000 in
theorem sHasHole_ (b : Ln) (k : Int) (hk : I64 k) (W : World) :
    Calls Try.prog 140 #[.agg #[.int .i64 b.f, .int .i64 b.o, .int .i64 b.t], .int .i64 k] W fun e w' => e = .returned (.bool (holeB b k)) ∧ Below W.heap.size W w' := by
  rcases Bool.eq_false_or_eq_true (boardB b) with hB | hB
  · obtain ⟨w, h, s, rfl, hb⟩ := boardB_nat hB
    have s63 := hb.b63
    have hA := hb.area
    obtain ⟨m1, m2, m3⟩ := area_bounds hb.w1 hb.w7 hb.h1 hb.h7
    rcases Bool.eq_false_or_eq_true (inB k 0 ((w : Int) * h - 1)) with i1 | i1
    · obtain ⟨j, rfl⟩ := Int.eq_ofNat_of_zero_le (inB_iff.1 i1).1
      have jl : j < w * h := by have := (inB_iff.1 i1).2; rw [← Int.natCast_mul] at this; omega
      have hbit := bit_of s j s63
      have H := Lib.hid (show s.testBit j = holeB ⟨w, h, s⟩ j by rw [holeB_nat hb, decide_eq_true jl, Bool.true_and])
      go_enter Try.func140, Try.ntmps140
      go_wp2_with (first | (go_at_call 139; refine (is_ (sBoardOk_ _ _) hB).mono ?_; rintro e w1 ⟨rfl, hb1⟩; obtain ⟨hc, hf⟩ := bcell hb1; have hz0 : W.heap.size < w1.heap.size := (by have := hb1.size; (try simp at this); omega); have hw1 : Below W.heap.size W w1 := below_step ((Below.refl _ _).alloc (Nat.le_refl _) _) hb1 (by (try simp))) | (go_at_call 111; refine (l01In_ _ _ _ _).mono ?_; rintro e w' ⟨rfl, rfl⟩))
      go_ret
      exact ⟨ret_bool H.out, hw1⟩
    · have H := Lib.hid (show holeB ⟨w, h, s⟩ k = false by
        rw [holeB, decide_eq_false (fun hh : 0 ≤ k ∧ k < (w : Int) * h => by rw [inB_iff.2 ⟨hh.1, by omega⟩] at i1; cases i1)]; simp)
      go_enter Try.func140, Try.ntmps140
      go_wp2_with (first | (go_at_call 139; refine (is_ (sBoardOk_ _ _) hB).mono ?_; rintro e w1 ⟨rfl, hb1⟩; obtain ⟨hc, hf⟩ := bcell hb1; have hz0 : W.heap.size < w1.heap.size := (by have := hb1.size; (try simp at this); omega); have hw1 : Below W.heap.size W w1 := below_step ((Below.refl _ _).alloc (Nat.le_refl _) _) hb1 (by (try simp))) | (go_at_call 111; refine (l01In_ _ _ _ _).mono ?_; rintro e w' ⟨rfl, rfl⟩))
      go_ret
      exact ⟨ret_bool H.out.symm, hw1⟩
  · have H := Lib.hid (holeB_no (k := k) hB)
    go_enter Try.func140, Try.ntmps140
    go_wp2_with ((go_at_call 139; refine (is_ (sBoardOk_ _ _) hB).mono ?_; rintro e w1 ⟨rfl, hb1⟩; obtain ⟨hc, hf⟩ := bcell hb1; have hz0 : W.heap.size < w1.heap.size := (by have := hb1.size; (try simp at this); omega); have hw1 : Below W.heap.size W w1 := below_step ((Below.refl _ _).alloc (Nat.le_refl _) _) hb1 (by (try simp))))
    go_ret
    exact ⟨ret_bool H.out.symm, hw1⟩
end Go.Proofs.Ytbcgokpamhgabaa
namespace Go.Proofs.Ytbcgokpamhgabaa
set_option linter.unusedVariables false
set_option maxRecDepth 20000
open Go.RowKit Go.Sort

def useI (b : Ln) (p g k : Int) : Int := if pairB b p g && holeB b k then IntKind.i64.wrap (ways (linesL b) g (-1) p.toNat - ways (linesL b) g k p.toNat) else 0
set_option maxHeartbeats 2000000 in
theorem iHoleUse_ (b : Ln) (p g k : Int) (hp : I64 p) (hg : I64 g) (hk : I64 k) (W : World) :
    Calls Try.prog 89 #[.agg #[.int .i64 b.f, .int .i64 b.o, .int .i64 b.t], .int .i64 p, .int .i64 g, .int .i64 k] W fun e w' => e = .returned (.int .i64 (useI b p g k)) ∧ Below W.heap.size W w' := by
  rcases Bool.eq_false_or_eq_true (smallB b) with hS | hS
  · rcases Bool.eq_false_or_eq_true (posB b p) with hP | hP
    · rcases Bool.eq_false_or_eq_true (posB b g) with hG | hG
      · rcases Bool.eq_false_or_eq_true (holeB b k) with hH | hH
        · obtain ⟨w, h, s, rfl, hb, h16, s16⟩ := smallB_nat hS
          obtain ⟨q, rfl, hq⟩ := posB_nat hP
          have hql := posB_lt hb hq
          have HR : Hid (useI ⟨w, h, s⟩ q g k = IntKind.i64.wrap (ways (linesL ⟨w, h, s⟩) g (-1) q - ways (linesL ⟨w, h, s⟩) g k q)) := Lib.hid (by rw [useI, pairB, hS, hP, hG, hH]; rfl)
          have HC : Hid (cntG ⟨w, h, s⟩ q g = ways (linesL ⟨w, h, s⟩) g (-1) q) := Lib.hid (by rw [cntG, pairB, hS, hP, hG]; rfl)
          have HB := Lib.hid hb
          have H16 := Lib.hid h16
          have HQ := Lib.hid hql
          go_enter Try.func89, Try.ntmps89
          go_wp2_with fail
          refine (is_ (iIsSmall_ ⟨w, h, s⟩ _) hS).mono ?_
          rintro e w1 ⟨rfl, hb1⟩
          obtain ⟨hc, hf⟩ := bcell hb1
          have z0 : W.heap.size < w1.heap.size := by have := hb1.size; (try simp at this); omega
          have hw1 : Below W.heap.size W w1 := below_step ((Below.refl _ _).alloc (Nat.le_refl _) _) hb1 (by (try simp))
          have c0 : w1.cell? ⟨W.heap.size, 0, none⟩ = some (.int .i64 w) := by rw [hc _ _ (by simp)]; simp [go_sem]
          have c1 : w1.cell? ⟨W.heap.size, 1, none⟩ = some (.int .i64 h) := by rw [hc _ _ (by simp)]; simp [go_sem]
          have c2 : w1.cell? ⟨W.heap.size, 2, none⟩ = some (.int .i64 s) := by rw [hc _ _ (by simp)]; simp [go_sem]
          clear hc hf hb1
          go_wp2_with fail
          refine (is_ (iPositionOk_ ⟨w, h, s⟩ q hp _) hP).mono ?_
          rintro e w2 ⟨rfl, hb2⟩
          replace c0 := (hb2.cell (p := ⟨W.heap.size, 0, none⟩) z0).trans c0
          replace c1 := (hb2.cell (p := ⟨W.heap.size, 1, none⟩) z0).trans c1
          replace c2 := (hb2.cell (p := ⟨W.heap.size, 2, none⟩) z0).trans c2
          have hw2 := below_next hw1 hb2
          have zw2 : W.heap.size < (w2).heap.size := by have := hb2.size; omega
          clear hb2
          go_wp2_with fail
          refine (is_ (iPositionOk_ ⟨w, h, s⟩ g hg _) hG).mono ?_
          rintro e w3 ⟨rfl, hb2⟩
          replace c0 := (hb2.cell (p := ⟨W.heap.size, 0, none⟩) zw2).trans c0
          replace c1 := (hb2.cell (p := ⟨W.heap.size, 1, none⟩) zw2).trans c1
          replace c2 := (hb2.cell (p := ⟨W.heap.size, 2, none⟩) zw2).trans c2
          have hw3 := below_next hw2 hb2
          have zw3 : W.heap.size < (w3).heap.size := by have := hb2.size; omega
          clear hb2
          go_wp2_with fail
          refine (is_ (iHasHole_ ⟨w, h, s⟩ k hk _) hH).mono ?_
          rintro e w4 ⟨rfl, hb2⟩
          replace c0 := (hb2.cell (p := ⟨W.heap.size, 0, none⟩) zw3).trans c0
          replace c1 := (hb2.cell (p := ⟨W.heap.size, 1, none⟩) zw3).trans c1
          replace c2 := (hb2.cell (p := ⟨W.heap.size, 2, none⟩) zw3).trans c2
          have hw4 := below_next hw3 hb2
          have zw4 : W.heap.size < (w4).heap.size := by have := hb2.size; omega
          clear hb2
          go_wp2_with fail
          go_region_held3 (fun w' => w'.cell? ⟨W.heap.size, 0, none⟩ = some (.int .i64 w) ∧ w'.cell? ⟨W.heap.size, 1, none⟩ = some (.int .i64 h) ∧ w'.cell? ⟨W.heap.size, 2, none⟩ = some (.int .i64 s) ∧ Below w4.heap.size w4 w')
            (first | exact ⟨c0, c1, c2, (Below.refl _ _).drew⟩ | exact ⟨(hX.cell (p := ⟨W.heap.size, 0, none⟩) zw4).trans c0, (hX.cell (p := ⟨W.heap.size, 1, none⟩) zw4).trans c1, (hX.cell (p := ⟨W.heap.size, 2, none⟩) zw4).trans c2, hX⟩)
            (first
              | (go_at_call 86; refine (isI_ (iCountGames_ ⟨w, h, s⟩ q g hp hg _) HC.out).mono ?_; rintro e wL ⟨rfl, hbL⟩; have hX : Below w4.heap.size w4 wL := below_next (by first | assumption | exact (Below.refl _ _).drew) hbL)
              | (go_at_call 146; refine (counterOf_ ⟨w, h, s⟩ g k _).mono ?_; rintro e wB ⟨A, c, M, rfl, rd, hM, hlo, hm, hbB⟩; have hlo' : w4.heap.size ≤ M := Nat.le_trans (Below.size (B := w4.heap.size) (w := w4) (by first | assumption | exact (Below.refl _ _).drew)) hlo; have hX : Below w4.heap.size w4 wB := below_next (by first | assumption | exact (Below.refl _ _).drew) hbB)
              | (go_at_call 147; refine (count_new HB.out H16.out HQ.out g k (by first | exact rd | exact rd.below' hbL (Nat.le_of_lt hM)) (by first | exact hM | exact Nat.lt_of_lt_of_le hM hbL.size) (by first | exact hm | exact fun N f => (hm N f).kept (grown_below hbL none) (by simp))).mono ?_; rintro e wC ⟨rfl, -, hgC⟩; have hX : Below w4.heap.size w4 wC := (show Below w4.heap.size w4 _ by first | assumption | exact (Below.refl _ _).drew).grown hgC (Below.size (by assumption)) (fun k hk => by injection hk with hk; rw [← hk]; exact hlo')))
          all_goals (go_wp2; go_ret; exact ⟨by rw [HR.out]; rfl, below_next hw4 hX⟩)
        · have HR : Hid (useI b p g k = 0) := Lib.hid (by simp [useI, hH])
          go_enter Try.func89, Try.ntmps89
          go_wp2_with fail
          refine (is_ (iIsSmall_ b _) hS).mono ?_
          rintro e w1 ⟨rfl, hb1⟩
          obtain ⟨hc, hf⟩ := bcell hb1
          have z0 : W.heap.size < w1.heap.size := by have := hb1.size; (try simp at this); omega
          have hw1 : Below W.heap.size W w1 := below_step ((Below.refl _ _).alloc (Nat.le_refl _) _) hb1 (by (try simp))
          have c0 : w1.cell? ⟨W.heap.size, 0, none⟩ = some (.int .i64 b.f) := by rw [hc _ _ (by simp)]; simp [go_sem]
          have c1 : w1.cell? ⟨W.heap.size, 1, none⟩ = some (.int .i64 b.o) := by rw [hc _ _ (by simp)]; simp [go_sem]
          have c2 : w1.cell? ⟨W.heap.size, 2, none⟩ = some (.int .i64 b.t) := by rw [hc _ _ (by simp)]; simp [go_sem]
          clear hc hf hb1
          go_wp2_with fail
          refine (is_ (iPositionOk_ b p hp _) hP).mono ?_
          rintro e w2 ⟨rfl, hb2⟩
          replace c0 := (hb2.cell (p := ⟨W.heap.size, 0, none⟩) z0).trans c0
          replace c1 := (hb2.cell (p := ⟨W.heap.size, 1, none⟩) z0).trans c1
          replace c2 := (hb2.cell (p := ⟨W.heap.size, 2, none⟩) z0).trans c2
          have hw2 := below_next hw1 hb2
          have zw2 : W.heap.size < (w2).heap.size := by have := hb2.size; omega
          clear hb2
          go_wp2_with fail
          refine (is_ (iPositionOk_ b g hg _) hG).mono ?_
          rintro e w3 ⟨rfl, hb2⟩
          replace c0 := (hb2.cell (p := ⟨W.heap.size, 0, none⟩) zw2).trans c0
          replace c1 := (hb2.cell (p := ⟨W.heap.size, 1, none⟩) zw2).trans c1
          replace c2 := (hb2.cell (p := ⟨W.heap.size, 2, none⟩) zw2).trans c2
          have hw3 := below_next hw2 hb2
          have zw3 : W.heap.size < (w3).heap.size := by have := hb2.size; omega
          clear hb2
          go_wp2_with fail
          refine (is_ (iHasHole_ b k hk _) hH).mono ?_
          rintro e w4 ⟨rfl, hb2⟩
          replace c0 := (hb2.cell (p := ⟨W.heap.size, 0, none⟩) zw3).trans c0
          replace c1 := (hb2.cell (p := ⟨W.heap.size, 1, none⟩) zw3).trans c1
          replace c2 := (hb2.cell (p := ⟨W.heap.size, 2, none⟩) zw3).trans c2
          have hw4 := below_next hw3 hb2
          have zw4 : W.heap.size < (w4).heap.size := by have := hb2.size; omega
          clear hb2
          go_wp2
          go_ret
          exact ⟨by rw [HR.out]; rfl, hw4⟩
      · have HR : Hid (useI b p g k = 0) := Lib.hid (by simp [useI, pairB, hG])
        go_enter Try.func89, Try.ntmps89
        go_wp2_with fail
        refine (is_ (iIsSmall_ b _) hS).mono ?_
        rintro e w1 ⟨rfl, hb1⟩
        obtain ⟨hc, hf⟩ := bcell hb1
        have z0 : W.heap.size < w1.heap.size := by have := hb1.size; (try simp at this); omega
        have hw1 : Below W.heap.size W w1 := below_step ((Below.refl _ _).alloc (Nat.le_refl _) _) hb1 (by (try simp))
        have c0 : w1.cell? ⟨W.heap.size, 0, none⟩ = some (.int .i64 b.f) := by rw [hc _ _ (by simp)]; simp [go_sem]
        have c1 : w1.cell? ⟨W.heap.size, 1, none⟩ = some (.int .i64 b.o) := by rw [hc _ _ (by simp)]; simp [go_sem]
        have c2 : w1.cell? ⟨W.heap.size, 2, none⟩ = some (.int .i64 b.t) := by rw [hc _ _ (by simp)]; simp [go_sem]
        clear hc hf hb1
        go_wp2_with fail
        refine (is_ (iPositionOk_ b p hp _) hP).mono ?_
        rintro e w2 ⟨rfl, hb2⟩
        replace c0 := (hb2.cell (p := ⟨W.heap.size, 0, none⟩) z0).trans c0
        replace c1 := (hb2.cell (p := ⟨W.heap.size, 1, none⟩) z0).trans c1
        replace c2 := (hb2.cell (p := ⟨W.heap.size, 2, none⟩) z0).trans c2
        have hw2 := below_next hw1 hb2
        have zw2 : W.heap.size < (w2).heap.size := by have := hb2.size; omega
        clear hb2
        go_wp2_with fail
        refine (is_ (iPositionOk_ b g hg _) hG).mono ?_
        rintro e w3 ⟨rfl, hb2⟩
        replace c0 := (hb2.cell (p := ⟨W.heap.size, 0, none⟩) zw2).trans c0
        replace c1 := (hb2.cell (p := ⟨W.heap.size, 1, none⟩) zw2).trans c1
        replace c2 := (hb2.cell (p := ⟨W.heap.size, 2, none⟩) zw2).trans c2
        have hw3 := below_next hw2 hb2
        have zw3 : W.heap.size < (w3).heap.size := by have := hb2.size; omega
        clear hb2
        go_wp2
        go_ret
        exact ⟨by rw [HR.out]; rfl, hw3⟩
    · have HR : Hid (useI b p g k = 0) := Lib.hid (by simp [useI, pairB, hP])
      go_enter Try.func89, Try.ntmps89
      go_wp2_with fail
      refine (is_ (iIsSmall_ b _) hS).mono ?_
      rintro e w1 ⟨rfl, hb1⟩
      obtain ⟨hc, hf⟩ := bcell hb1
      have z0 : W.heap.size < w1.heap.size := by have := hb1.size; (try simp at this); omega
      have hw1 : Below W.heap.size W w1 := below_step ((Below.refl _ _).alloc (Nat.le_refl _) _) hb1 (by (try simp))
      have c0 : w1.cell? ⟨W.heap.size, 0, none⟩ = some (.int .i64 b.f) := by rw [hc _ _ (by simp)]; simp [go_sem]
      have c1 : w1.cell? ⟨W.heap.size, 1, none⟩ = some (.int .i64 b.o) := by rw [hc _ _ (by simp)]; simp [go_sem]
      have c2 : w1.cell? ⟨W.heap.size, 2, none⟩ = some (.int .i64 b.t) := by rw [hc _ _ (by simp)]; simp [go_sem]
      clear hc hf hb1
      go_wp2_with fail
      refine (is_ (iPositionOk_ b p hp _) hP).mono ?_
      rintro e w2 ⟨rfl, hb2⟩
      replace c0 := (hb2.cell (p := ⟨W.heap.size, 0, none⟩) z0).trans c0
      replace c1 := (hb2.cell (p := ⟨W.heap.size, 1, none⟩) z0).trans c1
      replace c2 := (hb2.cell (p := ⟨W.heap.size, 2, none⟩) z0).trans c2
      have hw2 := below_next hw1 hb2
      have zw2 : W.heap.size < (w2).heap.size := by have := hb2.size; omega
      clear hb2
      go_wp2
      go_ret
      exact ⟨by rw [HR.out]; rfl, hw2⟩
  · have HR : Hid (useI b p g k = 0) := Lib.hid (by simp [useI, pairB, hS])
    go_enter Try.func89, Try.ntmps89
    go_wp2_with fail
    refine (is_ (iIsSmall_ b _) hS).mono ?_
    rintro e w1 ⟨rfl, hb1⟩
    obtain ⟨hc, hf⟩ := bcell hb1
    have z0 : W.heap.size < w1.heap.size := by have := hb1.size; (try simp at this); omega
    have hw1 : Below W.heap.size W w1 := below_step ((Below.refl _ _).alloc (Nat.le_refl _) _) hb1 (by (try simp))
    have c0 : w1.cell? ⟨W.heap.size, 0, none⟩ = some (.int .i64 b.f) := by rw [hc _ _ (by simp)]; simp [go_sem]
    have c1 : w1.cell? ⟨W.heap.size, 1, none⟩ = some (.int .i64 b.o) := by rw [hc _ _ (by simp)]; simp [go_sem]
    have c2 : w1.cell? ⟨W.heap.size, 2, none⟩ = some (.int .i64 b.t) := by rw [hc _ _ (by simp)]; simp [go_sem]
    clear hc hf hb1
    go_wp2
    go_ret
    exact ⟨by rw [HR.out]; rfl, hw1⟩
end Go.Proofs.Ytbcgokpamhgabaa

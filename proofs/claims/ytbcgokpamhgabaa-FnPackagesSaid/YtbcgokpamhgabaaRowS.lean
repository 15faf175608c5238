/- The contract of the reference's RowOfThree. -/
import Derived.Test.YtbcgokpamhgabaaChecked
import Derived.Test.YtbcgokpamhgabaaMem
import Derived.Tactics
import Derived.Tactics2
import Derived.WalkKit
import Derived.WalkSpells
import Derived.WalkLawsBesides
import Derived.Deep.QuietTactic
import Derived.BigQuiet
import Derived.BigGuardPart
import Derived.Lib.QuietBelow
import Derived.OwnWalk
import Derived.KernelRfl
import Derived.Test.YtbcgokpamhgabaaRow
set_option linter.unusedVariables false
set_option maxRecDepth 20000
namespace Go.Proofs.Ytbcgokpamhgabaa
open Go.RowKit Go.Sort

set_option maxHeartbeats 1000000 in
theorem sHasHole_ (b : Ln) (k : Int) (hk : I64 k) (W : World) :
    Calls Try.prog 140 #[.agg #[.int .i64 b.f, .int .i64 b.o, .int .i64 b.t], .int .i64 k] W fun e w' => e = .returned (.bool (holeB b k)) ∧ Below W.heap.size W w' := by
  rcases Bool.eq_false_or_eq_true (boardB b) with hB | hB
  · obtain ⟨w, h, s, rfl, hb⟩ := boardB_nat hB
    have s63 := hb.b63
    have hA := hb.area
    obtain ⟨m1, m2, m3⟩ := area_bounds hb.w1 hb.w7 hb.h1 hb.h7
    rcases Bool.eq_false_or_eq_true (inB k 0 ((w : Int) * h - 1)) with i1 | i1
    · obtain ⟨j, rfl⟩ := Int.eq_ofNat_of_zero_le (inB_iff.1 i1).1
      have jl : j < w * h := by have := (inB_iff.1 i1).2; rw [← Int.natCast_mul] at this; omega
      have hbit := bit_of s j s63
      have H := Lib.hid (show s.testBit j = holeB ⟨w, h, s⟩ j by rw [holeB_nat hb, decide_eq_true jl, Bool.true_and])
      go_enter Try.func140, Try.ntmps140
      go_wp2_with (first | (go_at_call 139; refine (is_ (sBoardOk_ _ _) hB).mono ?_; rintro e w1 ⟨rfl, hb1⟩; obtain ⟨hc, hf⟩ := bcell hb1; have hz0 : W.heap.size < w1.heap.size := (by have := hb1.size; (try simp at this); omega); have hw1 : Below W.heap.size W w1 := below_step ((Below.refl _ _).alloc (Nat.le_refl _) _) hb1 (by (try simp))) | (go_at_call 111; refine (l01In_ _ _ _ _).mono ?_; rintro e w' ⟨rfl, rfl⟩))
      go_ret
      exact ⟨ret_bool H.out, hw1⟩
    · have H := Lib.hid (show holeB ⟨w, h, s⟩ k = false by
        rw [holeB, decide_eq_false (fun hh : 0 ≤ k ∧ k < (w : Int) * h => by rw [inB_iff.2 ⟨hh.1, by omega⟩] at i1; cases i1)]; simp)
      go_enter Try.func140, Try.ntmps140
      go_wp2_with (first | (go_at_call 139; refine (is_ (sBoardOk_ _ _) hB).mono ?_; rintro e w1 ⟨rfl, hb1⟩; obtain ⟨hc, hf⟩ := bcell hb1; have hz0 : W.heap.size < w1.heap.size := (by have := hb1.size; (try simp at this); omega); have hw1 : Below W.heap.size W w1 := below_step ((Below.refl _ _).alloc (Nat.le_refl _) _) hb1 (by (try simp))) | (go_at_call 111; refine (l01In_ _ _ _ _).mono ?_; rintro e w' ⟨rfl, rfl⟩))
      go_ret
      exact ⟨ret_bool H.out.symm, hw1⟩
  · have H := Lib.hid (holeB_no (k := k) hB)
    go_enter Try.func140, Try.ntmps140
    go_wp2_with ((go_at_call 139; refine (is_ (sBoardOk_ _ _) hB).mono ?_; rintro e w1 ⟨rfl, hb1⟩; obtain ⟨hc, hf⟩ := bcell hb1; have hz0 : W.heap.size < w1.heap.size := (by have := hb1.size; (try simp at this); omega); have hw1 : Below W.heap.size W w1 := below_step ((Below.refl _ _).alloc (Nat.le_refl _) _) hb1 (by (try simp))))
    go_ret
    exact ⟨ret_bool H.out.symm, hw1⟩
set_option maxHeartbeats 4000000 in
theorem sRowOfThree_ (b : Ln) (k way : Int) (hk : I64 k) (hway : I64 way) (W : World) :
    Calls Try.prog 118 #[.agg #[.int .i64 b.f, .int .i64 b.o, .int .i64 b.t], .int .i64 k, .int .i64 way] W (GivesRow W 34 (rNeed b k way) (rGone b k way) (rLs b k way) (rPos b k way) (rowOk b k way)) := by
  rcases Bool.eq_false_or_eq_true (holeB b k) with hH | hH
  · rcases Bool.eq_false_or_eq_true (inB way 0 3) with i1 | i1
    · obtain ⟨wn, rfl⟩ := Int.eq_ofNat_of_zero_le (inB_iff.1 i1).1
      obtain ⟨w, h, s, q, rfl, rfl, hb, hq, hs⟩ := holeB_open hH
      have hA := hb.area
      have hw4 : wn < 4 := by have := (inB_iff.1 i1).2; omega
      obtain ⟨y1, hy1⟩ : ∃ y : Nat, y = (wn + 1) % 4 := ⟨_, rfl⟩
      obtain ⟨y3, hy3⟩ : ∃ y : Nat, y = (wn + 3) % 4 := ⟨_, rfl⟩
      have m1 : ((wn : Int) + 1) % 4 = (y1 : Int) := by omega
      have m3 : ((wn : Int) + 3) % 4 = (y3 : Int) := by omega
      have ly1 : y1 < 4 := by omega
      have ly3 : y3 < 4 := by omega
      have hM := bes_bound (k := q) (way := wn) hb
      have hU := bes_bound (k := q) (way := y1) hb
      have hV := bes_bound (k := q) (way := y3) hb
      have EM : Hid (rM ⟨w, h, s⟩ q wn = bes w h s q wn) := Lib.hid (by rw [rM, Int.toNat_natCast, besI_yes hH])
      have EU : Hid (rU ⟨w, h, s⟩ q wn = bes w h s q y1) := Lib.hid (by rw [rU, Int.toNat_natCast, besI_yes hH, hy1])
      have EV : Hid (rV ⟨w, h, s⟩ q wn = bes w h s q y3) := Lib.hid (by rw [rV, Int.toNat_natCast, besI_yes hH, hy3])
      have HMo : Hid (∀ m : Nat, bes w h s q wn = m → m < w * h ∧ rN ⟨w, h, s⟩ q wn = bes w h s m wn) := Lib.hid (fun m e => by
        obtain ⟨x1, x2, _⟩ := hole_of hb e
        exact ⟨x1, by rw [rN, EM.out, e, Int.toNat_natCast, besI_yes (holeB_lt hb x2)]⟩)
      clear hy1 hy3
      go_enter Try.func118, Try.ntmps118
      go_wp2_with fail
      refine (is_ (sHasHole_ ⟨w, h, s⟩ q hk _) hH).mono ?_
      rintro e W1 ⟨rfl, hb1⟩
      obtain ⟨hc, hf⟩ := bcell hb1
      have hz : W.heap.size + 2 ≤ W1.heap.size := by have := hb1.size; simpa using this
      have hW1 : Below W.heap.size W W1 := below_step (((Below.refl _ _).alloc (Nat.le_refl _) _).alloc (by simp) _) hb1 (by simp; omega)
      have bb0 : W1.cell? ⟨W.heap.size, 0, none⟩ = some (.int .i64 w) := by rw [hc _ _ (by simp; try omega)]; simp [go_sem]
      have bb1 : W1.cell? ⟨W.heap.size, 1, none⟩ = some (.int .i64 h) := by rw [hc _ _ (by simp; try omega)]; simp [go_sem]
      have bb2 : W1.cell? ⟨W.heap.size, 2, none⟩ = some (.int .i64 s) := by rw [hc _ _ (by simp; try omega)]; simp [go_sem]
      have br0 : W1.cell? ⟨W.heap.size + 1, 0, none⟩ = some (.int .i64 0) := by rw [hc _ _ (by simp)]; simp [go_sem]
      have br1 : W1.cell? ⟨W.heap.size + 1, 1, none⟩ = some (.int .i64 0) := by rw [hc _ _ (by simp)]; simp [go_sem]
      have br2 : W1.cell? ⟨W.heap.size + 1, 2, none⟩ = some (.slice none 0 0) := by rw [hc _ _ (by simp)]; simp [go_sem]
      have bz0 : W1.frozen? ⟨W.heap.size + 1, 0, none⟩ = false := by rw [hf _ _ (by simp)]; simp [go_sem]
      have bz1 : W1.frozen? ⟨W.heap.size + 1, 1, none⟩ = false := by rw [hf _ _ (by simp)]; simp [go_sem]
      have bz2 : W1.frozen? ⟨W.heap.size + 1, 2, none⟩ = false := by rw [hf _ _ (by simp)]; simp [go_sem]
      have hz1 : W.heap.size + 1 < W1.heap.size := by omega
      have hz0 : W.heap.size < W1.heap.size := by omega
      have B0 := Lib.hid bb0
      have B1 := Lib.hid bb1
      have B2 := Lib.hid bb2
      have R0 := Lib.hid br0
      have R1 := Lib.hid br1
      have R2 := Lib.hid br2
      have Z0 := Lib.hid bz0
      have Z1 := Lib.hid bz1
      have Z2 := Lib.hid bz2
      clear hc hf hb1 bb0 bb1 bb2 br0 br1 br2 bz0 bz1 bz2
      have c0 := ((Below.refl W1.heap.size W1).cell (p := ⟨W.heap.size, 0, none⟩) hz0).trans B0.out
      have c1 := ((Below.refl W1.heap.size W1).cell (p := ⟨W.heap.size, 1, none⟩) hz0).trans B1.out
      have c2 := ((Below.refl W1.heap.size W1).cell (p := ⟨W.heap.size, 2, none⟩) hz0).trans B2.out
      have c3 := ((Below.refl W1.heap.size W1).cell (p := ⟨W.heap.size + 1, 0, none⟩) hz1).trans R0.out
      have c4 := ((Below.refl W1.heap.size W1).cell (p := ⟨W.heap.size + 1, 1, none⟩) hz1).trans R1.out
      have c5 := ((Below.refl W1.heap.size W1).cell (p := ⟨W.heap.size + 1, 2, none⟩) hz1).trans R2.out
      have c6 := ((Below.refl W1.heap.size W1).frozen (p := ⟨W.heap.size + 1, 0, none⟩) hz1).trans Z0.out
      have c7 := ((Below.refl W1.heap.size W1).frozen (p := ⟨W.heap.size + 1, 1, none⟩) hz1).trans Z1.out
      have c8 := ((Below.refl W1.heap.size W1).frozen (p := ⟨W.heap.size + 1, 2, none⟩) hz1).trans Z2.out
      have c9 : W.heap.size + 1 < W1.heap.size := by have := (Below.refl W1.heap.size W1).size; omega
      go_wp2_with (go_at_call 111; refine (l01In_ _ _ _ _).mono ?_; rintro e w' ⟨rfl, rfl⟩)
      refine (l03Step_ w h s q wn hb (by omega) hw4 _).mono ?_
      rintro e W2 ⟨rfl, hb2⟩
      generalize hMe : bes w h s q wn = M at hM EM HMo ⊢
      have HMe := EM
      obtain ⟨M1, M2⟩ := hM
      clear hMe EM c0 c1 c2 c3 c4 c5 c6 c7 c8 c9
      have d0 := (hb2.cell (p := ⟨W.heap.size, 0, none⟩) hz0).trans B0.out
      have d1 := (hb2.cell (p := ⟨W.heap.size, 1, none⟩) hz0).trans B1.out
      have d2 := (hb2.cell (p := ⟨W.heap.size, 2, none⟩) hz0).trans B2.out
      have d3 := (hb2.cell (p := ⟨W.heap.size + 1, 0, none⟩) hz1).trans R0.out
      have d4 := (hb2.cell (p := ⟨W.heap.size + 1, 1, none⟩) hz1).trans R1.out
      have d5 := (hb2.cell (p := ⟨W.heap.size + 1, 2, none⟩) hz1).trans R2.out
      have d6 := (hb2.frozen (p := ⟨W.heap.size + 1, 0, none⟩) hz1).trans Z0.out
      have d7 := (hb2.frozen (p := ⟨W.heap.size + 1, 1, none⟩) hz1).trans Z1.out
      have d8 := (hb2.frozen (p := ⟨W.heap.size + 1, 2, none⟩) hz1).trans Z2.out
      have d9 : W.heap.size + 1 < W2.heap.size := by have := hb2.size; omega
      go_wp2_with fail
      refine (l03Step_ w h s q y1 hb (by omega) ly1 _).mono ?_
      rintro e W3 ⟨rfl, hb3⟩
      have h3 := below_next hb2 hb3
      generalize hUe : bes w h s q y1 = U at hU EU ⊢
      have HUe := EU
      obtain ⟨U1, U2⟩ := hU
      clear hUe EU d0 d1 d2 d3 d4 d5 d6 d7 d8 d9
      have c0 := (h3.cell (p := ⟨W.heap.size, 0, none⟩) hz0).trans B0.out
      have c1 := (h3.cell (p := ⟨W.heap.size, 1, none⟩) hz0).trans B1.out
      have c2 := (h3.cell (p := ⟨W.heap.size, 2, none⟩) hz0).trans B2.out
      have c3 := (h3.cell (p := ⟨W.heap.size + 1, 0, none⟩) hz1).trans R0.out
      have c4 := (h3.cell (p := ⟨W.heap.size + 1, 1, none⟩) hz1).trans R1.out
      have c5 := (h3.cell (p := ⟨W.heap.size + 1, 2, none⟩) hz1).trans R2.out
      have c6 := (h3.frozen (p := ⟨W.heap.size + 1, 0, none⟩) hz1).trans Z0.out
      have c7 := (h3.frozen (p := ⟨W.heap.size + 1, 1, none⟩) hz1).trans Z1.out
      have c8 := (h3.frozen (p := ⟨W.heap.size + 1, 2, none⟩) hz1).trans Z2.out
      have c9 : W.heap.size + 1 < W3.heap.size := by have := h3.size; omega
      go_wp2_with fail
      refine (l03Step_ w h s q y3 hb (by omega) ly3 _).mono ?_
      rintro e W4 ⟨rfl, hb4⟩
      have h4' := below_next h3 hb4
      generalize hVe : bes w h s q y3 = V at hV EV ⊢
      have HVe := EV
      obtain ⟨V1, V2⟩ := hV
      clear hVe EV c0 c1 c2 c3 c4 c5 c6 c7 c8 c9
      have d0 := (h4'.cell (p := ⟨W.heap.size, 0, none⟩) hz0).trans B0.out
      have d1 := (h4'.cell (p := ⟨W.heap.size, 1, none⟩) hz0).trans B1.out
      have d2 := (h4'.cell (p := ⟨W.heap.size, 2, none⟩) hz0).trans B2.out
      have d3 := (h4'.cell (p := ⟨W.heap.size + 1, 0, none⟩) hz1).trans R0.out
      have d4 := (h4'.cell (p := ⟨W.heap.size + 1, 1, none⟩) hz1).trans R1.out
      have d5 := (h4'.cell (p := ⟨W.heap.size + 1, 2, none⟩) hz1).trans R2.out
      have d6 := (h4'.frozen (p := ⟨W.heap.size + 1, 0, none⟩) hz1).trans Z0.out
      have d7 := (h4'.frozen (p := ⟨W.heap.size + 1, 1, none⟩) hz1).trans Z1.out
      have d8 := (h4'.frozen (p := ⟨W.heap.size + 1, 2, none⟩) hz1).trans Z2.out
      have d9 : W.heap.size + 1 < W4.heap.size := by have := h4'.size; omega
      have hWX := below_next hW1 h4'
      have HNe := HMe
      by_cases a1 : M < 0
      · have hB := rowOk_neg (b := ⟨w, h, s⟩) (k := q) (way := (wn : Int)) (by first | (rw [HMe.out]; omega) | (rw [HUe.out]; omega) | (rw [HVe.out]; omega) | (rw [HNe.out]; omega))
        have HB : Hid (rowOk ⟨w, h, s⟩ q (wn : Int) = false) := Lib.hid hB
        have HN : Hid (rNeed ⟨w, h, s⟩ q (wn : Int) = 0) := Lib.hid (by simp [rNeed, hB])
        have HG : Hid (rGone ⟨w, h, s⟩ q (wn : Int) = 0) := Lib.hid (by simp [rGone, hB])
        have HL : Hid (rLs ⟨w, h, s⟩ q (wn : Int) = []) := Lib.hid (by simp [rLs, hB])
        have HP : Hid (rPos ⟨w, h, s⟩ q (wn : Int) = 0) := Lib.hid (by simp [rPos, hB])
        clear hB
        go_wp2
        refine bodyPost_ret (v := .tuple #[.agg #[.int .i64 0, .int .i64 0, .slice none 0 0], .int .i64 0, .bool false]) (by simp [results, Try.results118, go_sem, *]) rfl ⟨none, 0, by rw [HB.out, HN.out, HG.out, HL.out, HP.out]; rfl, by rw [HL.out]; exact World.ownsRow_nil _ _ _ _, ?_⟩
        repeat (first | exact hWX | exact Below.refl _ _ | refine Below.setCell ?_ (by simp) _ | refine Below.alloc ?_ (by first | exact Nat.le_refl _ | omega | (simp; omega) | simp) _)
      have g1 : decide (M < 0) = false := decide_eq_false a1
      by_cases a3 : U < 0
      · have hB := rowOk_neg (b := ⟨w, h, s⟩) (k := q) (way := (wn : Int)) (by first | (rw [HMe.out]; omega) | (rw [HUe.out]; omega) | (rw [HVe.out]; omega) | (rw [HNe.out]; omega))
        have HB : Hid (rowOk ⟨w, h, s⟩ q (wn : Int) = false) := Lib.hid hB
        have HN : Hid (rNeed ⟨w, h, s⟩ q (wn : Int) = 0) := Lib.hid (by simp [rNeed, hB])
        have HG : Hid (rGone ⟨w, h, s⟩ q (wn : Int) = 0) := Lib.hid (by simp [rGone, hB])
        have HL : Hid (rLs ⟨w, h, s⟩ q (wn : Int) = []) := Lib.hid (by simp [rLs, hB])
        have HP : Hid (rPos ⟨w, h, s⟩ q (wn : Int) = 0) := Lib.hid (by simp [rPos, hB])
        clear hB
        go_wp2
        refine bodyPost_ret (v := .tuple #[.agg #[.int .i64 0, .int .i64 0, .slice none 0 0], .int .i64 0, .bool false]) (by simp [results, Try.results118, go_sem, *]) rfl ⟨none, 0, by rw [HB.out, HN.out, HG.out, HL.out, HP.out]; rfl, by rw [HL.out]; exact World.ownsRow_nil _ _ _ _, ?_⟩
        repeat (first | exact hWX | exact Below.refl _ _ | refine Below.setCell ?_ (by simp) _ | refine Below.alloc ?_ (by first | exact Nat.le_refl _ | omega | (simp; omega) | simp) _)
      have g3 : decide (U < 0) = false := decide_eq_false a3
      by_cases a4 : V < 0
      · have hB := rowOk_neg (b := ⟨w, h, s⟩) (k := q) (way := (wn : Int)) (by first | (rw [HMe.out]; omega) | (rw [HUe.out]; omega) | (rw [HVe.out]; omega) | (rw [HNe.out]; omega))
        have HB : Hid (rowOk ⟨w, h, s⟩ q (wn : Int) = false) := Lib.hid hB
        have HN : Hid (rNeed ⟨w, h, s⟩ q (wn : Int) = 0) := Lib.hid (by simp [rNeed, hB])
        have HG : Hid (rGone ⟨w, h, s⟩ q (wn : Int) = 0) := Lib.hid (by simp [rGone, hB])
        have HL : Hid (rLs ⟨w, h, s⟩ q (wn : Int) = []) := Lib.hid (by simp [rLs, hB])
        have HP : Hid (rPos ⟨w, h, s⟩ q (wn : Int) = 0) := Lib.hid (by simp [rPos, hB])
        clear hB
        go_wp2
        refine bodyPost_ret (v := .tuple #[.agg #[.int .i64 0, .int .i64 0, .slice none 0 0], .int .i64 0, .bool false]) (by simp [results, Try.results118, go_sem, *]) rfl ⟨none, 0, by rw [HB.out, HN.out, HG.out, HL.out, HP.out]; rfl, by rw [HL.out]; exact World.ownsRow_nil _ _ _ _, ?_⟩
        repeat (first | exact hWX | exact Below.refl _ _ | refine Below.setCell ?_ (by simp) _ | refine Below.alloc ?_ (by first | exact Nat.le_refl _ | omega | (simp; omega) | simp) _)
      have g4 : decide (V < 0) = false := decide_eq_false a4
      obtain ⟨m, rfl⟩ := Int.eq_ofNat_of_zero_le (show 0 ≤ M by omega)
      obtain ⟨ml0, EN0⟩ := HMo.out m rfl
      have EN := Lib.hid EN0
      have hN := bes_bound (k := m) (way := wn) hb
      clear EN0 HNe HMo
      go_wp2_with fail
      refine (l03Step_ w h s m wn hb (by omega) hw4 _).mono ?_
      rintro e W5' ⟨rfl, hb5'⟩
      have h5' := below_next h4' hb5'
      generalize hNe : bes w h s m wn = N at hN EN ⊢
      have HNe := EN
      have HNN := Lib.hid hNe
      obtain ⟨N1, N2⟩ := hN
      clear hNe EN d0 d1 d2 d3 d4 d5 d6 d7 d8 d9 hWX
      have c0 := (h5'.cell (p := ⟨W.heap.size, 0, none⟩) hz0).trans B0.out
      have c1 := (h5'.cell (p := ⟨W.heap.size, 1, none⟩) hz0).trans B1.out
      have c2 := (h5'.cell (p := ⟨W.heap.size, 2, none⟩) hz0).trans B2.out
      have c3 := (h5'.cell (p := ⟨W.heap.size + 1, 0, none⟩) hz1).trans R0.out
      have c4 := (h5'.cell (p := ⟨W.heap.size + 1, 1, none⟩) hz1).trans R1.out
      have c5 := (h5'.cell (p := ⟨W.heap.size + 1, 2, none⟩) hz1).trans R2.out
      have c6 := (h5'.frozen (p := ⟨W.heap.size + 1, 0, none⟩) hz1).trans Z0.out
      have c7 := (h5'.frozen (p := ⟨W.heap.size + 1, 1, none⟩) hz1).trans Z1.out
      have c8 := (h5'.frozen (p := ⟨W.heap.size + 1, 2, none⟩) hz1).trans Z2.out
      have c9 : W.heap.size + 1 < W5'.heap.size := by have := h5'.size; omega
      have hWX := below_next hW1 h5'
      by_cases a2 : N < 0
      · have hB := rowOk_neg (b := ⟨w, h, s⟩) (k := q) (way := (wn : Int)) (by first | (rw [HMe.out]; omega) | (rw [HUe.out]; omega) | (rw [HVe.out]; omega) | (rw [HNe.out]; omega))
        have HB : Hid (rowOk ⟨w, h, s⟩ q (wn : Int) = false) := Lib.hid hB
        have HN : Hid (rNeed ⟨w, h, s⟩ q (wn : Int) = 0) := Lib.hid (by simp [rNeed, hB])
        have HG : Hid (rGone ⟨w, h, s⟩ q (wn : Int) = 0) := Lib.hid (by simp [rGone, hB])
        have HL : Hid (rLs ⟨w, h, s⟩ q (wn : Int) = []) := Lib.hid (by simp [rLs, hB])
        have HP : Hid (rPos ⟨w, h, s⟩ q (wn : Int) = 0) := Lib.hid (by simp [rPos, hB])
        clear hB
        go_wp2
        refine bodyPost_ret (v := .tuple #[.agg #[.int .i64 0, .int .i64 0, .slice none 0 0], .int .i64 0, .bool false]) (by simp [results, Try.results118, go_sem, *]) rfl ⟨none, 0, by rw [HB.out, HN.out, HG.out, HL.out, HP.out]; rfl, by rw [HL.out]; exact World.ownsRow_nil _ _ _ _, ?_⟩
        repeat (first | exact hWX | exact Below.refl _ _ | refine Below.setCell ?_ (by simp) _ | refine Below.alloc ?_ (by first | exact Nat.le_refl _ | omega | (simp; omega) | simp) _)
      have g2 : decide (N < 0) = false := decide_eq_false a2
      go_wp2_with fail
      refine (isI_ (l03Step_ w h s m wn hb (by omega) hw4 _) HNN.out).mono ?_
      rintro e W4 ⟨rfl, hb6⟩
      have h4 := below_next h5' hb6
      clear c0 c1 c2 c3 c4 c5 c6 c7 c8 c9 hWX
      have d0 := (h4.cell (p := ⟨W.heap.size, 0, none⟩) hz0).trans B0.out
      have d1 := (h4.cell (p := ⟨W.heap.size, 1, none⟩) hz0).trans B1.out
      have d2 := (h4.cell (p := ⟨W.heap.size, 2, none⟩) hz0).trans B2.out
      have d3 := (h4.cell (p := ⟨W.heap.size + 1, 0, none⟩) hz1).trans R0.out
      have d4 := (h4.cell (p := ⟨W.heap.size + 1, 1, none⟩) hz1).trans R1.out
      have d5 := (h4.cell (p := ⟨W.heap.size + 1, 2, none⟩) hz1).trans R2.out
      have d6 := (h4.frozen (p := ⟨W.heap.size + 1, 0, none⟩) hz1).trans Z0.out
      have d7 := (h4.frozen (p := ⟨W.heap.size + 1, 1, none⟩) hz1).trans Z1.out
      have d8 := (h4.frozen (p := ⟨W.heap.size + 1, 2, none⟩) hz1).trans Z2.out
      have d9 : W.heap.size + 1 < W4.heap.size := by have := h4.size; omega
      have hW4 := below_next hW1 h4
      obtain ⟨w2, h2, s2, q2, m', n, u, v, hbe, hqe, eM, eN, eU, eV, hrow, ml, nl, ul, vl⟩ := row_of (b := ⟨w, h, s⟩) (k := q) hw4 (by rw [HMe.out]; omega) (by rw [HNe.out]; omega) (by rw [HUe.out]; omega) (by rw [HVe.out]; omega)
      rw [Ln.ext_iff'] at hbe
      simp only at hbe
      obtain ⟨b1', b2', b3'⟩ := hbe
      obtain rfl : w = w2 := by omega
      obtain rfl : h = h2 := by omega
      obtain rfl : s = s2 := by omega
      obtain rfl : q = q2 := by omega
      obtain rfl : m = m' := by have := HMe.out.symm.trans eM; omega
      obtain rfl : N = n := HNe.out.symm.trans eN
      obtain rfl : U = u := HUe.out.symm.trans eU
      obtain rfl : V = v := HVe.out.symm.trans eV
      have hA := hrow.hb.area
      have ql := hrow.k1
      have hpk := row_pack hrow
      have hsb := rowP_sub hrow
      have P63 := b63_area hrow.hb (posB_lt hrow.hb hsb)
      have OK : rowOk ⟨w, h, s⟩ q wn = true := by
        simp only [rowOk, i1, eM, eN, eU, eV, Bool.true_and, Bool.and_eq_true, decide_eq_true_eq]; omega
      have PE : rPos ⟨w, h, s⟩ q wn = (rowP q m n u : Nat) := by simp [rPos, OK, eM, eN, eU]
      have JE : rJs ⟨w, h, s⟩ q wn = rowJ q m n u v := by simp [rJs, eM, eN, eU, eV]
      have HOK := Lib.hid OK
      have HN : Hid (rNeed ⟨w, h, s⟩ q wn = packN ⟨w, h, s⟩ (rowP q m n u : Nat) (rowJ q m n u v)) := Lib.hid (by rw [rNeed, OK, if_pos rfl, PE, JE])
      have HG : Hid (rGone ⟨w, h, s⟩ q wn = packG ⟨w, h, s⟩ (rowP q m n u : Nat) (rowJ q m n u v)) := Lib.hid (by rw [rGone, OK, if_pos rfl, PE, JE])
      have HL : Hid (rLs ⟨w, h, s⟩ q wn = packL ⟨w, h, s⟩ (rowP q m n u : Nat) (rowJ q m n u v)) := Lib.hid (by rw [rLs, OK, if_pos rfl, PE, JE])
      have HPE := Lib.hid PE
      have p1 := i64_pow q (by omega)
      have p2 := i64_pow m (by omega)
      have p3 := i64_pow n (by omega)
      have p4 := i64_pow u (by omega)
      have o1 := i64_or (pow2 q) (pow2 m) (b63_pow2 (by omega)) (b63_pow2 (by omega))
      have o2 := i64_or (pow2 q ||| pow2 m) (pow2 n) (b63_or (b63_pow2 (by omega)) (b63_pow2 (by omega))) (b63_pow2 (by omega))
      have o3 := i64_or (pow2 q ||| pow2 m ||| pow2 n) (pow2 u) (b63_or (b63_or (b63_pow2 (by omega)) (b63_pow2 (by omega))) (b63_pow2 (by omega))) (b63_pow2 (by omega))
      rw [show (pow2 q ||| pow2 m ||| pow2 n ||| pow2 u) = rowP q m n u from rfl] at o3
      generalize rowP q m n u = P at hpk P63 HN HG HL HPE o3
      have hPI : I64 (P : Int) := by unfold B63 at P63; unfold I64; omega
      have HPK := Lib.hid hpk
      have HPI := Lib.hid hPI
      have HROW := Lib.hid hrow
      clear eM eN eU eV OK PE JE hsb hpk hPI P63 hrow i1 HMe HNe HUe HVe hqe b1' b2' b3' HNN
      go_wp2_with fail
      go_quiet (fail)
      go_wp2_with fail
      refine (sPackageOf_ ⟨w, h, s⟩ P HPI.out (rowJ q m n u v) _ _ (by simp [rowJ]) _ (rd_drewN (rd_lit W4 #[.int .i64 u, .int .i64 q, .int .i64 v, .int .i64 n, .int .i64 m, .int .i64 q, .int .i64 v, .int .i64 q, .int .i64 u] 34) _)).mono ?_
      rintro e W5 ⟨A5, k5, rfl, own5, hb5⟩
      rw [HPK.out]
      have hn5 : Below W4.heap.size W4 W5 := below_step (below_drewN ((Below.refl _ _).alloc (Nat.le_refl _) _) _) hb5 (by simp [World.drewN])
      have h5 := below_next h4 hn5
      have hlo : ∀ g, (Value.slice A5 (packL ⟨w, h, s⟩ (P : Nat) (rowJ q m n u v)).length k5).ownBlock = some g → W4.heap.size + 1 ≤ g := fun g hg => by have := (own5.lt g hg).1; simpa [World.drewN] using this
      have hsz5 : W.heap.size + 2 ≤ W4.heap.size := by have := h4.size; omega
      have hO : W5.ownsRow W.heap.size 34 3 (.slice A5 (packL ⟨w, h, s⟩ (P : Nat) (rowJ q m n u v)).length k5) (packL ⟨w, h, s⟩ (P : Nat) (rowJ q m n u v)).length (flat (packL ⟨w, h, s⟩ (P : Nat) (rowJ q m n u v))) := own_base own5 (by simp [World.drewN]; omega)
      have hne : (Value.slice A5 (packL ⟨w, h, s⟩ (P : Nat) (rowJ q m n u v)).length k5).ownBlock ≠ some (W.heap.size + 1) := fun hh => by have := hlo _ hh; omega
      have HO := Lib.hid hO
      have HNE := Lib.hid hne
      have hW5 := below_next hW1 h5
      clear own5 hlo hO hne hb5 d0 d1 d2 d3 d4 d5 d6 d7 d8 d9
      have c0 := (h5.cell (p := ⟨W.heap.size, 0, none⟩) hz0).trans B0.out
      have c1 := (h5.cell (p := ⟨W.heap.size, 1, none⟩) hz0).trans B1.out
      have c2 := (h5.cell (p := ⟨W.heap.size, 2, none⟩) hz0).trans B2.out
      have c3 := (h5.cell (p := ⟨W.heap.size + 1, 0, none⟩) hz1).trans R0.out
      have c4 := (h5.cell (p := ⟨W.heap.size + 1, 1, none⟩) hz1).trans R1.out
      have c5 := (h5.cell (p := ⟨W.heap.size + 1, 2, none⟩) hz1).trans R2.out
      have c6 := (h5.frozen (p := ⟨W.heap.size + 1, 0, none⟩) hz1).trans Z0.out
      have c7 := (h5.frozen (p := ⟨W.heap.size + 1, 1, none⟩) hz1).trans Z1.out
      have c8 := (h5.frozen (p := ⟨W.heap.size + 1, 2, none⟩) hz1).trans Z2.out
      have c9 : W.heap.size + 1 < W5.heap.size := by have := h5.size; omega
      generalize packN ⟨w, h, s⟩ (P : Nat) (rowJ q m n u v) = nn at HN ⊢
      generalize packG ⟨w, h, s⟩ (P : Nat) (rowJ q m n u v) = gg at HG ⊢
      generalize packL ⟨w, h, s⟩ (P : Nat) (rowJ q m n u v) = js at HL HO HNE ⊢
      go_wp2
      refine bodyPost_ret (v := .tuple #[.agg #[.int .i64 nn, .int .i64 gg, .slice A5 js.length k5], .int .i64 P, .bool true]) (by simp [results, Try.results118, go_sem, *]) rfl ⟨A5, k5, by rw [HOK.out, HN.out, HG.out, HL.out, HPE.out], ?_, ?_⟩
      · rw [HL.out]
        refine World.ownsRow.alloc (own_set_other (own_set_other (own_set_other HO.out ?_) ?_) ?_) _ <;> exact HNE.out
      · repeat (first | exact hW5 | refine Below.setCell ?_ (by simp) _ | refine Below.alloc ?_ (by have := hW5.size; first | omega | (simp; omega)) _)
    · have hB := rowOk_in (b := b) (k := k) i1
      have HB : Hid (rowOk b k way = false) := Lib.hid hB
      have HN : Hid (rNeed b k way = 0) := Lib.hid (by simp [rNeed, hB])
      have HG : Hid (rGone b k way = 0) := Lib.hid (by simp [rGone, hB])
      have HL : Hid (rLs b k way = []) := Lib.hid (by simp [rLs, hB])
      have HP : Hid (rPos b k way = 0) := Lib.hid (by simp [rPos, hB])
      clear hB
      go_enter Try.func118, Try.ntmps118
      go_wp2_with fail
      refine (is_ (sHasHole_ b k hk _) hH).mono ?_
      rintro e W1 ⟨rfl, hb1⟩
      obtain ⟨hc, hf⟩ := bcell hb1
      have hz : W.heap.size + 2 ≤ W1.heap.size := by have := hb1.size; simpa using this
      have hW1 : Below W.heap.size W W1 := below_step (((Below.refl _ _).alloc (Nat.le_refl _) _).alloc (by simp) _) hb1 (by simp; omega)
      have bb0 : W1.cell? ⟨W.heap.size, 0, none⟩ = some (.int .i64 b.f) := by rw [hc _ _ (by simp; try omega)]; simp [go_sem]
      have bb1 : W1.cell? ⟨W.heap.size, 1, none⟩ = some (.int .i64 b.o) := by rw [hc _ _ (by simp; try omega)]; simp [go_sem]
      have bb2 : W1.cell? ⟨W.heap.size, 2, none⟩ = some (.int .i64 b.t) := by rw [hc _ _ (by simp; try omega)]; simp [go_sem]
      have br0 : W1.cell? ⟨W.heap.size + 1, 0, none⟩ = some (.int .i64 0) := by rw [hc _ _ (by simp)]; simp [go_sem]
      have br1 : W1.cell? ⟨W.heap.size + 1, 1, none⟩ = some (.int .i64 0) := by rw [hc _ _ (by simp)]; simp [go_sem]
      have br2 : W1.cell? ⟨W.heap.size + 1, 2, none⟩ = some (.slice none 0 0) := by rw [hc _ _ (by simp)]; simp [go_sem]
      have bz0 : W1.frozen? ⟨W.heap.size + 1, 0, none⟩ = false := by rw [hf _ _ (by simp)]; simp [go_sem]
      have bz1 : W1.frozen? ⟨W.heap.size + 1, 1, none⟩ = false := by rw [hf _ _ (by simp)]; simp [go_sem]
      have bz2 : W1.frozen? ⟨W.heap.size + 1, 2, none⟩ = false := by rw [hf _ _ (by simp)]; simp [go_sem]
      have hz1 : W.heap.size + 1 < W1.heap.size := by omega
      have hz0 : W.heap.size < W1.heap.size := by omega
      have B0 := Lib.hid bb0
      have B1 := Lib.hid bb1
      have B2 := Lib.hid bb2
      have R0 := Lib.hid br0
      have R1 := Lib.hid br1
      have R2 := Lib.hid br2
      have Z0 := Lib.hid bz0
      have Z1 := Lib.hid bz1
      have Z2 := Lib.hid bz2
      clear hc hf hb1 bb0 bb1 bb2 br0 br1 br2 bz0 bz1 bz2
      have c0 := ((Below.refl W1.heap.size W1).cell (p := ⟨W.heap.size, 0, none⟩) hz0).trans B0.out
      have c1 := ((Below.refl W1.heap.size W1).cell (p := ⟨W.heap.size, 1, none⟩) hz0).trans B1.out
      have c2 := ((Below.refl W1.heap.size W1).cell (p := ⟨W.heap.size, 2, none⟩) hz0).trans B2.out
      have c3 := ((Below.refl W1.heap.size W1).cell (p := ⟨W.heap.size + 1, 0, none⟩) hz1).trans R0.out
      have c4 := ((Below.refl W1.heap.size W1).cell (p := ⟨W.heap.size + 1, 1, none⟩) hz1).trans R1.out
      have c5 := ((Below.refl W1.heap.size W1).cell (p := ⟨W.heap.size + 1, 2, none⟩) hz1).trans R2.out
      have c6 := ((Below.refl W1.heap.size W1).frozen (p := ⟨W.heap.size + 1, 0, none⟩) hz1).trans Z0.out
      have c7 := ((Below.refl W1.heap.size W1).frozen (p := ⟨W.heap.size + 1, 1, none⟩) hz1).trans Z1.out
      have c8 := ((Below.refl W1.heap.size W1).frozen (p := ⟨W.heap.size + 1, 2, none⟩) hz1).trans Z2.out
      have c9 : W.heap.size + 1 < W1.heap.size := by have := (Below.refl W1.heap.size W1).size; omega
      go_wp2_with (go_at_call 111; refine (l01In_ _ _ _ _).mono ?_; rintro e w' ⟨rfl, rfl⟩)
      refine bodyPost_ret (v := .tuple #[.agg #[.int .i64 0, .int .i64 0, .slice none 0 0], .int .i64 0, .bool false]) (by simp [results, Try.results118, go_sem, *]) rfl ⟨none, 0, by rw [HB.out, HN.out, HG.out, HL.out, HP.out]; rfl, by rw [HL.out]; exact World.ownsRow_nil _ _ _ _, ?_⟩
      repeat (first | exact hW1 | exact Below.refl _ _ | refine Below.setCell ?_ (by simp) _ | refine Below.alloc ?_ (by first | exact Nat.le_refl _ | omega | (simp; omega) | simp) _)
  · have hB : rowOk b k way = false := rowOk_neg (.inl (by rw [rM, besI_no hH]; omega))
    have HB : Hid (rowOk b k way = false) := Lib.hid hB
    have HN : Hid (rNeed b k way = 0) := Lib.hid (by simp [rNeed, hB])
    have HG : Hid (rGone b k way = 0) := Lib.hid (by simp [rGone, hB])
    have HL : Hid (rLs b k way = []) := Lib.hid (by simp [rLs, hB])
    have HP : Hid (rPos b k way = 0) := Lib.hid (by simp [rPos, hB])
    clear hB
    go_enter Try.func118, Try.ntmps118
    go_wp2_with fail
    refine (is_ (sHasHole_ b k hk _) hH).mono ?_
    rintro e W1 ⟨rfl, hb1⟩
    obtain ⟨hc, hf⟩ := bcell hb1
    have hz : W.heap.size + 2 ≤ W1.heap.size := by have := hb1.size; simpa using this
    have hW1 : Below W.heap.size W W1 := below_step (((Below.refl _ _).alloc (Nat.le_refl _) _).alloc (by simp) _) hb1 (by simp; omega)
    have bb0 : W1.cell? ⟨W.heap.size, 0, none⟩ = some (.int .i64 b.f) := by rw [hc _ _ (by simp; try omega)]; simp [go_sem]
    have bb1 : W1.cell? ⟨W.heap.size, 1, none⟩ = some (.int .i64 b.o) := by rw [hc _ _ (by simp; try omega)]; simp [go_sem]
    have bb2 : W1.cell? ⟨W.heap.size, 2, none⟩ = some (.int .i64 b.t) := by rw [hc _ _ (by simp; try omega)]; simp [go_sem]
    have br0 : W1.cell? ⟨W.heap.size + 1, 0, none⟩ = some (.int .i64 0) := by rw [hc _ _ (by simp)]; simp [go_sem]
    have br1 : W1.cell? ⟨W.heap.size + 1, 1, none⟩ = some (.int .i64 0) := by rw [hc _ _ (by simp)]; simp [go_sem]
    have br2 : W1.cell? ⟨W.heap.size + 1, 2, none⟩ = some (.slice none 0 0) := by rw [hc _ _ (by simp)]; simp [go_sem]
    have bz0 : W1.frozen? ⟨W.heap.size + 1, 0, none⟩ = false := by rw [hf _ _ (by simp)]; simp [go_sem]
    have bz1 : W1.frozen? ⟨W.heap.size + 1, 1, none⟩ = false := by rw [hf _ _ (by simp)]; simp [go_sem]
    have bz2 : W1.frozen? ⟨W.heap.size + 1, 2, none⟩ = false := by rw [hf _ _ (by simp)]; simp [go_sem]
    have hz1 : W.heap.size + 1 < W1.heap.size := by omega
    have hz0 : W.heap.size < W1.heap.size := by omega
    have B0 := Lib.hid bb0
    have B1 := Lib.hid bb1
    have B2 := Lib.hid bb2
    have R0 := Lib.hid br0
    have R1 := Lib.hid br1
    have R2 := Lib.hid br2
    have Z0 := Lib.hid bz0
    have Z1 := Lib.hid bz1
    have Z2 := Lib.hid bz2
    clear hc hf hb1 bb0 bb1 bb2 br0 br1 br2 bz0 bz1 bz2
    have c0 := ((Below.refl W1.heap.size W1).cell (p := ⟨W.heap.size, 0, none⟩) hz0).trans B0.out
    have c1 := ((Below.refl W1.heap.size W1).cell (p := ⟨W.heap.size, 1, none⟩) hz0).trans B1.out
    have c2 := ((Below.refl W1.heap.size W1).cell (p := ⟨W.heap.size, 2, none⟩) hz0).trans B2.out
    have c3 := ((Below.refl W1.heap.size W1).cell (p := ⟨W.heap.size + 1, 0, none⟩) hz1).trans R0.out
    have c4 := ((Below.refl W1.heap.size W1).cell (p := ⟨W.heap.size + 1, 1, none⟩) hz1).trans R1.out
    have c5 := ((Below.refl W1.heap.size W1).cell (p := ⟨W.heap.size + 1, 2, none⟩) hz1).trans R2.out
    have c6 := ((Below.refl W1.heap.size W1).frozen (p := ⟨W.heap.size + 1, 0, none⟩) hz1).trans Z0.out
    have c7 := ((Below.refl W1.heap.size W1).frozen (p := ⟨W.heap.size + 1, 1, none⟩) hz1).trans Z1.out
    have c8 := ((Below.refl W1.heap.size W1).frozen (p := ⟨W.heap.size + 1, 2, none⟩) hz1).trans Z2.out
    have c9 : W.heap.size + 1 < W1.heap.size := by have := (Below.refl W1.heap.size W1).size; omega
    go_wp2
    refine bodyPost_ret (v := .tuple #[.agg #[.int .i64 0, .int .i64 0, .slice none 0 0], .int .i64 0, .bool false]) (by simp [results, Try.results118, go_sem, *]) rfl ⟨none, 0, by rw [HB.out, HN.out, HG.out, HL.out, HP.out]; rfl, by rw [HL.out]; exact World.ownsRow_nil _ _ _ _, ?_⟩
    repeat (first | exact hW1 | exact Below.refl _ _ | refine Below.setCell ?_ (by simp) _ | refine Below.alloc ?_ (by first | exact Nat.le_refl _ | omega | (simp; omega) | simp) _)
end Go.Proofs.Ytbcgokpamhgabaa

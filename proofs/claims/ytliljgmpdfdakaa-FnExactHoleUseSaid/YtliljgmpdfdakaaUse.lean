/- The contracts of HoleUse. -/
import Derived.Test.YtliljgmpdfdakaaChecked
import Derived.Test.YtliljgmpdfdakaaMem
import Derived.Tactics
import Derived.Tactics2
import Derived.WalkKit
import Derived.WalkSpells
import Derived.WalkLawsBesides
import Derived.Deep.QuietTactic
import Derived.BigQuiet
import Derived.BigGuardPart
import Derived.Lib.QuietBelow
import Derived.OwnWalk
import Derived.KernelRfl
import Derived.Deep.RegionHeld3
import Derived.Deep.RegionWith
import Derived.Test.YtliljgmpdfdakaaWayG
import Derived.Test.YtliljgmpdfdakaaHoleS
set_option linter.unusedVariables false
set_option maxRecDepth 20000
namespace Go.Proofs.Ytliljgmpdfdakaa
open Go.RowKit Go.Sort

def useI (b : Ln) (p g k : Int) : Int := if pairB b p g && holeB b k then IntKind.i64.wrap (ways (linesL b) g (-1) p.toNat - ways (linesL b) g k p.toNat) else 0
set_option maxHeartbeats 2000000 in
theorem iHoleUse_ (b : Ln) (p g k : Int) (hp : I64 p) (hg : I64 g) (hk : I64 k) (W : World) :
    Calls Try.prog 17 #[.agg #[.int .i64 b.f, .int .i64 b.o, .int .i64 b.t], .int .i64 p, .int .i64 g, .int .i64 k] W fun e w' => e = .returned (.int .i64 (useI b p g k)) ∧ Below W.heap.size W w' := by
  rcases Bool.eq_false_or_eq_true (smallB b) with hS | hS
  · rcases Bool.eq_false_or_eq_true (posB b p) with hP | hP
    · rcases Bool.eq_false_or_eq_true (posB b g) with hG | hG
      · rcases Bool.eq_false_or_eq_true (holeB b k) with hH | hH
        · obtain ⟨w, h, s, rfl, hb, h16, s16⟩ := smallB_nat hS
          obtain ⟨q, rfl, hq⟩ := posB_nat hP
          have hql := posB_lt hb hq
          have HR : Hid (useI ⟨w, h, s⟩ q g k = IntKind.i64.wrap (ways (linesL ⟨w, h, s⟩) g (-1) q - ways (linesL ⟨w, h, s⟩) g k q)) := Lib.hid (by rw [useI, pairB, hS, hP, hG, hH]; rfl)
          have HC : Hid (cntG ⟨w, h, s⟩ q g = ways (linesL ⟨w, h, s⟩) g (-1) q) := Lib.hid (by rw [cntG, pairB, hS, hP, hG]; rfl)
          have HB := Lib.hid hb
          have H16 := Lib.hid h16
          have HQ := Lib.hid hql
          go_enter Try.func17, Try.ntmps17
          go_wp2_with fail
          refine (is_ (iIsSmall_ ⟨w, h, s⟩ _) hS).mono ?_
          rintro e w1 ⟨rfl, hb1⟩
          obtain ⟨hc, hf⟩ := bcell hb1
          have z0 : W.heap.size < w1.heap.size := by have := hb1.size; (try simp at this); omega
          have hw1 : Below W.heap.size W w1 := below_step ((Below.refl _ _).alloc (Nat.le_refl _) _) hb1 (by (try simp))
          have c0 : w1.cell? ⟨W.heap.size, 0, none⟩ = some (.int .i64 w) := by rw [hc _ _ (by simp)]; simp [go_sem]
          have c1 : w1.cell? ⟨W.heap.size, 1, none⟩ = some (.int .i64 h) := by rw [hc _ _ (by simp)]; simp [go_sem]
          have c2 : w1.cell? ⟨W.heap.size, 2, none⟩ = some (.int .i64 s) := by rw [hc _ _ (by simp)]; simp [go_sem]
          clear hc hf hb1
          go_wp2_with fail
          refine (is_ (iPositionOk_ ⟨w, h, s⟩ q hp _) hP).mono ?_
          rintro e w2 ⟨rfl, hb2⟩
          replace c0 := (hb2.cell (p := ⟨W.heap.size, 0, none⟩) z0).trans c0
          replace c1 := (hb2.cell (p := ⟨W.heap.size, 1, none⟩) z0).trans c1
          replace c2 := (hb2.cell (p := ⟨W.heap.size, 2, none⟩) z0).trans c2
          have hw2 := below_next hw1 hb2
          have zw2 : W.heap.size < (w2).heap.size := by have := hb2.size; omega
          clear hb2
          go_wp2_with fail
          refine (is_ (iPositionOk_ ⟨w, h, s⟩ g hg _) hG).mono ?_
          rintro e w3 ⟨rfl, hb2⟩
          replace c0 := (hb2.cell (p := ⟨W.heap.size, 0, none⟩) zw2).trans c0
          replace c1 := (hb2.cell (p := ⟨W.heap.size, 1, none⟩) zw2).trans c1
          replace c2 := (hb2.cell (p := ⟨W.heap.size, 2, none⟩) zw2).trans c2
          have hw3 := below_next hw2 hb2
          have zw3 : W.heap.size < (w3).heap.size := by have := hb2.size; omega
          clear hb2
          go_wp2_with fail
          refine (is_ (iHasHole_ ⟨w, h, s⟩ k hk _) hH).mono ?_
          rintro e w4 ⟨rfl, hb2⟩
          replace c0 := (hb2.cell (p := ⟨W.heap.size, 0, none⟩) zw3).trans c0
          replace c1 := (hb2.cell (p := ⟨W.heap.size, 1, none⟩) zw3).trans c1
          replace c2 := (hb2.cell (p := ⟨W.heap.size, 2, none⟩) zw3).trans c2
          have hw4 := below_next hw3 hb2
          have zw4 : W.heap.size < (w4).heap.size := by have := hb2.size; omega
          clear hb2
          go_wp2_with fail
          go_region_held3 (fun w' => w'.cell? ⟨W.heap.size, 0, none⟩ = some (.int .i64 w) ∧ w'.cell? ⟨W.heap.size, 1, none⟩ = some (.int .i64 h) ∧ w'.cell? ⟨W.heap.size, 2, none⟩ = some (.int .i64 s) ∧ Below w4.heap.size w4 w')
            (first | exact ⟨c0, c1, c2, (Below.refl _ _).drew⟩ | exact ⟨(hX.cell (p := ⟨W.heap.size, 0, none⟩) zw4).trans c0, (hX.cell (p := ⟨W.heap.size, 1, none⟩) zw4).trans c1, (hX.cell (p := ⟨W.heap.size, 2, none⟩) zw4).trans c2, hX⟩)
            (first
              | (go_at_call 15; refine (isI_ (iCountGames_ ⟨w, h, s⟩ q g hp hg _) HC.out).mono ?_; rintro e wL ⟨rfl, hbL⟩; have hX : Below w4.heap.size w4 wL := below_next (by first | assumption | exact (Below.refl _ _).drew) hbL)
              | (go_at_call 46; refine (counterOf_ ⟨w, h, s⟩ g k _).mono ?_; rintro e wB ⟨A, c, M, rfl, rd, hM, hlo, hm, hbB⟩; have hlo' : w4.heap.size ≤ M := Nat.le_trans (Below.size (B := w4.heap.size) (w := w4) (by first | assumption | exact (Below.refl _ _).drew)) hlo; have hX : Below w4.heap.size w4 wB := below_next (by first | assumption | exact (Below.refl _ _).drew) hbB)
              | (go_at_call 47; refine (count_new HB.out H16.out HQ.out g k (by first | exact rd | exact rd.below' hbL (Nat.le_of_lt hM)) (by first | exact hM | exact Nat.lt_of_lt_of_le hM hbL.size) (by first | exact hm | exact fun N f => (hm N f).kept (grown_below hbL none) (by simp))).mono ?_; rintro e wC ⟨rfl, -, hgC⟩; have hX : Below w4.heap.size w4 wC := (show Below w4.heap.size w4 _ by first | assumption | exact (Below.refl _ _).drew).grown hgC (Below.size (by assumption)) (fun k hk => by injection hk with hk; rw [← hk]; exact hlo')))
          all_goals (go_wp2; go_ret; exact ⟨by rw [HR.out]; rfl, below_next hw4 hX⟩)
        · have HR : Hid (useI b p g k = 0) := Lib.hid (by simp [useI, hH])
          go_enter Try.func17, Try.ntmps17
          go_wp2_with fail
          refine (is_ (iIsSmall_ b _) hS).mono ?_
          rintro e w1 ⟨rfl, hb1⟩
          obtain ⟨hc, hf⟩ := bcell hb1
          have z0 : W.heap.size < w1.heap.size := by have := hb1.size; (try simp at this); omega
          have hw1 : Below W.heap.size W w1 := below_step ((Below.refl _ _).alloc (Nat.le_refl _) _) hb1 (by (try simp))
          have c0 : w1.cell? ⟨W.heap.size, 0, none⟩ = some (.int .i64 b.f) := by rw [hc _ _ (by simp)]; simp [go_sem]
          have c1 : w1.cell? ⟨W.heap.size, 1, none⟩ = some (.int .i64 b.o) := by rw [hc _ _ (by simp)]; simp [go_sem]
          have c2 : w1.cell? ⟨W.heap.size, 2, none⟩ = some (.int .i64 b.t) := by rw [hc _ _ (by simp)]; simp [go_sem]
          clear hc hf hb1
          go_wp2_with fail
          refine (is_ (iPositionOk_ b p hp _) hP).mono ?_
          rintro e w2 ⟨rfl, hb2⟩
          replace c0 := (hb2.cell (p := ⟨W.heap.size, 0, none⟩) z0).trans c0
          replace c1 := (hb2.cell (p := ⟨W.heap.size, 1, none⟩) z0).trans c1
          replace c2 := (hb2.cell (p := ⟨W.heap.size, 2, none⟩) z0).trans c2
          have hw2 := below_next hw1 hb2
          have zw2 : W.heap.size < (w2).heap.size := by have := hb2.size; omega
          clear hb2
          go_wp2_with fail
          refine (is_ (iPositionOk_ b g hg _) hG).mono ?_
          rintro e w3 ⟨rfl, hb2⟩
          replace c0 := (hb2.cell (p := ⟨W.heap.size, 0, none⟩) zw2).trans c0
          replace c1 := (hb2.cell (p := ⟨W.heap.size, 1, none⟩) zw2).trans c1
          replace c2 := (hb2.cell (p := ⟨W.heap.size, 2, none⟩) zw2).trans c2
          have hw3 := below_next hw2 hb2
          have zw3 : W.heap.size < (w3).heap.size := by have := hb2.size; omega
          clear hb2
          go_wp2_with fail
          refine (is_ (iHasHole_ b k hk _) hH).mono ?_
          rintro e w4 ⟨rfl, hb2⟩
          replace c0 := (hb2.cell (p := ⟨W.heap.size, 0, none⟩) zw3).trans c0
          replace c1 := (hb2.cell (p := ⟨W.heap.size, 1, none⟩) zw3).trans c1
          replace c2 := (hb2.cell (p := ⟨W.heap.size, 2, none⟩) zw3).trans c2
          have hw4 := below_next hw3 hb2
          have zw4 : W.heap.size < (w4).heap.size := by have := hb2.size; omega
          clear hb2
          go_wp2
          go_ret
          exact ⟨by rw [HR.out]; rfl, hw4⟩
      · have HR : Hid (useI b p g k = 0) := Lib.hid (by simp [useI, pairB, hG])
        go_enter Try.func17, Try.ntmps17
        go_wp2_with fail
        refine (is_ (iIsSmall_ b _) hS).mono ?_
        rintro e w1 ⟨rfl, hb1⟩
        obtain ⟨hc, hf⟩ := bcell hb1
        have z0 : W.heap.size < w1.heap.size := by have := hb1.size; (try simp at this); omega
        have hw1 : Below W.heap.size W w1 := below_step ((Below.refl _ _).alloc (Nat.le_refl _) _) hb1 (by (try simp))
        have c0 : w1.cell? ⟨W.heap.size, 0, none⟩ = some (.int .i64 b.f) := by rw [hc _ _ (by simp)]; simp [go_sem]
        have c1 : w1.cell? ⟨W.heap.size, 1, none⟩ = some (.int .i64 b.o) := by rw [hc _ _ (by simp)]; simp [go_sem]
        have c2 : w1.cell? ⟨W.heap.size, 2, none⟩ = some (.int .i64 b.t) := by rw [hc _ _ (by simp)]; simp [go_sem]
        clear hc hf hb1
        go_wp2_with fail
        refine (is_ (iPositionOk_ b p hp _) hP).mono ?_
        rintro e w2 ⟨rfl, hb2⟩
        replace c0 := (hb2.cell (p := ⟨W.heap.size, 0, none⟩) z0).trans c0
        replace c1 := (hb2.cell (p := ⟨W.heap.size, 1, none⟩) z0).trans c1
        replace c2 := (hb2.cell (p := ⟨W.heap.size, 2, none⟩) z0).trans c2
        have hw2 := below_next hw1 hb2
        have zw2 : W.heap.size < (w2).heap.size := by have := hb2.size; omega
        clear hb2
        go_wp2_with fail
        refine (is_ (iPositionOk_ b g hg _) hG).mono ?_
        rintro e w3 ⟨rfl, hb2⟩
        replace c0 := (hb2.cell (p := ⟨W.heap.size, 0, none⟩) zw2).trans c0
        replace c1 := (hb2.cell (p := ⟨W.heap.size, 1, none⟩) zw2).trans c1
        replace c2 := (hb2.cell (p := ⟨W.heap.size, 2, none⟩) zw2).trans c2
        have hw3 := below_next hw2 hb2
        have zw3 : W.heap.size < (w3).heap.size := by have := hb2.size; omega
        clear hb2
        go_wp2
        go_ret
        exact ⟨by rw [HR.out]; rfl, hw3⟩
    · have HR : Hid (useI b p g k = 0) := Lib.hid (by simp [useI, pairB, hP])
      go_enter Try.func17, Try.ntmps17
      go_wp2_with fail
      refine (is_ (iIsSmall_ b _) hS).mono ?_
      rintro e w1 ⟨rfl, hb1⟩
      obtain ⟨hc, hf⟩ := bcell hb1
      have z0 : W.heap.size < w1.heap.size := by have := hb1.size; (try simp at this); omega
      have hw1 : Below W.heap.size W w1 := below_step ((Below.refl _ _).alloc (Nat.le_refl _) _) hb1 (by (try simp))
      have c0 : w1.cell? ⟨W.heap.size, 0, none⟩ = some (.int .i64 b.f) := by rw [hc _ _ (by simp)]; simp [go_sem]
      have c1 : w1.cell? ⟨W.heap.size, 1, none⟩ = some (.int .i64 b.o) := by rw [hc _ _ (by simp)]; simp [go_sem]
      have c2 : w1.cell? ⟨W.heap.size, 2, none⟩ = some (.int .i64 b.t) := by rw [hc _ _ (by simp)]; simp [go_sem]
      clear hc hf hb1
      go_wp2_with fail
      refine (is_ (iPositionOk_ b p hp _) hP).mono ?_
      rintro e w2 ⟨rfl, hb2⟩
      replace c0 := (hb2.cell (p := ⟨W.heap.size, 0, none⟩) z0).trans c0
      replace c1 := (hb2.cell (p := ⟨W.heap.size, 1, none⟩) z0).trans c1
      replace c2 := (hb2.cell (p := ⟨W.heap.size, 2, none⟩) z0).trans c2
      have hw2 := below_next hw1 hb2
      have zw2 : W.heap.size < (w2).heap.size := by have := hb2.size; omega
      clear hb2
      go_wp2
      go_ret
      exact ⟨by rw [HR.out]; rfl, hw2⟩
  · have HR : Hid (useI b p g k = 0) := Lib.hid (by simp [useI, pairB, hS])
    go_enter Try.func17, Try.ntmps17
    go_wp2_with fail
    refine (is_ (iIsSmall_ b _) hS).mono ?_
    rintro e w1 ⟨rfl, hb1⟩
    obtain ⟨hc, hf⟩ := bcell hb1
    have z0 : W.heap.size < w1.heap.size := by have := hb1.size; (try simp at this); omega
    have hw1 : Below W.heap.size W w1 := below_step ((Below.refl _ _).alloc (Nat.le_refl _) _) hb1 (by (try simp))
    have c0 : w1.cell? ⟨W.heap.size, 0, none⟩ = some (.int .i64 b.f) := by rw [hc _ _ (by simp)]; simp [go_sem]
    have c1 : w1.cell? ⟨W.heap.size, 1, none⟩ = some (.int .i64 b.o) := by rw [hc _ _ (by simp)]; simp [go_sem]
    have c2 : w1.cell? ⟨W.heap.size, 2, none⟩ = some (.int .i64 b.t) := by rw [hc _ _ (by simp)]; simp [go_sem]
    clear hc hf hb1
    go_wp2
    go_ret
    exact ⟨by rw [HR.out]; rfl, hw1⟩
set_option maxHeartbeats 2000000 in
theorem sHoleUse_ (b : Ln) (p g k : Int) (hp : I64 p) (hg : I64 g) (hk : I64 k) (W : World) :
    Calls Try.prog 16 #[.agg #[.int .i64 b.f, .int .i64 b.o, .int .i64 b.t], .int .i64 p, .int .i64 g, .int .i64 k] W fun e w' => e = .returned (.int .i64 (useI b p g k)) ∧ Below W.heap.size W w' := by
  rcases Bool.eq_false_or_eq_true (pairB b p g) with hO | hO
  · rcases Bool.eq_false_or_eq_true (holeB b k) with hH | hH
    · have hO' := hO
      simp only [pairB, Bool.and_eq_true] at hO'
      obtain ⟨⟨hS, hP⟩, hG⟩ := hO'
      obtain ⟨w, h, s, rfl, hb, h16, s16⟩ := smallB_nat hS
      obtain ⟨q, rfl, hq⟩ := posB_nat hP
      have hql := posB_lt hb hq
      have HSELF := Lib.hid (reach_self hb hS hP hql)
      have HS := Lib.hid hS
      have HP := Lib.hid hP
      have HR : Hid (useI ⟨w, h, s⟩ q g k = IntKind.i64.wrap (ways (linesL ⟨w, h, s⟩) g (-1) q - ways (linesL ⟨w, h, s⟩) g k q)) := Lib.hid (by rw [useI, hO, hH]; rfl)
      have HC : Hid (cntG ⟨w, h, s⟩ q g = ways (linesL ⟨w, h, s⟩) g (-1) q) := Lib.hid (by rw [cntG, hO]; rfl)
      have q0 : (0 : Int) ≤ (q : Int) := by omega
      have q1 : (q : Int) < ((2 ^ (w * h) : Nat) : Int) := by omega
      obtain ⟨N, hN⟩ : ∃ N, 2 ^ (w * h) = N := ⟨_, rfl⟩
      rw [hN] at q1 
      go_enter Try.func16, Try.ntmps16
      go_wp2_with fail
      refine (is_ (l15Ok_ ⟨w, h, s⟩ q g hp hg _) hO).mono ?_
      rintro e w1 ⟨rfl, hb1⟩
      obtain ⟨hc, hf⟩ := bcell hb1
      have z0 : W.heap.size < w1.heap.size := by have := hb1.size; (try simp at this); omega
      have hw1 : Below W.heap.size W w1 := below_step ((Below.refl _ _).alloc (Nat.le_refl _) _) hb1 (by (try simp))
      have c0 : w1.cell? ⟨W.heap.size, 0, none⟩ = some (.int .i64 w) := by rw [hc _ _ (by simp)]; simp [go_sem]
      have c1 : w1.cell? ⟨W.heap.size, 1, none⟩ = some (.int .i64 h) := by rw [hc _ _ (by simp)]; simp [go_sem]
      have c2 : w1.cell? ⟨W.heap.size, 2, none⟩ = some (.int .i64 s) := by rw [hc _ _ (by simp)]; simp [go_sem]
      clear hc hf hb1
      go_wp2_with fail
      refine (is_ (sHasHole_ ⟨w, h, s⟩ k hk _) hH).mono ?_
      rintro e w4 ⟨rfl, hb2⟩
      replace c0 := (hb2.cell (p := ⟨W.heap.size, 0, none⟩) z0).trans c0
      replace c1 := (hb2.cell (p := ⟨W.heap.size, 1, none⟩) z0).trans c1
      replace c2 := (hb2.cell (p := ⟨W.heap.size, 2, none⟩) z0).trans c2
      have hw4 := below_next hw1 hb2
      have zw4 : W.heap.size < (w4).heap.size := by have := hb2.size; omega
      clear hb2
      have HN := Lib.hid hN
      clear hN
      go_wp2_with fail
      have C0 := Lib.hid c0
      have C1 := Lib.hid c1
      have C2 := Lib.hid c2
      go_region_with (first
          | (go_at_call 14; refine (isI_ (sCountGames_ ⟨w, h, s⟩ q g hp hg _) HC.out).mono ?_; rintro e wL ⟨rfl, hbL⟩; have hX : Below w4.heap.size w4 wL := below_next (by first | assumption | exact (Below.refl _ _).drew) hbL; have c0 := (hX.cell (p := ⟨W.heap.size, 0, none⟩) zw4).trans C0.out; have c1 := (hX.cell (p := ⟨W.heap.size, 1, none⟩) zw4).trans C1.out; have c2 := (hX.cell (p := ⟨W.heap.size, 2, none⟩) zw4).trans C2.out; try have cq2 := (hbL.cell (p := ⟨bq, oq + q, none⟩) hbq).trans cq; try have hbq2 := Nat.lt_of_lt_of_le hbq hbL.size)
          | (go_at_call 43; refine (l22Ways_ w h s q g k HS.out HP.out _).mono ?_; rintro e wB ⟨A, c, out, rfl, hol, hrw, own, hbB⟩; obtain ⟨bq, oq, rfl, hbq, cq⟩ := own_cell1 own (hrw q HSELF.out); rw [HN.out]; have hX : Below w4.heap.size w4 wB := below_next (by first | assumption | exact (Below.refl _ _).drew) hbB; have c0 := (hX.cell (p := ⟨W.heap.size, 0, none⟩) zw4).trans C0.out; have c1 := (hX.cell (p := ⟨W.heap.size, 1, none⟩) zw4).trans C1.out; have c2 := (hX.cell (p := ⟨W.heap.size, 2, none⟩) zw4).trans C2.out; clear own hrw hol))
      all_goals (go_wp2; go_ret; exact ⟨by rw [HR.out]; rfl, below_next hw4 hX⟩)
    · have HR : Hid (useI b p g k = 0) := Lib.hid (by simp [useI, hH])
      go_enter Try.func16, Try.ntmps16
      go_wp2_with fail
      refine (is_ (l15Ok_ b p g hp hg _) hO).mono ?_
      rintro e w1 ⟨rfl, hb1⟩
      obtain ⟨hc, hf⟩ := bcell hb1
      have z0 : W.heap.size < w1.heap.size := by have := hb1.size; (try simp at this); omega
      have hw1 : Below W.heap.size W w1 := below_step ((Below.refl _ _).alloc (Nat.le_refl _) _) hb1 (by (try simp))
      have c0 : w1.cell? ⟨W.heap.size, 0, none⟩ = some (.int .i64 b.f) := by rw [hc _ _ (by simp)]; simp [go_sem]
      have c1 : w1.cell? ⟨W.heap.size, 1, none⟩ = some (.int .i64 b.o) := by rw [hc _ _ (by simp)]; simp [go_sem]
      have c2 : w1.cell? ⟨W.heap.size, 2, none⟩ = some (.int .i64 b.t) := by rw [hc _ _ (by simp)]; simp [go_sem]
      clear hc hf hb1
      go_wp2_with fail
      refine (is_ (sHasHole_ b k hk _) hH).mono ?_
      rintro e w4 ⟨rfl, hb2⟩
      replace c0 := (hb2.cell (p := ⟨W.heap.size, 0, none⟩) z0).trans c0
      replace c1 := (hb2.cell (p := ⟨W.heap.size, 1, none⟩) z0).trans c1
      replace c2 := (hb2.cell (p := ⟨W.heap.size, 2, none⟩) z0).trans c2
      have hw4 := below_next hw1 hb2
      have zw4 : W.heap.size < (w4).heap.size := by have := hb2.size; omega
      clear hb2
      go_wp2
      go_ret
      exact ⟨by rw [HR.out]; rfl, hw4⟩
  · have HR : Hid (useI b p g k = 0) := Lib.hid (by simp [useI, hO])
    go_enter Try.func16, Try.ntmps16
    go_wp2_with fail
    refine (is_ (l15Ok_ b p g hp hg _) hO).mono ?_
    rintro e w1 ⟨rfl, hb1⟩
    obtain ⟨hc, hf⟩ := bcell hb1
    have z0 : W.heap.size < w1.heap.size := by have := hb1.size; (try simp at this); omega
    have hw1 : Below W.heap.size W w1 := below_step ((Below.refl _ _).alloc (Nat.le_refl _) _) hb1 (by (try simp))
    have c0 : w1.cell? ⟨W.heap.size, 0, none⟩ = some (.int .i64 b.f) := by rw [hc _ _ (by simp)]; simp [go_sem]
    have c1 : w1.cell? ⟨W.heap.size, 1, none⟩ = some (.int .i64 b.o) := by rw [hc _ _ (by simp)]; simp [go_sem]
    have c2 : w1.cell? ⟨W.heap.size, 2, none⟩ = some (.int .i64 b.t) := by rw [hc _ _ (by simp)]; simp [go_sem]
    clear hc hf hb1
    go_wp2
    go_ret
    exact ⟨by rw [HR.out]; rfl, hw1⟩
end Go.Proofs.Ytliljgmpdfdakaa

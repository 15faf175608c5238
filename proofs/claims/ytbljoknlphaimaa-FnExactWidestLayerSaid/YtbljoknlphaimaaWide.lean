/- The contracts of WidestLayer. -/
import Derived.Test.YtbljoknlphaimaaChecked
import Derived.Test.YtbljoknlphaimaaMem
import Derived.Tactics
import Derived.Tactics2
import Derived.WalkKit
import Derived.WalkSpells
import Derived.WalkLawsBesides
import Derived.Deep.QuietTactic
import Derived.BigQuiet
import Derived.BigGuardPart
import Derived.Lib.QuietBelow
import Derived.OwnWalk
import Derived.KernelRfl
import Derived.Test.YtbljoknlphaimaaLayF
import Derived.Test.YtbljoknlphaimaaPopP
set_option linter.unusedVariables false
set_option maxRecDepth 20000
namespace Go.Proofs.Ytbljoknlphaimaa
open Go.RowKit Go.Sort Go.Lib

/-- How many positions the layers of a position have. -/
def lenL (b : Ln) (p : Int) (k : Nat) : Nat := (layerL b p k false).length
def wideI (b : Ln) (p : Int) : Int := if smallB b && posB b p then ((wstL (lenL b p) 16).1 : Nat) else -1
theorem lenL_le (b : Ln) (p : Int) (k : Nat) : lenL b p k ≤ 65536 := layerL_le _ _ _ _
theorem lenL_none {b : Ln} {p : Int} {k : Nat} (hk : 16 < k) : lenL b p k = 0 := by
  unfold lenL
  rcases Bool.eq_false_or_eq_true (smallB b && posB b p && decide (0 ≤ (k : Int))) with h | h
  · simp only [Bool.and_eq_true] at h
    obtain ⟨⟨hS, hP⟩, _⟩ := h
    obtain ⟨w, h, s, rfl, hb, h16, s16⟩ := smallB_nat hS
    obtain ⟨q, rfl, hq⟩ := posB_nat hP
    rw [layerL_yes hS hP, layL_none (stays_of hb) (lsFo_of hb) (posB_lt hb hq)]
    · rfl
    · have := popc_le q (posB_lt hb hq) hb.area.2
      omega
  · rw [layerL_no h]; rfl
theorem wide_stop (b : Ln) (p : Int) (d : Nat) : wstL (lenL b p) (16 + d) = wstL (lenL b p) 16 := wstL_stop (fun j hj => lenL_none hj) d
set_option maxHeartbeats 1000000 in
theorem iWidestLayer_ (b : Ln) (p : Int) (hp : I64 p) (W : World) :
    Calls Try.prog 19 #[.agg #[.int .i64 b.f, .int .i64 b.o, .int .i64 b.t], .int .i64 p] W fun e w' => e = .returned (.int .i64 (wideI b p)) ∧ Below W.heap.size W w' := by
  rcases Bool.eq_false_or_eq_true (smallB b) with hS | hS
  · rcases Bool.eq_false_or_eq_true (posB b p) with hP | hP
    · have HR : Hid (wideI b p = ((wstL (lenL b p) 16).1 : Nat)) := Lib.hid (by rw [wideI, hS, hP]; rfl)
      go_enter Try.func19, Try.ntmps19
      go_wp2_with fail
      refine (is_ (iIsSmall_ b _) hS).mono ?_
      rintro e w1 ⟨rfl, hb1⟩
      obtain ⟨hc, hf⟩ := bcell hb1
      have z0 : W.heap.size < w1.heap.size := by have := hb1.size; (try simp at this); omega
      have hw1 : Below W.heap.size W w1 := below_step ((Below.refl _ _).alloc (Nat.le_refl _) _) hb1 (by (try simp))
      have c0 : w1.cell? ⟨W.heap.size, 0, none⟩ = some (.int .i64 b.f) := by rw [hc _ _ (by simp)]; simp [go_sem]
      have c1 : w1.cell? ⟨W.heap.size, 1, none⟩ = some (.int .i64 b.o) := by rw [hc _ _ (by simp)]; simp [go_sem]
      have c2 : w1.cell? ⟨W.heap.size, 2, none⟩ = some (.int .i64 b.t) := by rw [hc _ _ (by simp)]; simp [go_sem]
      clear hc hf hb1
      go_wp2_with fail
      refine (is_ (iPositionOk_ b p hp _) hP).mono ?_
      rintro e w2 ⟨rfl, hb2⟩
      have d0 := (hb2.cell (p := ⟨W.heap.size, 0, none⟩) z0).trans c0
      have d1 := (hb2.cell (p := ⟨W.heap.size, 1, none⟩) z0).trans c1
      have d2 := (hb2.cell (p := ⟨W.heap.size, 2, none⟩) z0).trans c2
      have hw2 := below_next hw1 hb2
      have z2 : W.heap.size < w2.heap.size := by have := hb2.size; omega
      clear c0 c1 c2 hb2
      go_wp2_with fail
      go_loopw [5, 6, 7] (fun bv mv nv wr => ∃ k : Nat, k ≤ 16 ∧ nv = .int .i64 ((k + 1 : Nat) : Int) ∧ bv = .int .i64 ((wstL (lenL b p) k).1 : Nat) ∧ mv = .int .i64 ((wstL (lenL b p) k).2 : Nat) ∧ Below w2.heap.size w2 wr) (fun _ _ nv _ => 17 - (intOf nv).toNat)
      case atStart => exact ⟨0, by omega, rfl, rfl, rfl, Below.refl _ _⟩
      case round =>
        obtain ⟨k, hk, rfl, rfl, rfl, hw⟩ := hrel
        obtain ⟨hle1, hle2⟩ := wstL_le (lenL b p) (lenL_le b p) (by omega) k
        have hnl := lenL_le b p (k + 1)
        by_cases hlt : k < 16
        · have e0 := (hw.cell (p := ⟨W.heap.size, 0, none⟩) z2).trans d0
          have e1 := (hw.cell (p := ⟨W.heap.size, 1, none⟩) z2).trans d1
          have e2 := (hw.cell (p := ⟨W.heap.size, 2, none⟩) z2).trans d2
          have z3 : W.heap.size < wr.heap.size := by have := hw.size; omega
          have hsz := hw.size
          have HK : Hid ((layerL b p ((k + 1 : Nat) : Int) false).length = lenL b p (k + 1)) := Lib.hid rfl
          have H64 : I64 ((k + 1 : Nat) : Int) := by unfold I64; omega
          have n1 : ((k + 1 : Nat) : Int) ≤ 16 := by omega
          have n0 : (0 : Int) ≤ ((k + 1 : Nat) : Int) := by omega
          by_cases hgt : (wstL (lenL b p) k).2 < lenL b p (k + 1)
          · have HY := Lib.hid (wstL_yes hgt)
            have hgt' : (((wstL (lenL b p) k).2 : Nat) : Int) < ((lenL b p (k + 1) : Nat) : Int) := by omega
            generalize wstL (lenL b p) k = st at hle1 hle2 hgt hgt' ⊢
            generalize lenL b p (k + 1) = nl at HK HY hnl hgt hgt'
            generalize hkk : ((k + 1 : Nat) : Int) = kk at HK H64 n1 n0 ⊢
            have HKK := Lib.hid hkk
            clear hkk
            go_wp2_with fail
            refine (iLayerOf_ b p kk hp H64 _).mono ?_
            rintro e w4 ⟨A4, c4, rfl, own4, hb4⟩
            rw [HK.out]
            have hw4 := hw.trans (hb4.mono hsz)
            clear own4 e0 e1 e2
            go_wp2
            go_roundw
            case rel => exact ⟨k + 1, by omega, by rw [← HKK.out]; go_num, by rw [HY.out, ← HKK.out], by rw [HY.out], hw4⟩
            case measure => simp [intOf]; have := HKK.out; omega
          · have HY := Lib.hid (wstL_no hgt)
            have hgt' : ((lenL b p (k + 1) : Nat) : Int) ≤ (((wstL (lenL b p) k).2 : Nat) : Int) := by omega
            generalize wstL (lenL b p) k = st at hle1 hle2 hgt hgt' HY ⊢
            generalize lenL b p (k + 1) = nl at HK hnl hgt hgt'
            generalize hkk : ((k + 1 : Nat) : Int) = kk at HK H64 n1 n0 ⊢
            have HKK := Lib.hid hkk
            clear hkk
            go_wp2_with fail
            refine (iLayerOf_ b p kk hp H64 _).mono ?_
            rintro e w4 ⟨A4, c4, rfl, own4, hb4⟩
            rw [HK.out]
            have hw4 := hw.trans (hb4.mono hsz)
            clear own4 e0 e1 e2
            go_wp2
            go_roundw
            case rel => exact ⟨k + 1, by omega, by rw [← HKK.out]; go_num, by rw [HY.out], by rw [HY.out], hw4⟩
            case measure => simp [intOf]; have := HKK.out; omega
        · obtain rfl : k = 16 := by omega
          go_wp2
          go_ret
          exact ⟨by rw [HR.out]; rfl, below_next hw2 hw⟩
    · have HR : Hid (wideI b p = -1) := Lib.hid (by rw [wideI, hP, Bool.and_false]; rfl)
      go_enter Try.func19, Try.ntmps19
      go_wp2_with fail
      refine (is_ (iIsSmall_ b _) hS).mono ?_
      rintro e w1 ⟨rfl, hb1⟩
      obtain ⟨hc, hf⟩ := bcell hb1
      have z0 : W.heap.size < w1.heap.size := by have := hb1.size; (try simp at this); omega
      have hw1 : Below W.heap.size W w1 := below_step ((Below.refl _ _).alloc (Nat.le_refl _) _) hb1 (by (try simp))
      have c0 : w1.cell? ⟨W.heap.size, 0, none⟩ = some (.int .i64 b.f) := by rw [hc _ _ (by simp)]; simp [go_sem]
      have c1 : w1.cell? ⟨W.heap.size, 1, none⟩ = some (.int .i64 b.o) := by rw [hc _ _ (by simp)]; simp [go_sem]
      have c2 : w1.cell? ⟨W.heap.size, 2, none⟩ = some (.int .i64 b.t) := by rw [hc _ _ (by simp)]; simp [go_sem]
      clear hc hf hb1
      go_wp2_with fail
      refine (is_ (iPositionOk_ b p hp _) hP).mono ?_
      rintro e w2 ⟨rfl, hb2⟩
      have d0 := (hb2.cell (p := ⟨W.heap.size, 0, none⟩) z0).trans c0
      have d1 := (hb2.cell (p := ⟨W.heap.size, 1, none⟩) z0).trans c1
      have d2 := (hb2.cell (p := ⟨W.heap.size, 2, none⟩) z0).trans c2
      have hw2 := below_next hw1 hb2
      have z2 : W.heap.size < w2.heap.size := by have := hb2.size; omega
      clear c0 c1 c2 hb2
      go_wp2
      go_ret
      exact ⟨by rw [HR.out]; rfl, hw2⟩
  · have HR : Hid (wideI b p = -1) := Lib.hid (by rw [wideI, hS, Bool.false_and]; rfl)
    go_enter Try.func19, Try.ntmps19
    go_wp2_with fail
    refine (is_ (iIsSmall_ b _) hS).mono ?_
    rintro e w1 ⟨rfl, hb1⟩
    obtain ⟨hc, hf⟩ := bcell hb1
    have z0 : W.heap.size < w1.heap.size := by have := hb1.size; (try simp at this); omega
    have hw1 : Below W.heap.size W w1 := below_step ((Below.refl _ _).alloc (Nat.le_refl _) _) hb1 (by (try simp))
    have c0 : w1.cell? ⟨W.heap.size, 0, none⟩ = some (.int .i64 b.f) := by rw [hc _ _ (by simp)]; simp [go_sem]
    have c1 : w1.cell? ⟨W.heap.size, 1, none⟩ = some (.int .i64 b.o) := by rw [hc _ _ (by simp)]; simp [go_sem]
    have c2 : w1.cell? ⟨W.heap.size, 2, none⟩ = some (.int .i64 b.t) := by rw [hc _ _ (by simp)]; simp [go_sem]
    clear hc hf hb1
    go_wp2
    go_ret
    exact ⟨by rw [HR.out]; rfl, hw1⟩
set_option maxHeartbeats 1000000 in
theorem sWidestLayer_ (b : Ln) (p : Int) (hp : I64 p) (W : World) :
    Calls Try.prog 58 #[.agg #[.int .i64 b.f, .int .i64 b.o, .int .i64 b.t], .int .i64 p] W fun e w' => e = .returned (.int .i64 (wideI b p)) ∧ Below W.heap.size W w' := by
  rcases Bool.eq_false_or_eq_true (smallB b && posB b p) with hSP | hSP
  · have HR0 : wideI b p = ((wstL (lenL b p) 16).1 : Nat) := by rw [wideI, hSP]; rfl
    rw [Bool.and_eq_true] at hSP
    obtain ⟨hS, hP⟩ := hSP
    obtain ⟨w, h, s, rfl, hb, h16, s16⟩ := smallB_nat hS
    obtain ⟨q, rfl, hq⟩ := posB_nat hP
    have HR := Lib.hid HR0
    obtain ⟨N, hN⟩ : ∃ N, N = 2 ^ (w * h) := ⟨_, rfl⟩
    obtain ⟨ls, hl⟩ : ∃ ls, linesL ⟨w, h, s⟩ = ls := ⟨_, rfl⟩
    have hx : LayCtx w h s q N ls := ⟨hb, h16, hN, by rw [hN]; exact posB_lt hb hq, hl⟩
    have HK : Hid (∀ k : Nat, layerL ⟨w, h, s⟩ q k false = layL false ls N q k) := Lib.hid (fun k => by rw [layerL_yes hS hP, hl, hN])
    have HKL : Hid (∀ k : Nat, (layL false ls N q k).length = lenL ⟨w, h, s⟩ q k) := Lib.hid (fun k => by rw [← HK.out, lenL])
    have H64 : I64 (0 : Int) := by unfold I64; omega
    have HK0 : Hid (layerL ⟨w, h, s⟩ q 0 false = layL false ls N q 0) := Lib.hid (HK.out 0)
    clear hN hl hq HR0
    go_enter Try.func58, Try.ntmps58
    go_wp2_with fail
    refine (sLayerOf_ ⟨w, h, s⟩ q 0 hp H64 _).mono ?_
    rintro e w1 ⟨A1, k1, rfl, own1, hb1⟩
    rw [HK0.out] at own1 ⊢
    obtain ⟨hc, hf⟩ := bcell hb1
    have z0 : W.heap.size < w1.heap.size := by have := hb1.size; (try simp at this); omega
    have hw1 : Below W.heap.size W w1 := below_step ((Below.refl _ _).alloc (Nat.le_refl _) _) hb1 (by (try simp))
    have d0 : w1.cell? ⟨W.heap.size, 0, none⟩ = some (.int .i64 w) := by rw [hc _ _ (by simp)]; simp [go_sem]
    have d1 : w1.cell? ⟨W.heap.size, 1, none⟩ = some (.int .i64 h) := by rw [hc _ _ (by simp)]; simp [go_sem]
    have d2 : w1.cell? ⟨W.heap.size, 2, none⟩ = some (.int .i64 s) := by rw [hc _ _ (by simp)]; simp [go_sem]
    have hw0 : w1.ownsRow 0 3 1 (.slice A1 (layL false ls N q 0).length k1) (layL false ls N q 0).length (ints (natL (layL false ls N q 0))) := own_base own1 (Nat.zero_le _)
    have HO0 := Lib.hid hw0
    have hl0 : (layL false ls N q 0).length = 1 := rfl
    clear hc hf hb1 own1 hw0
    go_wp2_with fail
    go_loopw [5, 6, 7, 8] (fun lv bv mv nv wr => ∃ (k : Nat) (A : Option Addr) (c : Nat), k ≤ 17 ∧ nv = .int .i64 ((k + 1 : Nat) : Int) ∧ lv = .slice A (layL false ls N q k).length c ∧ wr.ownsRow 0 3 1 (.slice A (layL false ls N q k).length c) (layL false ls N q k).length (ints (natL (layL false ls N q k))) ∧ bv = .int .i64 ((wstL (lenL ⟨w, h, s⟩ q) k).1 : Nat) ∧ mv = .int .i64 ((wstL (lenL ⟨w, h, s⟩ q) k).2 : Nat) ∧ Below w1.heap.size w1 wr) (fun _ _ _ nv _ => 18 - (intOf nv).toNat)
    case atStart => exact ⟨0, A1, k1, by omega, rfl, rfl, HO0.out, rfl, rfl, Below.refl _ _⟩
    case round =>
      obtain ⟨k, A, c, hk, rfl, rfl, hown, rfl, rfl, hw⟩ := hrel
      have hnl := lenL_le ⟨w, h, s⟩ q (k + 1)
      obtain ⟨hle1, hle2⟩ := wstL_le (lenL ⟨w, h, s⟩ q) (lenL_le ⟨w, h, s⟩ q) (by omega) k
      have HPS := Lib.hid (hx.ps false k)
      have hpl := hx.pl false k
      have HNX : Hid (layL false ls N q (k + 1) = nextL false ls N (layL false ls N q k)) := Lib.hid rfl
      have hkl := HKL.out k
      have HKN := Lib.hid (HKL.out (k + 1))
      by_cases hlt : 0 < (layL false ls N q k).length
      · have hk16 : k ≤ 16 := by
          rcases Nat.lt_or_ge 16 k with h1 | h1
          · have := lenL_none (b := ⟨w, h, s⟩) (p := q) h1; omega
          · exact h1
        have hns : (nextL false ls N (layL false ls N q k)).length = lenL ⟨w, h, s⟩ q (k + 1) := HKN.out
        have HNS := Lib.hid hns
        generalize layL false ls N q k = cur at hown HPS hpl HNX HNS hkl hlt ⊢
        have HRP := Lib.hid (rd_of_own hown)
        have e0 := (hw.cell (p := ⟨W.heap.size, 0, none⟩) z0).trans d0
        have e1 := (hw.cell (p := ⟨W.heap.size, 1, none⟩) z0).trans d1
        have e2 := (hw.cell (p := ⟨W.heap.size, 2, none⟩) z0).trans d2
        have z3 : W.heap.size < wr.heap.size := by have := hw.size; omega
        have hsz := hw.size
        have n1 : ((k + 1 : Nat) : Int) ≤ 17 := by omega
        have n0 : (0 : Int) ≤ ((k + 1 : Nat) : Int) := by omega
        by_cases hgt : (wstL (lenL ⟨w, h, s⟩ q) k).2 < lenL ⟨w, h, s⟩ q (k + 1)
        · have HY := Lib.hid (wstL_yes hgt)
          have hgt' : (((wstL (lenL ⟨w, h, s⟩ q) k).2 : Nat) : Int) < ((lenL ⟨w, h, s⟩ q (k + 1) : Nat) : Int) := by omega
          generalize wstL (lenL ⟨w, h, s⟩ q) k = st at hle1 hle2 hgt hgt' ⊢
          generalize lenL ⟨w, h, s⟩ q (k + 1) = nl at HNS HKN HY hnl hgt hgt'
          generalize hkk : ((k + 1 : Nat) : Int) = kk at n1 n0 ⊢
          have HKK := Lib.hid hkk
          clear hkk hown hkl hns
          go_wp2_with fail
          refine (l17Next_ false w h s hb h16 ls N hx.hN hx.hl cur A c HPS.out hpl _ HRP.out).mono ?_
          rintro e w4 ⟨A4, c4, rfl, own4, hb4⟩
          have hw4 := hw.trans (hb4.mono hsz)
          have HO4 := Lib.hid (own_base own4 (Nat.zero_le _))
          rw [HNS.out]
          clear own4 e0 e1 e2
          go_wp2
          go_roundw
          case rel => exact ⟨k + 1, A4, c4, by omega, by rw [← HKK.out]; go_num, by rw [HNX.out, HNS.out], by rw [HNX.out]; exact HO4.out, by rw [HY.out, ← HKK.out], by rw [HY.out], hw4⟩
          case measure => simp [intOf]; have := HKK.out; omega
        · have HY := Lib.hid (wstL_no hgt)
          have hgt' : ((lenL ⟨w, h, s⟩ q (k + 1) : Nat) : Int) ≤ (((wstL (lenL ⟨w, h, s⟩ q) k).2 : Nat) : Int) := by omega
          generalize wstL (lenL ⟨w, h, s⟩ q) k = st at hle1 hle2 hgt hgt' HY ⊢
          generalize lenL ⟨w, h, s⟩ q (k + 1) = nl at HNS HKN hnl hgt hgt'
          generalize hkk : ((k + 1 : Nat) : Int) = kk at n1 n0 ⊢
          have HKK := Lib.hid hkk
          clear hkk hown hkl hns
          go_wp2_with fail
          refine (l17Next_ false w h s hb h16 ls N hx.hN hx.hl cur A c HPS.out hpl _ HRP.out).mono ?_
          rintro e w4 ⟨A4, c4, rfl, own4, hb4⟩
          have hw4 := hw.trans (hb4.mono hsz)
          have HO4 := Lib.hid (own_base own4 (Nat.zero_le _))
          rw [HNS.out]
          clear own4 e0 e1 e2
          go_wp2
          go_roundw
          case rel => exact ⟨k + 1, A4, c4, by omega, by rw [← HKK.out]; go_num, by rw [HNX.out, HNS.out], by rw [HNX.out]; exact HO4.out, by rw [HY.out], by rw [HY.out], hw4⟩
          case measure => simp [intOf]; have := HKK.out; omega
      · have hc0 : (layL false ls N q k).length ≤ 0 := by omega
        have HFIN : Hid (wstL (lenL ⟨w, h, s⟩ q) 16 = wstL (lenL ⟨w, h, s⟩ q) k) := Lib.hid (by
          have hz : ∀ j, k < j → lenL ⟨w, h, s⟩ q j = 0 := fun j hj => by
            have := layL_stop (back := false) (ls := ls) (n := N) (p := q) (k := k) (List.length_eq_zero_iff.1 (by omega)) (j - k)
            rw [show k + (j - k) = j by omega] at this
            rw [← HKL.out, this]; rfl
          rcases Nat.lt_or_ge 16 k with h1 | h1
          · obtain rfl : k = 17 := by omega
            exact (wide_stop ⟨w, h, s⟩ q 1).symm
          · have := wstL_stop hz (16 - k)
            rw [show k + (16 - k) = 16 by omega] at this
            exact this)
        clear hown hkl
        go_wp2
        go_ret
        exact ⟨by rw [HR.out, HFIN.out]; rfl, below_next hw1 hw⟩
  · have HR : Hid (wideI b p = -1) := Lib.hid (by rw [wideI, hSP]; rfl)
    have HK0 : Hid (layerL b p 0 false = []) := Lib.hid (layerL_no (by rw [hSP, Bool.false_and]))
    have H64 : I64 (0 : Int) := by unfold I64; omega
    clear hSP
    go_enter Try.func58, Try.ntmps58
    go_wp2_with fail
    refine (sLayerOf_ b p 0 hp H64 _).mono ?_
    rintro e w1 ⟨A1, k1, rfl, own1, hb1⟩
    rw [HK0.out] at own1 ⊢
    have hw1 : Below W.heap.size W w1 := below_step ((Below.refl _ _).alloc (Nat.le_refl _) _) hb1 (by (try simp))
    clear own1
    go_wp2
    go_ret
    exact ⟨by rw [HR.out]; rfl, hw1⟩
end Go.Proofs.Ytbljoknlphaimaa

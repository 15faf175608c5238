/- The contracts of LayerOf and BackLayer. -/
import Derived.Test.YtbljoknlphaimaaChecked
import Derived.Test.YtbljoknlphaimaaMem
import Derived.Tactics
import Derived.Tactics2
import Derived.WalkKit
import Derived.WalkSpells
import Derived.WalkLawsBesides
import Derived.Deep.QuietTactic
import Derived.BigQuiet
import Derived.BigGuardPart
import Derived.Lib.QuietBelow
import Derived.OwnWalk
import Derived.KernelRfl
import Derived.Test.YtbljoknlphaimaaLayS
set_option linter.unusedVariables false
set_option maxRecDepth 20000
namespace Go.Proofs.Ytbljoknlphaimaa
open Go.RowKit Go.Sort Go.Lib

theorem layerL_le (b : Ln) (p m : Int) (back : Bool) : (layerL b p m back).length ≤ 65536 := by
  rcases Bool.eq_false_or_eq_true (smallB b && posB b p && decide (0 ≤ m)) with h | h
  · simp only [Bool.and_eq_true, decide_eq_true_eq] at h
    obtain ⟨⟨hS, hP⟩, hm⟩ := h
    obtain ⟨w, h, s, rfl, hb, h16, s16⟩ := smallB_nat hS
    obtain ⟨q, rfl, hq⟩ := posB_nat hP
    obtain ⟨m, rfl⟩ := Int.eq_ofNat_of_zero_le hm
    rw [layerL_yes hS hP]
    exact Nat.le_trans (layL_le (posB_lt hb hq) m) (Nat.pow_le_pow_right (n := 2) (j := 16) (by omega) h16)
  · rw [layerL_no h]; simp
/-- What is laid ahead of the loops: the size of the board, its lines. -/
structure LayCtx (w h s q N : Nat) (ls : List Ln) : Prop where
  hb : BdOk w h s
  h16 : w * h ≤ 16
  hN : N = 2 ^ (w * h)
  hq : q < N
  hl : linesL ⟨w, h, s⟩ = ls
theorem LayCtx.st {w h s q N : Nat} {ls : List Ln} (k : LayCtx w h s q N ls) : Stays N ls := by rw [k.hN, ← k.hl]; exact stays_of k.hb
theorem LayCtx.fo {w h s q N : Nat} {ls : List Ln} (k : LayCtx w h s q N ls) : LsFo ls := by rw [← k.hl]; exact lsFo_of k.hb
theorem LayCtx.n16 {w h s q N : Nat} {ls : List Ln} (k : LayCtx w h s q N ls) : N ≤ 65536 := by rw [k.hN]; exact Nat.pow_le_pow_right (n := 2) (j := 16) (by omega) k.h16
theorem LayCtx.m196 {w h s q N : Nat} {ls : List Ln} (k : LayCtx w h s q N ls) : ls.length ≤ 196 := by rw [← k.hl]; exact linesL_le _
theorem LayCtx.ps {w h s q N : Nat} {ls : List Ln} (k : LayCtx w h s q N ls) (back : Bool) (j : Nat) : ∀ p ∈ layL back ls N q j, p < N := layL_lt k.hq j
theorem LayCtx.pl {w h s q N : Nat} {ls : List Ln} (k : LayCtx w h s q N ls) (back : Bool) (j : Nat) : (layL back ls N q j).length ≤ 65536 := Nat.le_trans (layL_le k.hq j) k.n16

set_option maxHeartbeats 1000000 in
theorem layerOf_ (b : Ln) (p m : Int) (back : Bool) (hp : I64 p) (hm : I64 m) (W : World) :
    Calls Try.prog 69 #[.agg #[.int .i64 b.f, .int .i64 b.o, .int .i64 b.t], .int .i64 p, .int .i64 m, .bool back] W (GivesSlice W 3 1 (layerL b p m back).length (ints (natL (layerL b p m back)))) := by
  rcases Bool.eq_false_or_eq_true (smallB b) with hS | hS
  · rcases Bool.eq_false_or_eq_true (posB b p) with hP | hP
    · obtain ⟨w, h, s, rfl, hb, h16, s16⟩ := smallB_nat hS
      obtain ⟨q, rfl, hq⟩ := posB_nat hP
      by_cases h0 : m < 0
      · have HR := Lib.hid (layerL_no (b := ⟨w, h, s⟩) (p := q) (m := m) (back := back) (by simp; intro _ _; omega))
        go_enter Try.func69, Try.ntmps69
        go_wp2_with fail
        refine (is_ (iIsSmall_ ⟨w, h, s⟩ _) hS).mono ?_
        rintro e w1 ⟨rfl, hb1⟩
        obtain ⟨hc, hf⟩ := bcell hb1
        have z0 : W.heap.size < w1.heap.size := by have := hb1.size; (try simp at this); omega
        have hw1 : Below W.heap.size W w1 := below_step ((Below.refl _ _).alloc (Nat.le_refl _) _) hb1 (by (try simp))
        have c0 : w1.cell? ⟨W.heap.size, 0, none⟩ = some (.int .i64 w) := by rw [hc _ _ (by simp)]; simp [go_sem]
        have c1 : w1.cell? ⟨W.heap.size, 1, none⟩ = some (.int .i64 h) := by rw [hc _ _ (by simp)]; simp [go_sem]
        have c2 : w1.cell? ⟨W.heap.size, 2, none⟩ = some (.int .i64 s) := by rw [hc _ _ (by simp)]; simp [go_sem]
        clear hc hf hb1
        go_wp2_with fail
        refine (is_ (iPositionOk_ ⟨w, h, s⟩ q hp _) hP).mono ?_
        rintro e w2 ⟨rfl, hb2⟩
        have d0 := (hb2.cell (p := ⟨W.heap.size, 0, none⟩) z0).trans c0
        have d1 := (hb2.cell (p := ⟨W.heap.size, 1, none⟩) z0).trans c1
        have d2 := (hb2.cell (p := ⟨W.heap.size, 2, none⟩) z0).trans c2
        have hw2 := below_next hw1 hb2
        have z2 : W.heap.size < w2.heap.size := by have := hb2.size; omega
        clear c0 c1 c2 hb2
        go_wp2
        go_ret
        exact ⟨_, _, ret_slice (by rw [HR.out]; rfl), by rw [HR.out]; exact World.ownsRow_nil _ _ _ _, hw2⟩
      · obtain ⟨m, rfl⟩ := Int.eq_ofNat_of_zero_le (show 0 ≤ m by omega)
        have HR := Lib.hid (layerL_yes (m := m) (back := back) hS hP)
        obtain ⟨N, hN⟩ : ∃ N, N = 2 ^ (w * h) := ⟨_, rfl⟩
        obtain ⟨ls, hl⟩ : ∃ ls, linesL ⟨w, h, s⟩ = ls := ⟨_, rfl⟩
        have hx : LayCtx w h s q N ls := ⟨hb, h16, hN, by rw [hN]; exact posB_lt hb hq, hl⟩
        have HR : Hid (layerL ⟨w, h, s⟩ q m back = layL back ls N q m) := Lib.hid (by rw [HR.out, hl, hN])
        have HL := Lib.hid hl
        have m0 : (0 : Int) ≤ (m : Int) := by omega
        have m1 : (m : Int) ≤ 9223372036854775807 := hm.2
        clear hN hl hq h0 hm
        go_enter Try.func69, Try.ntmps69
        go_wp2_with fail
        refine (is_ (iIsSmall_ ⟨w, h, s⟩ _) hS).mono ?_
        rintro e w1 ⟨rfl, hb1⟩
        obtain ⟨hc, hf⟩ := bcell hb1
        have z0 : W.heap.size < w1.heap.size := by have := hb1.size; (try simp at this); omega
        have hw1 : Below W.heap.size W w1 := below_step ((Below.refl _ _).alloc (Nat.le_refl _) _) hb1 (by (try simp))
        have c0 : w1.cell? ⟨W.heap.size, 0, none⟩ = some (.int .i64 w) := by rw [hc _ _ (by simp)]; simp [go_sem]
        have c1 : w1.cell? ⟨W.heap.size, 1, none⟩ = some (.int .i64 h) := by rw [hc _ _ (by simp)]; simp [go_sem]
        have c2 : w1.cell? ⟨W.heap.size, 2, none⟩ = some (.int .i64 s) := by rw [hc _ _ (by simp)]; simp [go_sem]
        clear hc hf hb1
        go_wp2_with fail
        refine (is_ (iPositionOk_ ⟨w, h, s⟩ q hp _) hP).mono ?_
        rintro e w2 ⟨rfl, hb2⟩
        have d0 := (hb2.cell (p := ⟨W.heap.size, 0, none⟩) z0).trans c0
        have d1 := (hb2.cell (p := ⟨W.heap.size, 1, none⟩) z0).trans c1
        have d2 := (hb2.cell (p := ⟨W.heap.size, 2, none⟩) z0).trans c2
        have hw2 := below_next hw1 hb2
        have z2 : W.heap.size < w2.heap.size := by have := hb2.size; omega
        clear c0 c1 c2 hb2
        go_wp2_with fail
        refine (iLinesOf_ ⟨w, h, s⟩ _).mono ?_
        rintro e W1 ⟨A1, k1, rfl, rd1, hb3⟩
        rw [HL.out] at rd1 ⊢
        have hW1 := below_next hw2 hb3
        have hT0 : (W1.alloc (.cells #[.int .i64 q] 3)).ownsRow W1.heap.size 3 1 (.slice (some ⟨W1.heap.size, 0, none⟩) (layL back ls N q 0).length 1) (layL back ls N q 0).length (ints (natL (layL back ls N q 0))) := by
          have := World.ownsRow_lit (base := W1.heap.size) (e := 3) (size := 1) W1 #[.int .i64 q] 1 (Nat.le_refl _) (by simp [maxLen]) rfl
          simpa [layL, natL, ints] using this
        have HT0 := Lib.hid hT0
        clear d0 d1 d2 hb3 hT0
        go_wp2_with fail
        go_loopw [10, 11] (fun lv iv wr => ∃ (k : Nat) (A : Option Addr) (c : Nat), k ≤ m ∧ iv = .int .i64 k ∧ lv = .slice A (layL back ls N q k).length c ∧ wr.ownsRow W1.heap.size 3 1 (.slice A (layL back ls N q k).length c) (layL back ls N q k).length (ints (natL (layL back ls N q k))) ∧ Below W1.heap.size W1 wr) (fun _ iv _ => m - (intOf iv).toNat)
        case atStart => exact ⟨0, _, 1, Nat.zero_le _, rfl, by simp [layL], HT0.out, (Below.refl _ _).alloc (Nat.le_refl _) _⟩
        case round =>
          obtain ⟨k, A, c, hk, rfl, rfl, hown, hw⟩ := hrel
          have HPS := Lib.hid (hx.ps back k)
          have hpl := hx.pl back k
          have HNX : Hid (layL back ls N q (k + 1) = nextL back ls N (layL back ls N q k)) := Lib.hid rfl
          have HSTOP := Lib.hid (fun h => layL_stop (back := back) (ls := ls) (n := N) (p := q) (k := k) h (m - k))
          have hsz := hw.size
          by_cases hlt : k < m
          · generalize layL back ls N q k = cur at hown HPS hpl HNX HSTOP ⊢
            have HO := Lib.hid hown
            have k0' : (0 : Int) ≤ (k : Int) := by omega
            have k1' : (k : Int) < (m : Int) := by omega
            have rdP := rd_of_own hown
            have rdL := rd1.next hw
            have HRP := Lib.hid rdP
            have HRL := Lib.hid rdL
            clear hown rdP rdL
            by_cases hcl : 0 < cur.length
            · go_wp2_with fail
              refine (nextLayer_ back N ls cur A1 A k1 c hx.n16 hx.m196 hx.st hx.fo HPS.out hpl _ HRL.out HRP.out).mono ?_
              rintro e w4 ⟨A4, c4, rfl, own4, hb4⟩
              rw [← HNX.out] at own4 ⊢
              have HO4 := Lib.hid (own_base own4 hsz)
              have hw4 := hw.trans (hb4.mono hsz)
              clear own4
              go_wp2
              go_roundw
              case rel => exact ⟨k + 1, A4, c4, by omega, by go_num, rfl, HO4.out, hw4⟩
              case measure => simp [intOf]; omega
            · have hc0 : cur.length ≤ 0 := by omega
              have he : cur = [] := List.length_eq_zero_iff.1 (by omega)
              have HFIN : Hid (layL back ls N q m = cur) := Lib.hid (by have := HSTOP.out he; rw [show k + (m - k) = m by omega] at this; rw [this, he])
              clear he
              go_wp2
              go_ret
              exact ⟨_, _, ret_slice (by rw [HR.out, HFIN.out]), by rw [HR.out, HFIN.out]; exact own_base HO.out hW1.size, below_next hW1 hw⟩
          · have e : k = m := by omega
            subst e
            have HO := Lib.hid hown
            clear hown
            go_wp2
            go_ret
            exact ⟨_, _, ret_slice (by rw [HR.out]), by rw [HR.out]; exact own_base HO.out hW1.size, below_next hW1 hw⟩
    · have HR := Lib.hid (layerL_no (b := b) (p := p) (m := m) (back := back) (by simp [hP]))
      go_enter Try.func69, Try.ntmps69
      go_wp2_with fail
      refine (is_ (iIsSmall_ b _) hS).mono ?_
      rintro e w1 ⟨rfl, hb1⟩
      obtain ⟨hc, hf⟩ := bcell hb1
      have z0 : W.heap.size < w1.heap.size := by have := hb1.size; (try simp at this); omega
      have hw1 : Below W.heap.size W w1 := below_step ((Below.refl _ _).alloc (Nat.le_refl _) _) hb1 (by (try simp))
      have c0 : w1.cell? ⟨W.heap.size, 0, none⟩ = some (.int .i64 b.f) := by rw [hc _ _ (by simp)]; simp [go_sem]
      have c1 : w1.cell? ⟨W.heap.size, 1, none⟩ = some (.int .i64 b.o) := by rw [hc _ _ (by simp)]; simp [go_sem]
      have c2 : w1.cell? ⟨W.heap.size, 2, none⟩ = some (.int .i64 b.t) := by rw [hc _ _ (by simp)]; simp [go_sem]
      clear hc hf hb1
      go_wp2_with fail
      refine (is_ (iPositionOk_ b p hp _) hP).mono ?_
      rintro e w2 ⟨rfl, hb2⟩
      have d0 := (hb2.cell (p := ⟨W.heap.size, 0, none⟩) z0).trans c0
      have d1 := (hb2.cell (p := ⟨W.heap.size, 1, none⟩) z0).trans c1
      have d2 := (hb2.cell (p := ⟨W.heap.size, 2, none⟩) z0).trans c2
      have hw2 := below_next hw1 hb2
      have z2 : W.heap.size < w2.heap.size := by have := hb2.size; omega
      clear c0 c1 c2 hb2
      go_wp2
      go_ret
      exact ⟨_, _, ret_slice (by rw [HR.out]; rfl), by rw [HR.out]; exact World.ownsRow_nil _ _ _ _, hw2⟩
  · have HR := Lib.hid (layerL_no (b := b) (p := p) (m := m) (back := back) (by simp [hS]))
    go_enter Try.func69, Try.ntmps69
    go_wp2_with fail
    refine (is_ (iIsSmall_ b _) hS).mono ?_
    rintro e w1 ⟨rfl, hb1⟩
    obtain ⟨hc, hf⟩ := bcell hb1
    have z0 : W.heap.size < w1.heap.size := by have := hb1.size; (try simp at this); omega
    have hw1 : Below W.heap.size W w1 := below_step ((Below.refl _ _).alloc (Nat.le_refl _) _) hb1 (by (try simp))
    have c0 : w1.cell? ⟨W.heap.size, 0, none⟩ = some (.int .i64 b.f) := by rw [hc _ _ (by simp)]; simp [go_sem]
    have c1 : w1.cell? ⟨W.heap.size, 1, none⟩ = some (.int .i64 b.o) := by rw [hc _ _ (by simp)]; simp [go_sem]
    have c2 : w1.cell? ⟨W.heap.size, 2, none⟩ = some (.int .i64 b.t) := by rw [hc _ _ (by simp)]; simp [go_sem]
    clear hc hf hb1
    go_wp2
    go_ret
    exact ⟨_, _, ret_slice (by rw [HR.out]; rfl), by rw [HR.out]; exact World.ownsRow_nil _ _ _ _, hw1⟩
set_option maxHeartbeats 1000000 in
theorem l17Layer_ (b : Ln) (p m : Int) (back : Bool) (hp : I64 p) (hm : I64 m) (W : World) :
    Calls Try.prog 93 #[.agg #[.int .i64 b.f, .int .i64 b.o, .int .i64 b.t], .int .i64 p, .int .i64 m, .bool back] W (GivesSlice W 3 1 (layerL b p m back).length (ints (natL (layerL b p m back)))) := by
  rcases Bool.eq_false_or_eq_true (smallB b) with hS | hS
  · rcases Bool.eq_false_or_eq_true (posB b p) with hP | hP
    · obtain ⟨w, h, s, rfl, hb, h16, s16⟩ := smallB_nat hS
      obtain ⟨q, rfl, hq⟩ := posB_nat hP
      by_cases h0 : m < 0
      · have HR := Lib.hid (layerL_no (b := ⟨w, h, s⟩) (p := q) (m := m) (back := back) (by simp; intro _ _; omega))
        go_enter Try.func93, Try.ntmps93
        go_wp2_with fail
        refine (is_ (sIsSmall_ ⟨w, h, s⟩ _) hS).mono ?_
        rintro e w1 ⟨rfl, hb1⟩
        obtain ⟨hc, hf⟩ := bcell hb1
        have z0 : W.heap.size < w1.heap.size := by have := hb1.size; (try simp at this); omega
        have hw1 : Below W.heap.size W w1 := below_step ((Below.refl _ _).alloc (Nat.le_refl _) _) hb1 (by (try simp))
        have c0 : w1.cell? ⟨W.heap.size, 0, none⟩ = some (.int .i64 w) := by rw [hc _ _ (by simp)]; simp [go_sem]
        have c1 : w1.cell? ⟨W.heap.size, 1, none⟩ = some (.int .i64 h) := by rw [hc _ _ (by simp)]; simp [go_sem]
        have c2 : w1.cell? ⟨W.heap.size, 2, none⟩ = some (.int .i64 s) := by rw [hc _ _ (by simp)]; simp [go_sem]
        clear hc hf hb1
        go_wp2_with fail
        refine (is_ (sPositionOk_ ⟨w, h, s⟩ q hp _) hP).mono ?_
        rintro e w2 ⟨rfl, hb2⟩
        have d0 := (hb2.cell (p := ⟨W.heap.size, 0, none⟩) z0).trans c0
        have d1 := (hb2.cell (p := ⟨W.heap.size, 1, none⟩) z0).trans c1
        have d2 := (hb2.cell (p := ⟨W.heap.size, 2, none⟩) z0).trans c2
        have hw2 := below_next hw1 hb2
        have z2 : W.heap.size < w2.heap.size := by have := hb2.size; omega
        clear c0 c1 c2 hb2
        have HE := Lib.hid (own_base (World.ownsRow_lit (base := w2.heap.size) (e := 3) (size := 1) w2 #[] 0 (Nat.le_refl _) (by simp [maxLen]) rfl) hw2.size)
        have HB := Lib.hid (hw2.alloc hw2.size (.cells #[] 3))
        go_wp2
        go_ret
        exact ⟨_, _, ret_slice (by rw [HR.out]; rfl), by rw [HR.out]; exact HE.out, HB.out⟩
      · obtain ⟨m, rfl⟩ := Int.eq_ofNat_of_zero_le (show 0 ≤ m by omega)
        have HR := Lib.hid (layerL_yes (m := m) (back := back) hS hP)
        obtain ⟨N, hN⟩ : ∃ N, N = 2 ^ (w * h) := ⟨_, rfl⟩
        obtain ⟨ls, hl⟩ : ∃ ls, linesL ⟨w, h, s⟩ = ls := ⟨_, rfl⟩
        have hx : LayCtx w h s q N ls := ⟨hb, h16, hN, by rw [hN]; exact posB_lt hb hq, hl⟩
        have HR : Hid (layerL ⟨w, h, s⟩ q m back = layL back ls N q m) := Lib.hid (by rw [HR.out, hl, hN])
        have m0 : (0 : Int) ≤ (m : Int) := by omega
        have m1 : (m : Int) ≤ 9223372036854775807 := hm.2
        clear hN hl hq h0 hm
        go_enter Try.func93, Try.ntmps93
        go_wp2_with fail
        refine (is_ (sIsSmall_ ⟨w, h, s⟩ _) hS).mono ?_
        rintro e w1 ⟨rfl, hb1⟩
        obtain ⟨hc, hf⟩ := bcell hb1
        have z0 : W.heap.size < w1.heap.size := by have := hb1.size; (try simp at this); omega
        have hw1 : Below W.heap.size W w1 := below_step ((Below.refl _ _).alloc (Nat.le_refl _) _) hb1 (by (try simp))
        have c0 : w1.cell? ⟨W.heap.size, 0, none⟩ = some (.int .i64 w) := by rw [hc _ _ (by simp)]; simp [go_sem]
        have c1 : w1.cell? ⟨W.heap.size, 1, none⟩ = some (.int .i64 h) := by rw [hc _ _ (by simp)]; simp [go_sem]
        have c2 : w1.cell? ⟨W.heap.size, 2, none⟩ = some (.int .i64 s) := by rw [hc _ _ (by simp)]; simp [go_sem]
        clear hc hf hb1
        go_wp2_with fail
        refine (is_ (sPositionOk_ ⟨w, h, s⟩ q hp _) hP).mono ?_
        rintro e w2 ⟨rfl, hb2⟩
        have d0 := (hb2.cell (p := ⟨W.heap.size, 0, none⟩) z0).trans c0
        have d1 := (hb2.cell (p := ⟨W.heap.size, 1, none⟩) z0).trans c1
        have d2 := (hb2.cell (p := ⟨W.heap.size, 2, none⟩) z0).trans c2
        have hw2 := below_next hw1 hb2
        have z2 : W.heap.size < w2.heap.size := by have := hb2.size; omega
        clear c0 c1 c2 hb2
        have hT0 : (w2.alloc (.cells #[.int .i64 q] 3)).ownsRow w2.heap.size 3 1 (.slice (some ⟨w2.heap.size, 0, none⟩) (layL back ls N q 0).length 1) (layL back ls N q 0).length (ints (natL (layL back ls N q 0))) := by
          have := World.ownsRow_lit (base := w2.heap.size) (e := 3) (size := 1) w2 #[.int .i64 q] 1 (Nat.le_refl _) (by simp [maxLen]) rfl
          simpa [layL, natL, ints] using this
        have HT0 := Lib.hid hT0
        clear hT0
        go_wp2_with fail
        go_loopw [9, 10] (fun lv iv wr => ∃ (k : Nat) (A : Option Addr) (c : Nat), k ≤ m ∧ iv = .int .i64 k ∧ lv = .slice A (layL back ls N q k).length c ∧ wr.ownsRow w2.heap.size 3 1 (.slice A (layL back ls N q k).length c) (layL back ls N q k).length (ints (natL (layL back ls N q k))) ∧ Below w2.heap.size w2 wr) (fun _ iv _ => m - (intOf iv).toNat)
        case atStart => exact ⟨0, _, 1, Nat.zero_le _, rfl, by simp [layL], HT0.out, (Below.refl _ _).alloc (Nat.le_refl _) _⟩
        case round =>
          obtain ⟨k, A, c, hk, rfl, rfl, hown, hw⟩ := hrel
          have HPS := Lib.hid (hx.ps back k)
          have hpl := hx.pl back k
          have HNX : Hid (layL back ls N q (k + 1) = nextL back ls N (layL back ls N q k)) := Lib.hid rfl
          have HSTOP := Lib.hid (fun h => layL_stop (back := back) (ls := ls) (n := N) (p := q) (k := k) h (m - k))
          have hsz := hw.size
          by_cases hlt : k < m
          · generalize layL back ls N q k = cur at hown HPS hpl HNX HSTOP ⊢
            have HO := Lib.hid hown
            have k0' : (0 : Int) ≤ (k : Int) := by omega
            have k1' : (k : Int) < (m : Int) := by omega
            have HRP := Lib.hid (rd_of_own hown)
            have e0 := (hw.cell (p := ⟨W.heap.size, 0, none⟩) z2).trans d0
            have e1 := (hw.cell (p := ⟨W.heap.size, 1, none⟩) z2).trans d1
            have e2 := (hw.cell (p := ⟨W.heap.size, 2, none⟩) z2).trans d2
            have z3 : W.heap.size < wr.heap.size := by omega
            clear hown
            by_cases hcl : 0 < cur.length
            · go_wp2_with fail
              refine (l17Next_ back w h s hb h16 ls N hx.hN hx.hl cur A c HPS.out hpl _ HRP.out).mono ?_
              rintro e w4 ⟨A4, c4, rfl, own4, hb4⟩
              rw [← HNX.out] at own4 ⊢
              have HO4 := Lib.hid (own_base own4 hsz)
              have hw4 := hw.trans (hb4.mono hsz)
              clear own4 e0 e1 e2
              go_wp2
              go_roundw
              case rel => exact ⟨k + 1, A4, c4, by omega, by go_num, rfl, HO4.out, hw4⟩
              case measure => simp [intOf]; omega
            · have hc0 : cur.length ≤ 0 := by omega
              have he : cur = [] := List.length_eq_zero_iff.1 (by omega)
              have HFIN : Hid (layL back ls N q m = cur) := Lib.hid (by have := HSTOP.out he; rw [show k + (m - k) = m by omega] at this; rw [this, he])
              clear he
              go_wp2
              go_ret
              exact ⟨_, _, ret_slice (by rw [HR.out, HFIN.out]), by rw [HR.out, HFIN.out]; exact own_base HO.out hw2.size, below_next hw2 hw⟩
          · have e : k = m := by omega
            subst e
            have HO := Lib.hid hown
            clear hown
            go_wp2
            go_ret
            exact ⟨_, _, ret_slice (by rw [HR.out]), by rw [HR.out]; exact own_base HO.out hw2.size, below_next hw2 hw⟩
    · have HR := Lib.hid (layerL_no (b := b) (p := p) (m := m) (back := back) (by simp [hP]))
      go_enter Try.func93, Try.ntmps93
      go_wp2_with fail
      refine (is_ (sIsSmall_ b _) hS).mono ?_
      rintro e w1 ⟨rfl, hb1⟩
      obtain ⟨hc, hf⟩ := bcell hb1
      have z0 : W.heap.size < w1.heap.size := by have := hb1.size; (try simp at this); omega
      have hw1 : Below W.heap.size W w1 := below_step ((Below.refl _ _).alloc (Nat.le_refl _) _) hb1 (by (try simp))
      have c0 : w1.cell? ⟨W.heap.size, 0, none⟩ = some (.int .i64 b.f) := by rw [hc _ _ (by simp)]; simp [go_sem]
      have c1 : w1.cell? ⟨W.heap.size, 1, none⟩ = some (.int .i64 b.o) := by rw [hc _ _ (by simp)]; simp [go_sem]
      have c2 : w1.cell? ⟨W.heap.size, 2, none⟩ = some (.int .i64 b.t) := by rw [hc _ _ (by simp)]; simp [go_sem]
      clear hc hf hb1
      go_wp2_with fail
      refine (is_ (sPositionOk_ b p hp _) hP).mono ?_
      rintro e w2 ⟨rfl, hb2⟩
      have d0 := (hb2.cell (p := ⟨W.heap.size, 0, none⟩) z0).trans c0
      have d1 := (hb2.cell (p := ⟨W.heap.size, 1, none⟩) z0).trans c1
      have d2 := (hb2.cell (p := ⟨W.heap.size, 2, none⟩) z0).trans c2
      have hw2 := below_next hw1 hb2
      have z2 : W.heap.size < w2.heap.size := by have := hb2.size; omega
      clear c0 c1 c2 hb2
      have HE := Lib.hid (own_base (World.ownsRow_lit (base := w2.heap.size) (e := 3) (size := 1) w2 #[] 0 (Nat.le_refl _) (by simp [maxLen]) rfl) hw2.size)
      have HB := Lib.hid (hw2.alloc hw2.size (.cells #[] 3))
      go_wp2
      go_ret
      exact ⟨_, _, ret_slice (by rw [HR.out]; rfl), by rw [HR.out]; exact HE.out, HB.out⟩
  · have HR := Lib.hid (layerL_no (b := b) (p := p) (m := m) (back := back) (by simp [hS]))
    go_enter Try.func93, Try.ntmps93
    go_wp2_with fail
    refine (is_ (sIsSmall_ b _) hS).mono ?_
    rintro e w1 ⟨rfl, hb1⟩
    obtain ⟨hc, hf⟩ := bcell hb1
    have z0 : W.heap.size < w1.heap.size := by have := hb1.size; (try simp at this); omega
    have hw1 : Below W.heap.size W w1 := below_step ((Below.refl _ _).alloc (Nat.le_refl _) _) hb1 (by (try simp))
    have c0 : w1.cell? ⟨W.heap.size, 0, none⟩ = some (.int .i64 b.f) := by rw [hc _ _ (by simp)]; simp [go_sem]
    have c1 : w1.cell? ⟨W.heap.size, 1, none⟩ = some (.int .i64 b.o) := by rw [hc _ _ (by simp)]; simp [go_sem]
    have c2 : w1.cell? ⟨W.heap.size, 2, none⟩ = some (.int .i64 b.t) := by rw [hc _ _ (by simp)]; simp [go_sem]
    clear hc hf hb1
    have HE := Lib.hid (own_base (World.ownsRow_lit (base := w1.heap.size) (e := 3) (size := 1) w1 #[] 0 (Nat.le_refl _) (by simp [maxLen]) rfl) hw1.size)
    have HB := Lib.hid (hw1.alloc hw1.size (.cells #[] 3))
    go_wp2
    go_ret
    exact ⟨_, _, ret_slice (by rw [HR.out]; rfl), by rw [HR.out]; exact HE.out, HB.out⟩
theorem iLayerOf_ (b : Ln) (p m : Int) (hp : I64 p) (hm : I64 m) (W : World) :
    Calls Try.prog 20 #[.agg #[.int .i64 b.f, .int .i64 b.o, .int .i64 b.t], .int .i64 p, .int .i64 m] W (GivesSlice W 3 1 (layerL b p m false).length (ints (natL (layerL b p m false)))) := by
  go_enter Try.func20, Try.ntmps20
  go_wp2_with fail
  refine (layerOf_ b p m false hp hm _).mono ?_
  rintro e w1 ⟨A, c, rfl, own1, hb1⟩
  have HO := Lib.hid (own_base own1 (show W.heap.size ≤ _ by simp))
  have hw1 : Below W.heap.size W w1 := below_step ((Below.refl _ _).alloc (Nat.le_refl _) _) hb1 (by (try simp))
  clear own1
  go_wp2
  go_ret
  exact ⟨_, _, rfl, HO.out, hw1⟩
theorem iBackLayer_ (b : Ln) (p m : Int) (hp : I64 p) (hm : I64 m) (W : World) :
    Calls Try.prog 22 #[.agg #[.int .i64 b.f, .int .i64 b.o, .int .i64 b.t], .int .i64 p, .int .i64 m] W (GivesSlice W 3 1 (layerL b p m true).length (ints (natL (layerL b p m true)))) := by
  go_enter Try.func22, Try.ntmps22
  go_wp2_with fail
  refine (layerOf_ b p m true hp hm _).mono ?_
  rintro e w1 ⟨A, c, rfl, own1, hb1⟩
  have HO := Lib.hid (own_base own1 (show W.heap.size ≤ _ by simp))
  have hw1 : Below W.heap.size W w1 := below_step ((Below.refl _ _).alloc (Nat.le_refl _) _) hb1 (by (try simp))
  clear own1
  go_wp2
  go_ret
  exact ⟨_, _, rfl, HO.out, hw1⟩
theorem sLayerOf_ (b : Ln) (p m : Int) (hp : I64 p) (hm : I64 m) (W : World) :
    Calls Try.prog 57 #[.agg #[.int .i64 b.f, .int .i64 b.o, .int .i64 b.t], .int .i64 p, .int .i64 m] W (GivesSlice W 3 1 (layerL b p m false).length (ints (natL (layerL b p m false)))) := by
  go_enter Try.func57, Try.ntmps57
  go_wp2_with fail
  refine (l17Layer_ b p m false hp hm _).mono ?_
  rintro e w1 ⟨A, c, rfl, own1, hb1⟩
  have HO := Lib.hid (own_base own1 (show W.heap.size ≤ _ by simp))
  have hw1 : Below W.heap.size W w1 := below_step ((Below.refl _ _).alloc (Nat.le_refl _) _) hb1 (by (try simp))
  clear own1
  go_wp2
  go_ret
  exact ⟨_, _, rfl, HO.out, hw1⟩
theorem sBackLayer_ (b : Ln) (p m : Int) (hp : I64 p) (hm : I64 m) (W : World) :
    Calls Try.prog 56 #[.agg #[.int .i64 b.f, .int .i64 b.o, .int .i64 b.t], .int .i64 p, .int .i64 m] W (GivesSlice W 3 1 (layerL b p m true).length (ints (natL (layerL b p m true)))) := by
  go_enter Try.func56, Try.ntmps56
  go_wp2_with fail
  refine (l17Layer_ b p m true hp hm _).mono ?_
  rintro e w1 ⟨A, c, rfl, own1, hb1⟩
  have HO := Lib.hid (own_base own1 (show W.heap.size ≤ _ by simp))
  have hw1 : Below W.heap.size W w1 := below_step ((Below.refl _ _).alloc (Nat.le_refl _) _) hb1 (by (try simp))
  clear own1
  go_wp2
  go_ret
  exact ⟨_, _, rfl, HO.out, hw1⟩
end Go.Proofs.Ytbljoknlphaimaa

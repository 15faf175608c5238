/- The contract of the reference's CanReach (a cut of XSweepL, with no search for games behind it). -/
import Derived.Test.YtbcgokpamhgabaaChecked
import Derived.Test.YtbcgokpamhgabaaKc01
import Derived.Tactics
import Derived.Tactics2
import Derived.WalkKit
import Derived.WalkSpells
import Derived.WalkLawsBesides
import Derived.Deep.QuietTactic
import Derived.BigQuiet
import Derived.BigGuardPart
import Derived.Lib.QuietBelow
import Derived.OwnWalk
import Derived.KernelRfl
import Derived.Test.YtbcgokpamhgabaaKc32
import Derived.Test.YtbcgokpamhgabaaKc26
import Derived.Test.YtbcgokpamhgabaaKc30
import Derived.Test.YtbcgokpamhgabaaKc35
namespace Go.Proofs.Ytbcgokpamhgabaa
set_option linter.unusedVariables false
set_option maxRecDepth 20000
open Go.RowKit Go.Sort

/-- Can the goal be reached? -/
def leadsB (b : Ln) (p g : Int) : Bool := pairB b p g && (bfs false (linesL b) (2 ^ (b.f.toNat * b.o.toNat)) p.toNat).getD g.toNat false
theorem leadsB_pair {b : Ln} {p g : Int} (h : leadsB b p g = true) : pairB b p g = true := by rw [leadsB, Bool.and_eq_true] at h; exact h.1
theorem leadsB_iff {w h s p g : Nat} (hb : BdOk w h s) (hO : pairB ⟨w, h, s⟩ p g = true) (hp : p < 2 ^ (w * h)) : leadsB ⟨w, h, s⟩ p g = true ↔ Leads (linesL ⟨w, h, s⟩) p g := by
  rw [leadsB, hO, Bool.true_and, getD_true]
  simp only [Int.toNat_natCast]
  exact bfs_fwd hp (stays_of hb) g
set_option maxHeartbeats 1000000 in
theorem sCanReach_ (b : Ln) (p g : Int) (hp : I64 p) (hg : I64 g) (W : World) :
    Calls Try.prog 69 #[.agg #[.int .i64 b.f, .int .i64 b.o, .int .i64 b.t], .int .i64 p, .int .i64 g] W fun e w' => e = .returned (.bool (leadsB b p g)) ∧ Below W.heap.size W w' := by
  rcases Bool.eq_false_or_eq_true (smallB b) with hS | hS
  · rcases Bool.eq_false_or_eq_true (posB b p) with hP | hP
    · rcases Bool.eq_false_or_eq_true (posB b g) with hG | hG
      · obtain ⟨w, h, s, rfl, hb, h16, s16⟩ := smallB_nat hS
        obtain ⟨q, rfl, hq⟩ := posB_nat hP
        obtain ⟨r, rfl, hr⟩ := posB_nat hG
        have hrl := posB_lt hb hr
        have hlen : (spreadL ⟨w, h, s⟩ q false).length = 2 ^ (w * h) := spreadL_len hS hP hb (posB_lt hb hq)
        have HR : Hid (leadsB ⟨w, h, s⟩ q r = (spreadL ⟨w, h, s⟩ q false).getD r false) := Lib.hid (by
          rw [leadsB, show pairB ⟨w, h, s⟩ q r = true by simp [pairB, hS, hP, hG], Bool.true_and, spreadL_yes hS hP]
          simp only [Int.toNat_natCast])
        have HS := Lib.hid (fun W' => l14Seen_ w h s q false hS hP W')
        obtain ⟨bs, hbs⟩ : ∃ x, spreadL ⟨w, h, s⟩ q false = x := ⟨_, rfl⟩
        rw [hbs] at HR HS hlen
        have r0 : (0 : Int) ≤ (r : Int) := by omega
        have r1 : (r : Int) < (bs.length : Int) := by omega
        have r2 : r < bs.length := by omega
        clear hlen hbs hq hr hrl
        go_enter Try.func69, Try.ntmps69
        go_wp2_with fail
        refine (is_ (sIsSmall_ ⟨w, h, s⟩ _) hS).mono ?_
        rintro e w1 ⟨rfl, hb1⟩
        obtain ⟨hc, hf⟩ := bcell hb1
        have z0 : W.heap.size < w1.heap.size := by have := hb1.size; (try simp at this); omega
        have hw1 : Below W.heap.size W w1 := below_step ((Below.refl _ _).alloc (Nat.le_refl _) _) hb1 (by (try simp))
        have c0 : w1.cell? ⟨W.heap.size, 0, none⟩ = some (.int .i64 w) := by rw [hc _ _ (by simp)]; simp [go_sem]
        have c1 : w1.cell? ⟨W.heap.size, 1, none⟩ = some (.int .i64 h) := by rw [hc _ _ (by simp)]; simp [go_sem]
        have c2 : w1.cell? ⟨W.heap.size, 2, none⟩ = some (.int .i64 s) := by rw [hc _ _ (by simp)]; simp [go_sem]
        clear hc hf hb1
        go_wp2_with fail
        refine (is_ (sPositionOk_ ⟨w, h, s⟩ q hp _) hP).mono ?_
        rintro e w2 ⟨rfl, hb2⟩
        replace c0 := (hb2.cell (p := ⟨W.heap.size, 0, none⟩) z0).trans c0
        replace c1 := (hb2.cell (p := ⟨W.heap.size, 1, none⟩) z0).trans c1
        replace c2 := (hb2.cell (p := ⟨W.heap.size, 2, none⟩) z0).trans c2
        have hw2 := below_next hw1 hb2
        have zw2 : W.heap.size < (w2).heap.size := by have := hb2.size; omega
        clear hb2
        go_wp2_with fail
        refine (is_ (sPositionOk_ ⟨w, h, s⟩ r hg _) hG).mono ?_
        rintro e w3 ⟨rfl, hb2⟩
        replace c0 := (hb2.cell (p := ⟨W.heap.size, 0, none⟩) zw2).trans c0
        replace c1 := (hb2.cell (p := ⟨W.heap.size, 1, none⟩) zw2).trans c1
        replace c2 := (hb2.cell (p := ⟨W.heap.size, 2, none⟩) zw2).trans c2
        have hw3 := below_next hw2 hb2
        have zw3 : W.heap.size < (w3).heap.size := by have := hb2.size; omega
        clear hb2
        go_wp2_with fail
        refine (HS.out _).mono ?_
        rintro e w4 ⟨A, c, rfl, rd, hb4⟩
        have hw4 := below_next hw3 hb4
        obtain ⟨tb, off, rfl, htb, x0⟩ := rd_bool rd r2
        generalize bs.getD r false = v at x0 HR
        go_wp2
        go_ret
        exact ⟨ret_bool HR.out.symm, hw4⟩
      · have HR : Hid (leadsB b p g = false) := Lib.hid (by simp [leadsB, pairB, hG])
        go_enter Try.func69, Try.ntmps69
        go_wp2_with fail
        refine (is_ (sIsSmall_ b _) hS).mono ?_
        rintro e w1 ⟨rfl, hb1⟩
        obtain ⟨hc, hf⟩ := bcell hb1
        have z0 : W.heap.size < w1.heap.size := by have := hb1.size; (try simp at this); omega
        have hw1 : Below W.heap.size W w1 := below_step ((Below.refl _ _).alloc (Nat.le_refl _) _) hb1 (by (try simp))
        have c0 : w1.cell? ⟨W.heap.size, 0, none⟩ = some (.int .i64 b.f) := by rw [hc _ _ (by simp)]; simp [go_sem]
        have c1 : w1.cell? ⟨W.heap.size, 1, none⟩ = some (.int .i64 b.o) := by rw [hc _ _ (by simp)]; simp [go_sem]
        have c2 : w1.cell? ⟨W.heap.size, 2, none⟩ = some (.int .i64 b.t) := by rw [hc _ _ (by simp)]; simp [go_sem]
        clear hc hf hb1
        go_wp2_with fail
        refine (is_ (sPositionOk_ b p hp _) hP).mono ?_
        rintro e w2 ⟨rfl, hb2⟩
        replace c0 := (hb2.cell (p := ⟨W.heap.size, 0, none⟩) z0).trans c0
        replace c1 := (hb2.cell (p := ⟨W.heap.size, 1, none⟩) z0).trans c1
        replace c2 := (hb2.cell (p := ⟨W.heap.size, 2, none⟩) z0).trans c2
        have hw2 := below_next hw1 hb2
        have zw2 : W.heap.size < (w2).heap.size := by have := hb2.size; omega
        clear hb2
        go_wp2_with fail
        refine (is_ (sPositionOk_ b g hg _) hG).mono ?_
        rintro e w3 ⟨rfl, hb2⟩
        replace c0 := (hb2.cell (p := ⟨W.heap.size, 0, none⟩) zw2).trans c0
        replace c1 := (hb2.cell (p := ⟨W.heap.size, 1, none⟩) zw2).trans c1
        replace c2 := (hb2.cell (p := ⟨W.heap.size, 2, none⟩) zw2).trans c2
        have hw3 := below_next hw2 hb2
        have zw3 : W.heap.size < (w3).heap.size := by have := hb2.size; omega
        clear hb2
        go_wp2
        go_ret
        exact ⟨ret_bool HR.out.symm, hw3⟩
    · have HR : Hid (leadsB b p g = false) := Lib.hid (by simp [leadsB, pairB, hP])
      go_enter Try.func69, Try.ntmps69
      go_wp2_with fail
      refine (is_ (sIsSmall_ b _) hS).mono ?_
      rintro e w1 ⟨rfl, hb1⟩
      obtain ⟨hc, hf⟩ := bcell hb1
      have z0 : W.heap.size < w1.heap.size := by have := hb1.size; (try simp at this); omega
      have hw1 : Below W.heap.size W w1 := below_step ((Below.refl _ _).alloc (Nat.le_refl _) _) hb1 (by (try simp))
      have c0 : w1.cell? ⟨W.heap.size, 0, none⟩ = some (.int .i64 b.f) := by rw [hc _ _ (by simp)]; simp [go_sem]
      have c1 : w1.cell? ⟨W.heap.size, 1, none⟩ = some (.int .i64 b.o) := by rw [hc _ _ (by simp)]; simp [go_sem]
      have c2 : w1.cell? ⟨W.heap.size, 2, none⟩ = some (.int .i64 b.t) := by rw [hc _ _ (by simp)]; simp [go_sem]
      clear hc hf hb1
      go_wp2_with fail
      refine (is_ (sPositionOk_ b p hp _) hP).mono ?_
      rintro e w2 ⟨rfl, hb2⟩
      replace c0 := (hb2.cell (p := ⟨W.heap.size, 0, none⟩) z0).trans c0
      replace c1 := (hb2.cell (p := ⟨W.heap.size, 1, none⟩) z0).trans c1
      replace c2 := (hb2.cell (p := ⟨W.heap.size, 2, none⟩) z0).trans c2
      have hw2 := below_next hw1 hb2
      have zw2 : W.heap.size < (w2).heap.size := by have := hb2.size; omega
      clear hb2
      go_wp2
      go_ret
      exact ⟨ret_bool HR.out.symm, hw2⟩
  · have HR : Hid (leadsB b p g = false) := Lib.hid (by simp [leadsB, pairB, hS])
    go_enter Try.func69, Try.ntmps69
    go_wp2_with fail
    refine (is_ (sIsSmall_ b _) hS).mono ?_
    rintro e w1 ⟨rfl, hb1⟩
    obtain ⟨hc, hf⟩ := bcell hb1
    have z0 : W.heap.size < w1.heap.size := by have := hb1.size; (try simp at this); omega
    have hw1 : Below W.heap.size W w1 := below_step ((Below.refl _ _).alloc (Nat.le_refl _) _) hb1 (by (try simp))
    have c0 : w1.cell? ⟨W.heap.size, 0, none⟩ = some (.int .i64 b.f) := by rw [hc _ _ (by simp)]; simp [go_sem]
    have c1 : w1.cell? ⟨W.heap.size, 1, none⟩ = some (.int .i64 b.o) := by rw [hc _ _ (by simp)]; simp [go_sem]
    have c2 : w1.cell? ⟨W.heap.size, 2, none⟩ = some (.int .i64 b.t) := by rw [hc _ _ (by simp)]; simp [go_sem]
    clear hc hf hb1
    go_wp2
    go_ret
    exact ⟨ret_bool HR.out.symm, hw1⟩
end Go.Proofs.Ytbcgokpamhgabaa

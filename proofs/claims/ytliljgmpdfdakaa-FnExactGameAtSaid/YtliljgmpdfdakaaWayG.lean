/- The contracts of the reference's CountGames, CountAllGames. -/
import Derived.Test.YtliljgmpdfdakaaChecked
import Derived.Test.YtliljgmpdfdakaaMem
import Derived.Tactics
import Derived.Tactics2
import Derived.WalkKit
import Derived.WalkSpells
import Derived.WalkLawsBesides
import Derived.Deep.QuietTactic
import Derived.BigQuiet
import Derived.BigGuardPart
import Derived.Lib.QuietBelow
import Derived.OwnWalk
import Derived.KernelRfl
import Derived.Test.YtliljgmpdfdakaaWayS
import Derived.Test.YtliljgmpdfdakaaWayF
set_option linter.unusedVariables false
set_option maxRecDepth 20000
namespace Go.Proofs.Ytliljgmpdfdakaa
open Go.RowKit Go.Sort

theorem reach_self {w h s q : Nat} (hb : BdOk w h s) (hS : smallB ⟨w, h, s⟩ = true) (hP : posB ⟨w, h, s⟩ q = true) (hq : q < 2 ^ (w * h)) : q ∈ reachL ⟨w, h, s⟩ q false :=
  (reachL_mem hS hP q).2 (bfs_self hq (stays_of hb))
theorem own_cell1 {w : World} {base n : Nat} {e : TypeId} {A : Option Addr} {c : Nat} {xs : List Int} (h : w.ownsRow base e 1 (.slice A n c) n (ints xs)) {k : Nat} {x : Int} (hx : xs[k]? = some x) :
    ∃ b off, A = some ⟨b, off, none⟩ ∧ b < w.heap.size ∧ w.cell? ⟨b, off + k, none⟩ = some (.int .i64 x) := by
  obtain ⟨b, off, y, hA, hb, hy, hc⟩ := (rd_of_own h).int (k := k) (List.getElem?_eq_some_iff.1 hx).1
  rw [hx] at hy
  injection hy with hy
  subst hy
  exact ⟨b, off, hA, hb, hc⟩
set_option maxHeartbeats 1000000 in
theorem sCountAllGames_ (b : Ln) (p : Int) (hp : I64 p) (W : World) :
    Calls Try.prog 11 #[.agg #[.int .i64 b.f, .int .i64 b.o, .int .i64 b.t], .int .i64 p] W fun e w' => e = .returned (.int .i64 (cntA b p)) ∧ Below W.heap.size W w' := by
  rcases Bool.eq_false_or_eq_true (smallB b) with hS | hS
  · rcases Bool.eq_false_or_eq_true (posB b p) with hP | hP
    · obtain ⟨w, h, s, rfl, hb, h16, s16⟩ := smallB_nat hS
      obtain ⟨q, rfl, hq⟩ := posB_nat hP
      have hql := posB_lt hb hq
      have HSELF := Lib.hid (reach_self hb hS hP hql)
      have HR : Hid (cntA ⟨w, h, s⟩ q = ways (linesL ⟨w, h, s⟩) (-1) (-1) q) := Lib.hid (by rw [cntA, hS, hP]; rfl)
      go_enter Try.func11, Try.ntmps11
      go_wp2_with fail
      refine (is_ (sIsSmall_ ⟨w, h, s⟩ _) hS).mono ?_
      rintro e w1 ⟨rfl, hb1⟩
      obtain ⟨hc, hf⟩ := bcell hb1
      have z0 : W.heap.size < w1.heap.size := by have := hb1.size; (try simp at this); omega
      have hw1 : Below W.heap.size W w1 := below_step ((Below.refl _ _).alloc (Nat.le_refl _) _) hb1 (by (try simp))
      have c0 : w1.cell? ⟨W.heap.size, 0, none⟩ = some (.int .i64 w) := by rw [hc _ _ (by simp)]; simp [go_sem]
      have c1 : w1.cell? ⟨W.heap.size, 1, none⟩ = some (.int .i64 h) := by rw [hc _ _ (by simp)]; simp [go_sem]
      have c2 : w1.cell? ⟨W.heap.size, 2, none⟩ = some (.int .i64 s) := by rw [hc _ _ (by simp)]; simp [go_sem]
      clear hc hf hb1
      go_wp2_with fail
      refine (is_ (sPositionOk_ ⟨w, h, s⟩ q hp _) hP).mono ?_
      rintro e w2 ⟨rfl, hb2⟩
      replace c0 := (hb2.cell (p := ⟨W.heap.size, 0, none⟩) z0).trans c0
      replace c1 := (hb2.cell (p := ⟨W.heap.size, 1, none⟩) z0).trans c1
      replace c2 := (hb2.cell (p := ⟨W.heap.size, 2, none⟩) z0).trans c2
      have hw2 := below_next hw1 hb2
      have zw2 : W.heap.size < (w2).heap.size := by have := hb2.size; omega
      clear hb2
      go_wp2_with fail
      refine (l22Ways_ w h s q (-1) (-1) hS hP _).mono ?_
      rintro e w3 ⟨A, c, out, rfl, hol, hrw, own, hb3⟩
      have hw3 := below_next hw2 hb3
      have hqv := hrw q HSELF.out
      obtain ⟨bq, oq, rfl, hbq, cq⟩ := own_cell1 own hqv
      have q0 : (0 : Int) ≤ (q : Int) := by omega
      have q1 : (q : Int) < ((2 ^ (w * h) : Nat) : Int) := by omega
      obtain ⟨N, hN⟩ : ∃ N, 2 ^ (w * h) = N := ⟨_, rfl⟩
      rw [hN] at q1 ⊢
      clear hN own
      go_wp2
      go_ret
      exact ⟨by rw [HR.out]; rfl, hw3⟩
    · have HR : Hid (cntA b p = 0) := Lib.hid (by simp [cntA, hP])
      go_enter Try.func11, Try.ntmps11
      go_wp2_with fail
      refine (is_ (sIsSmall_ b _) hS).mono ?_
      rintro e w1 ⟨rfl, hb1⟩
      obtain ⟨hc, hf⟩ := bcell hb1
      have z0 : W.heap.size < w1.heap.size := by have := hb1.size; (try simp at this); omega
      have hw1 : Below W.heap.size W w1 := below_step ((Below.refl _ _).alloc (Nat.le_refl _) _) hb1 (by (try simp))
      have c0 : w1.cell? ⟨W.heap.size, 0, none⟩ = some (.int .i64 b.f) := by rw [hc _ _ (by simp)]; simp [go_sem]
      have c1 : w1.cell? ⟨W.heap.size, 1, none⟩ = some (.int .i64 b.o) := by rw [hc _ _ (by simp)]; simp [go_sem]
      have c2 : w1.cell? ⟨W.heap.size, 2, none⟩ = some (.int .i64 b.t) := by rw [hc _ _ (by simp)]; simp [go_sem]
      clear hc hf hb1
      go_wp2_with fail
      refine (is_ (sPositionOk_ b p hp _) hP).mono ?_
      rintro e w2 ⟨rfl, hb2⟩
      replace c0 := (hb2.cell (p := ⟨W.heap.size, 0, none⟩) z0).trans c0
      replace c1 := (hb2.cell (p := ⟨W.heap.size, 1, none⟩) z0).trans c1
      replace c2 := (hb2.cell (p := ⟨W.heap.size, 2, none⟩) z0).trans c2
      have hw2 := below_next hw1 hb2
      have zw2 : W.heap.size < (w2).heap.size := by have := hb2.size; omega
      clear hb2
      go_wp2
      go_ret
      exact ⟨by rw [HR.out]; rfl, hw2⟩
  · have HR : Hid (cntA b p = 0) := Lib.hid (by simp [cntA, hS])
    go_enter Try.func11, Try.ntmps11
    go_wp2_with fail
    refine (is_ (sIsSmall_ b _) hS).mono ?_
    rintro e w1 ⟨rfl, hb1⟩
    obtain ⟨hc, hf⟩ := bcell hb1
    have z0 : W.heap.size < w1.heap.size := by have := hb1.size; (try simp at this); omega
    have hw1 : Below W.heap.size W w1 := below_step ((Below.refl _ _).alloc (Nat.le_refl _) _) hb1 (by (try simp))
    have c0 : w1.cell? ⟨W.heap.size, 0, none⟩ = some (.int .i64 b.f) := by rw [hc _ _ (by simp)]; simp [go_sem]
    have c1 : w1.cell? ⟨W.heap.size, 1, none⟩ = some (.int .i64 b.o) := by rw [hc _ _ (by simp)]; simp [go_sem]
    have c2 : w1.cell? ⟨W.heap.size, 2, none⟩ = some (.int .i64 b.t) := by rw [hc _ _ (by simp)]; simp [go_sem]
    clear hc hf hb1
    go_wp2
    go_ret
    exact ⟨by rw [HR.out]; rfl, hw1⟩
set_option maxHeartbeats 1000000 in
theorem sCountGames_ (b : Ln) (p g : Int) (hp : I64 p) (hg : I64 g) (W : World) :
    Calls Try.prog 14 #[.agg #[.int .i64 b.f, .int .i64 b.o, .int .i64 b.t], .int .i64 p, .int .i64 g] W fun e w' => e = .returned (.int .i64 (cntG b p g)) ∧ Below W.heap.size W w' := by
  rcases Bool.eq_false_or_eq_true (pairB b p g) with hO | hO
  · have hO' := hO
    simp only [pairB, Bool.and_eq_true] at hO'
    obtain ⟨⟨hS, hP⟩, hG⟩ := hO'
    obtain ⟨w, h, s, rfl, hb, h16, s16⟩ := smallB_nat hS
    obtain ⟨q, rfl, hq⟩ := posB_nat hP
    have hql := posB_lt hb hq
    have HSELF := Lib.hid (reach_self hb hS hP hql)
    have HR : Hid (cntG ⟨w, h, s⟩ q g = ways (linesL ⟨w, h, s⟩) g (-1) q) := Lib.hid (by rw [cntG, hO]; rfl)
    go_enter Try.func14, Try.ntmps14
    go_wp2_with fail
    refine (is_ (l15Ok_ ⟨w, h, s⟩ q g hp hg _) hO).mono ?_
    rintro e w1 ⟨rfl, hb1⟩
    obtain ⟨hc, hf⟩ := bcell hb1
    have z0 : W.heap.size < w1.heap.size := by have := hb1.size; (try simp at this); omega
    have hw1 : Below W.heap.size W w1 := below_step ((Below.refl _ _).alloc (Nat.le_refl _) _) hb1 (by (try simp))
    have c0 : w1.cell? ⟨W.heap.size, 0, none⟩ = some (.int .i64 w) := by rw [hc _ _ (by simp)]; simp [go_sem]
    have c1 : w1.cell? ⟨W.heap.size, 1, none⟩ = some (.int .i64 h) := by rw [hc _ _ (by simp)]; simp [go_sem]
    have c2 : w1.cell? ⟨W.heap.size, 2, none⟩ = some (.int .i64 s) := by rw [hc _ _ (by simp)]; simp [go_sem]
    clear hc hf hb1
    go_wp2_with fail
    refine (l22Ways_ w h s q g (-1) hS hP _).mono ?_
    rintro e w3 ⟨A, c, out, rfl, hol, hrw, own, hb3⟩
    have hw3 := below_next hw1 hb3
    have hqv := hrw q HSELF.out
    obtain ⟨bq, oq, rfl, hbq, cq⟩ := own_cell1 own hqv
    have q0 : (0 : Int) ≤ (q : Int) := by omega
    have q1 : (q : Int) < ((2 ^ (w * h) : Nat) : Int) := by omega
    obtain ⟨N, hN⟩ : ∃ N, 2 ^ (w * h) = N := ⟨_, rfl⟩
    rw [hN] at q1 ⊢
    clear hN own
    go_wp2
    go_ret
    exact ⟨by rw [HR.out]; rfl, hw3⟩
  · have HR : Hid (cntG b p g = 0) := Lib.hid (by simp [cntG, hO])
    go_enter Try.func14, Try.ntmps14
    go_wp2_with fail
    refine (is_ (l15Ok_ b p g hp hg _) hO).mono ?_
    rintro e w1 ⟨rfl, hb1⟩
    obtain ⟨hc, hf⟩ := bcell hb1
    have z0 : W.heap.size < w1.heap.size := by have := hb1.size; (try simp at this); omega
    have hw1 : Below W.heap.size W w1 := below_step ((Below.refl _ _).alloc (Nat.le_refl _) _) hb1 (by (try simp))
    have c0 : w1.cell? ⟨W.heap.size, 0, none⟩ = some (.int .i64 b.f) := by rw [hc _ _ (by simp)]; simp [go_sem]
    have c1 : w1.cell? ⟨W.heap.size, 1, none⟩ = some (.int .i64 b.o) := by rw [hc _ _ (by simp)]; simp [go_sem]
    have c2 : w1.cell? ⟨W.heap.size, 2, none⟩ = some (.int .i64 b.t) := by rw [hc _ _ (by simp)]; simp [go_sem]
    clear hc hf hb1
    go_wp2
    go_ret
    exact ⟨by rw [HR.out]; rfl, hw1⟩
end Go.Proofs.Ytliljgmpdfdakaa

/- The contract of the reference's l15Ok: a small board and two positions on it. The contracts of counterOf, impl.CountGames, impl.CountAllGames. The contracts of the reference's CountGames, CountAllGames. -/
import Derived.Test.YtbcgokpamhgabaaChecked
import Derived.Test.YtbcgokpamhgabaaKc01
import Derived.Tactics
import Derived.Tactics2
import Derived.WalkKit
import Derived.WalkSpells
import Derived.WalkLawsBesides
import Derived.Deep.QuietTactic
import Derived.BigQuiet
import Derived.BigGuardPart
import Derived.Lib.QuietBelow
import Derived.OwnWalk
import Derived.KernelRfl
import Derived.Test.YtbcgokpamhgabaaKc16
import Derived.Test.YtbcgokpamhgabaaKc34
import Derived.Test.YtbcgokpamhgabaaKc29
import Derived.Handy
import Derived.Test.YtbcgokpamhgabaaKc33
namespace Go.Proofs.Ytbcgokpamhgabaa
set_option linter.unusedVariables false
set_option maxRecDepth 20000
open Go.RowKit Go.Sort

/-- Two positions of a small board. -/
def pairB (b : Ln) (p g : Int) : Bool := smallB b && posB b p && posB b g
end Go.Proofs.Ytbcgokpamhgabaa
namespace Go.Proofs.Ytbcgokpamhgabaa
set_option linter.unusedVariables false
set_option maxRecDepth 20000
open Go.RowKit Go.Sort Go.Maps

theorem grown_set (w : World) (a : Addr) (u : Value) : w.grownBy (w.setCell a u) (some a.block) :=
  ⟨rfl, rfl, rfl, by simp, fun k _ hk => Below.heap_setCell w a u k (fun e => hk (by rw [e]))⟩
theorem Memo.set {w : World} {M N : Nat} {f : Nat → Int} (h : Memo w M N f) {a : Addr} (ha : M ≠ a.block) (u : Value) : Memo (w.setCell a u) M N f :=
  h.kept (grown_set w a u) (fun e => ha (by injection e))
/-- The call hands back a counter of its own. -/
def GivesCounter (w : World) (ls : List Ln) (gs av : Int) (e : Ending) (w' : World) : Prop :=
  ∃ A c M, e = .returned (.agg #[.slice A ls.length c, .int .i64 gs, .int .i64 av, .map (some M)]) ∧ Rd w' M A (flat ls) ∧ M < w'.heap.size ∧ w.heap.size ≤ M ∧ (∀ N f, Memo w' M N f) ∧ Below w.heap.size w w'
set_option maxHeartbeats 1000000 in
theorem counterOf_ (b : Ln) (gs av : Int) (W : World) :
    Calls Try.prog 146 #[.agg #[.int .i64 b.f, .int .i64 b.o, .int .i64 b.t], .int .i64 gs, .int .i64 av] W (GivesCounter W (linesL b) gs av) := by
  have hmm := @run_makeMap Try.prog
  go_enter Try.func146, Try.ntmps146
  go_wp2_with fail
  refine (iLinesOfL_ b _).mono ?_
  rintro e w1 ⟨A, k, rfl, rd, hb1, hlo⟩
  have hz := hb1.size
  simp at hz
  have hw1 : Below W.heap.size W w1 := below_step (((Below.refl _ _).alloc (Nat.le_refl _) _).alloc (by simp) _) hb1 (by simp; omega)
  obtain ⟨hc, hf⟩ := bcell hb1
  have k0 : w1.cell? ⟨W.heap.size + 1, 0, none⟩ = some (.slice none 0 0) := by rw [hc _ _ (by simp)]; simp [go_sem]
  have k1 : w1.cell? ⟨W.heap.size + 1, 1, none⟩ = some (.int .i64 0) := by rw [hc _ _ (by simp)]; simp [go_sem]
  have k2 : w1.cell? ⟨W.heap.size + 1, 2, none⟩ = some (.int .i64 0) := by rw [hc _ _ (by simp)]; simp [go_sem]
  have k3 : w1.cell? ⟨W.heap.size + 1, 3, none⟩ = some (.map none) := by rw [hc _ _ (by simp)]; simp [go_sem]
  have f0 : w1.frozen? ⟨W.heap.size + 1, 0, none⟩ = false := by rw [hf _ _ (by simp)]; simp [go_sem]
  have f1 : w1.frozen? ⟨W.heap.size + 1, 1, none⟩ = false := by rw [hf _ _ (by simp)]; simp [go_sem]
  have f2 : w1.frozen? ⟨W.heap.size + 1, 2, none⟩ = false := by rw [hf _ _ (by simp)]; simp [go_sem]
  have f3 : w1.frozen? ⟨W.heap.size + 1, 3, none⟩ = false := by rw [hf _ _ (by simp)]; simp [go_sem]
  have hz' : W.heap.size + 1 < w1.heap.size := by omega
  clear hc hf
  go_wp2
  refine bodyPost_ret (v := .agg #[.slice A (linesL b).length k, .int .i64 gs, .int .i64 av, .map (some w1.heap.size)]) (by simp [results, Try.results146, go_sem, *]) rfl ⟨A, k, w1.heap.size, rfl, ?_, by simp, by omega, ?_, ?_⟩
  · intro hn
    obtain ⟨bb, off, e, hbb, hcc⟩ := rd hn
    have hl := hlo _ e
    simp at hl
    have hG : w1.grownBy _ (some (W.heap.size + 1)) := grown_alloc (grown_then (grown_then (grown_then (grown_set w1 ⟨W.heap.size + 1, 0, none⟩ (.slice A (linesL b).length k)) (grown_set _ ⟨W.heap.size + 1, 1, none⟩ (.int .i64 gs))) (grown_set _ ⟨W.heap.size + 1, 2, none⟩ (.int .i64 av))) (grown_set _ ⟨W.heap.size + 1, 3, none⟩ (.map (some w1.heap.size)))) (.map #[] 0)
    exact ⟨bb, off, e, hbb, fun j u hu => (World.cell?_of_block (a := ⟨bb, off + j, none⟩) (hG.block bb hbb (fun h => by injection h with h; omega))).trans (hcc j u hu)⟩
  · intro N f
    have := Memo.made ((((w1.setCell ⟨W.heap.size + 1, 0, none⟩ (.slice A (linesL b).length k)).setCell ⟨W.heap.size + 1, 1, none⟩ (.int .i64 gs)).setCell ⟨W.heap.size + 1, 2, none⟩ (.int .i64 av)).setCell ⟨W.heap.size + 1, 3, none⟩ (.map (some w1.heap.size))) N f
    simpa using this
  · exact ((((hw1.setCell (by simp) _).setCell (by simp) _).setCell (by simp) _).setCell (by simp) _).alloc (by simp; omega) _
def cntA (b : Ln) (p : Int) : Int := if smallB b && posB b p then ways (linesL b) (-1) (-1) p.toNat else 0
def cntG (b : Ln) (p g : Int) : Int := if pairB b p g then ways (linesL b) g (-1) p.toNat else 0
/-- count on a counter just made. -/
theorem count_new {w h s : Nat} (hb : BdOk w h s) (h16 : w * h ≤ 16) {q : Nat} (hq : q < 2 ^ (w * h)) (gs av : Int) {W' : World} {A : Option Addr} {c M : Nat}
    (rd : Rd W' M A (flat (linesL ⟨w, h, s⟩))) (hM : M < W'.heap.size) (hm : ∀ N f, Memo W' M N f) :
    Calls Try.prog 147 #[.agg #[.slice A (linesL ⟨w, h, s⟩).length c, .int .i64 gs, .int .i64 av, .map (some M)], .int .i64 q] W' fun e w' =>
      e = .returned (.int .i64 (ways (linesL ⟨w, h, s⟩) gs av q)) ∧ Memo w' M (2 ^ (w * h)) (ways (linesL ⟨w, h, s⟩) gs av) ∧ W'.grownBy w' (some M) :=
  count_ (linesL ⟨w, h, s⟩) A c gs av M (2 ^ (w * h)) (Nat.pow_le_pow_right (n := 2) (j := 16) (by omega) h16) (stays_of hb) (lsFo_of hb) (linesL_le _) (popc q) q rfl hq W' rd hM (hm _ _)
set_option maxHeartbeats 1000000 in
theorem iCountAllGames_ (b : Ln) (p : Int) (hp : I64 p) (W : World) :
    Calls Try.prog 92 #[.agg #[.int .i64 b.f, .int .i64 b.o, .int .i64 b.t], .int .i64 p] W fun e w' => e = .returned (.int .i64 (cntA b p)) ∧ Below W.heap.size W w' := by
  rcases Bool.eq_false_or_eq_true (smallB b) with hS | hS
  · rcases Bool.eq_false_or_eq_true (posB b p) with hP | hP
    · obtain ⟨w, h, s, rfl, hb, h16, s16⟩ := smallB_nat hS
      obtain ⟨q, rfl, hq⟩ := posB_nat hP
      have hql := posB_lt hb hq
      have HR : Hid (cntA ⟨w, h, s⟩ q = ways (linesL ⟨w, h, s⟩) (-1) (-1) q) := Lib.hid (by rw [cntA, hS, hP]; rfl)
      go_enter Try.func92, Try.ntmps92
      go_wp2_with fail
      refine (is_ (iIsSmall_ ⟨w, h, s⟩ _) hS).mono ?_
      rintro e w1 ⟨rfl, hb1⟩
      obtain ⟨hc, hf⟩ := bcell hb1
      have z0 : W.heap.size < w1.heap.size := by have := hb1.size; (try simp at this); omega
      have hw1 : Below W.heap.size W w1 := below_step ((Below.refl _ _).alloc (Nat.le_refl _) _) hb1 (by (try simp))
      have c0 : w1.cell? ⟨W.heap.size, 0, none⟩ = some (.int .i64 w) := by rw [hc _ _ (by simp)]; simp [go_sem]
      have c1 : w1.cell? ⟨W.heap.size, 1, none⟩ = some (.int .i64 h) := by rw [hc _ _ (by simp)]; simp [go_sem]
      have c2 : w1.cell? ⟨W.heap.size, 2, none⟩ = some (.int .i64 s) := by rw [hc _ _ (by simp)]; simp [go_sem]
      clear hc hf hb1
      go_wp2_with fail
      refine (is_ (iPositionOk_ ⟨w, h, s⟩ q hp _) hP).mono ?_
      rintro e w2 ⟨rfl, hb2⟩
      replace c0 := (hb2.cell (p := ⟨W.heap.size, 0, none⟩) z0).trans c0
      replace c1 := (hb2.cell (p := ⟨W.heap.size, 1, none⟩) z0).trans c1
      replace c2 := (hb2.cell (p := ⟨W.heap.size, 2, none⟩) z0).trans c2
      have hw2 := below_next hw1 hb2
      have zw2 : W.heap.size < (w2).heap.size := by have := hb2.size; omega
      clear hb2
      go_wp2_with fail
      refine (counterOf_ ⟨w, h, s⟩ (-1) (-1) _).mono ?_
      rintro e w3 ⟨A, k, M, rfl, rd, hM, hlo, hm, hb3⟩
      have hw3 := below_next hw2 hb3
      go_wp2_with fail
      refine (count_new hb h16 hql (-1) (-1) rd hM hm).mono ?_
      rintro e w4 ⟨rfl, -, hg⟩
      go_wp2
      go_ret
      exact ⟨by rw [HR.out]; rfl, hw3.grown hg (by have := hw2.size; omega) (fun k hk => by injection hk with hk; have := hw2.size; omega)⟩
    · have HR : Hid (cntA b p = 0) := Lib.hid (by simp [cntA, hP])
      go_enter Try.func92, Try.ntmps92
      go_wp2_with fail
      refine (is_ (iIsSmall_ b _) hS).mono ?_
      rintro e w1 ⟨rfl, hb1⟩
      obtain ⟨hc, hf⟩ := bcell hb1
      have z0 : W.heap.size < w1.heap.size := by have := hb1.size; (try simp at this); omega
      have hw1 : Below W.heap.size W w1 := below_step ((Below.refl _ _).alloc (Nat.le_refl _) _) hb1 (by (try simp))
      have c0 : w1.cell? ⟨W.heap.size, 0, none⟩ = some (.int .i64 b.f) := by rw [hc _ _ (by simp)]; simp [go_sem]
      have c1 : w1.cell? ⟨W.heap.size, 1, none⟩ = some (.int .i64 b.o) := by rw [hc _ _ (by simp)]; simp [go_sem]
      have c2 : w1.cell? ⟨W.heap.size, 2, none⟩ = some (.int .i64 b.t) := by rw [hc _ _ (by simp)]; simp [go_sem]
      clear hc hf hb1
      go_wp2_with fail
      refine (is_ (iPositionOk_ b p hp _) hP).mono ?_
      rintro e w2 ⟨rfl, hb2⟩
      replace c0 := (hb2.cell (p := ⟨W.heap.size, 0, none⟩) z0).trans c0
      replace c1 := (hb2.cell (p := ⟨W.heap.size, 1, none⟩) z0).trans c1
      replace c2 := (hb2.cell (p := ⟨W.heap.size, 2, none⟩) z0).trans c2
      have hw2 := below_next hw1 hb2
      have zw2 : W.heap.size < (w2).heap.size := by have := hb2.size; omega
      clear hb2
      go_wp2
      go_ret
      exact ⟨by rw [HR.out]; rfl, hw2⟩
  · have HR : Hid (cntA b p = 0) := Lib.hid (by simp [cntA, hS])
    go_enter Try.func92, Try.ntmps92
    go_wp2_with fail
    refine (is_ (iIsSmall_ b _) hS).mono ?_
    rintro e w1 ⟨rfl, hb1⟩
    obtain ⟨hc, hf⟩ := bcell hb1
    have z0 : W.heap.size < w1.heap.size := by have := hb1.size; (try simp at this); omega
    have hw1 : Below W.heap.size W w1 := below_step ((Below.refl _ _).alloc (Nat.le_refl _) _) hb1 (by (try simp))
    have c0 : w1.cell? ⟨W.heap.size, 0, none⟩ = some (.int .i64 b.f) := by rw [hc _ _ (by simp)]; simp [go_sem]
    have c1 : w1.cell? ⟨W.heap.size, 1, none⟩ = some (.int .i64 b.o) := by rw [hc _ _ (by simp)]; simp [go_sem]
    have c2 : w1.cell? ⟨W.heap.size, 2, none⟩ = some (.int .i64 b.t) := by rw [hc _ _ (by simp)]; simp [go_sem]
    clear hc hf hb1
    go_wp2
    go_ret
    exact ⟨by rw [HR.out]; rfl, hw1⟩
set_option maxHeartbeats 1000000 in
theorem iCountGames_ (b : Ln) (p g : Int) (hp : I64 p) (hg : I64 g) (W : World) :
    Calls Try.prog 86 #[.agg #[.int .i64 b.f, .int .i64 b.o, .int .i64 b.t], .int .i64 p, .int .i64 g] W fun e w' => e = .returned (.int .i64 (cntG b p g)) ∧ Below W.heap.size W w' := by
  rcases Bool.eq_false_or_eq_true (smallB b) with hS | hS
  · rcases Bool.eq_false_or_eq_true (posB b p) with hP | hP
    · rcases Bool.eq_false_or_eq_true (posB b g) with hG | hG
      · obtain ⟨w, h, s, rfl, hb, h16, s16⟩ := smallB_nat hS
        obtain ⟨q, rfl, hq⟩ := posB_nat hP
        have hql := posB_lt hb hq
        have HR : Hid (cntG ⟨w, h, s⟩ q g = ways (linesL ⟨w, h, s⟩) g (-1) q) := Lib.hid (by rw [cntG, pairB, hS, hP, hG]; rfl)
        go_enter Try.func86, Try.ntmps86
        go_wp2_with fail
        refine (is_ (iIsSmall_ ⟨w, h, s⟩ _) hS).mono ?_
        rintro e w1 ⟨rfl, hb1⟩
        obtain ⟨hc, hf⟩ := bcell hb1
        have z0 : W.heap.size < w1.heap.size := by have := hb1.size; (try simp at this); omega
        have hw1 : Below W.heap.size W w1 := below_step ((Below.refl _ _).alloc (Nat.le_refl _) _) hb1 (by (try simp))
        have c0 : w1.cell? ⟨W.heap.size, 0, none⟩ = some (.int .i64 w) := by rw [hc _ _ (by simp)]; simp [go_sem]
        have c1 : w1.cell? ⟨W.heap.size, 1, none⟩ = some (.int .i64 h) := by rw [hc _ _ (by simp)]; simp [go_sem]
        have c2 : w1.cell? ⟨W.heap.size, 2, none⟩ = some (.int .i64 s) := by rw [hc _ _ (by simp)]; simp [go_sem]
        clear hc hf hb1
        go_wp2_with fail
        refine (is_ (iPositionOk_ ⟨w, h, s⟩ q hp _) hP).mono ?_
        rintro e w2 ⟨rfl, hb2⟩
        replace c0 := (hb2.cell (p := ⟨W.heap.size, 0, none⟩) z0).trans c0
        replace c1 := (hb2.cell (p := ⟨W.heap.size, 1, none⟩) z0).trans c1
        replace c2 := (hb2.cell (p := ⟨W.heap.size, 2, none⟩) z0).trans c2
        have hw2 := below_next hw1 hb2
        have zw2 : W.heap.size < (w2).heap.size := by have := hb2.size; omega
        clear hb2
        go_wp2_with fail
        refine (is_ (iPositionOk_ ⟨w, h, s⟩ g hg _) hG).mono ?_
        rintro e w2' ⟨rfl, hb2⟩
        replace c0 := (hb2.cell (p := ⟨W.heap.size, 0, none⟩) zw2).trans c0
        replace c1 := (hb2.cell (p := ⟨W.heap.size, 1, none⟩) zw2).trans c1
        replace c2 := (hb2.cell (p := ⟨W.heap.size, 2, none⟩) zw2).trans c2
        have hw2' := below_next hw2 hb2
        have zw2' : W.heap.size < (w2').heap.size := by have := hb2.size; omega
        clear hb2
        go_wp2_with fail
        refine (counterOf_ ⟨w, h, s⟩ g (-1) _).mono ?_
        rintro e w3 ⟨A, k, M, rfl, rd, hM, hlo, hm, hb3⟩
        have hw3 := below_next hw2' hb3
        go_wp2_with fail
        refine (count_new hb h16 hql g (-1) rd hM hm).mono ?_
        rintro e w4 ⟨rfl, -, hg⟩
        go_wp2
        go_ret
        exact ⟨by rw [HR.out]; rfl, hw3.grown hg (by have := hw2'.size; omega) (fun k hk => by injection hk with hk; have := hw2'.size; omega)⟩
      · have HR : Hid (cntG b p g = 0) := Lib.hid (by simp [cntG, pairB, hG])
        go_enter Try.func86, Try.ntmps86
        go_wp2_with fail
        refine (is_ (iIsSmall_ b _) hS).mono ?_
        rintro e w1 ⟨rfl, hb1⟩
        obtain ⟨hc, hf⟩ := bcell hb1
        have z0 : W.heap.size < w1.heap.size := by have := hb1.size; (try simp at this); omega
        have hw1 : Below W.heap.size W w1 := below_step ((Below.refl _ _).alloc (Nat.le_refl _) _) hb1 (by (try simp))
        have c0 : w1.cell? ⟨W.heap.size, 0, none⟩ = some (.int .i64 b.f) := by rw [hc _ _ (by simp)]; simp [go_sem]
        have c1 : w1.cell? ⟨W.heap.size, 1, none⟩ = some (.int .i64 b.o) := by rw [hc _ _ (by simp)]; simp [go_sem]
        have c2 : w1.cell? ⟨W.heap.size, 2, none⟩ = some (.int .i64 b.t) := by rw [hc _ _ (by simp)]; simp [go_sem]
        clear hc hf hb1
        go_wp2_with fail
        refine (is_ (iPositionOk_ b p hp _) hP).mono ?_
        rintro e w2 ⟨rfl, hb2⟩
        replace c0 := (hb2.cell (p := ⟨W.heap.size, 0, none⟩) z0).trans c0
        replace c1 := (hb2.cell (p := ⟨W.heap.size, 1, none⟩) z0).trans c1
        replace c2 := (hb2.cell (p := ⟨W.heap.size, 2, none⟩) z0).trans c2
        have hw2 := below_next hw1 hb2
        have zw2 : W.heap.size < (w2).heap.size := by have := hb2.size; omega
        clear hb2
        go_wp2_with fail
        refine (is_ (iPositionOk_ b g hg _) hG).mono ?_
        rintro e w2' ⟨rfl, hb2⟩
        replace c0 := (hb2.cell (p := ⟨W.heap.size, 0, none⟩) zw2).trans c0
        replace c1 := (hb2.cell (p := ⟨W.heap.size, 1, none⟩) zw2).trans c1
        replace c2 := (hb2.cell (p := ⟨W.heap.size, 2, none⟩) zw2).trans c2
        have hw2' := below_next hw2 hb2
        have zw2' : W.heap.size < (w2').heap.size := by have := hb2.size; omega
        clear hb2
        go_wp2
        go_ret
        exact ⟨by rw [HR.out]; rfl, hw2'⟩
    · have HR : Hid (cntG b p g = 0) := Lib.hid (by simp [cntG, pairB, hP])
      go_enter Try.func86, Try.ntmps86
      go_wp2_with fail
      refine (is_ (iIsSmall_ b _) hS).mono ?_
      rintro e w1 ⟨rfl, hb1⟩
      obtain ⟨hc, hf⟩ := bcell hb1
      have z0 : W.heap.size < w1.heap.size := by have := hb1.size; (try simp at this); omega
      have hw1 : Below W.heap.size W w1 := below_step ((Below.refl _ _).alloc (Nat.le_refl _) _) hb1 (by (try simp))
      have c0 : w1.cell? ⟨W.heap.size, 0, none⟩ = some (.int .i64 b.f) := by rw [hc _ _ (by simp)]; simp [go_sem]
      have c1 : w1.cell? ⟨W.heap.size, 1, none⟩ = some (.int .i64 b.o) := by rw [hc _ _ (by simp)]; simp [go_sem]
      have c2 : w1.cell? ⟨W.heap.size, 2, none⟩ = some (.int .i64 b.t) := by rw [hc _ _ (by simp)]; simp [go_sem]
      clear hc hf hb1
      go_wp2_with fail
      refine (is_ (iPositionOk_ b p hp _) hP).mono ?_
      rintro e w2 ⟨rfl, hb2⟩
      replace c0 := (hb2.cell (p := ⟨W.heap.size, 0, none⟩) z0).trans c0
      replace c1 := (hb2.cell (p := ⟨W.heap.size, 1, none⟩) z0).trans c1
      replace c2 := (hb2.cell (p := ⟨W.heap.size, 2, none⟩) z0).trans c2
      have hw2 := below_next hw1 hb2
      have zw2 : W.heap.size < (w2).heap.size := by have := hb2.size; omega
      clear hb2
      go_wp2
      go_ret
      exact ⟨by rw [HR.out]; rfl, hw2⟩
  · have HR : Hid (cntG b p g = 0) := Lib.hid (by simp [cntG, pairB, hS])
    go_enter Try.func86, Try.ntmps86
    go_wp2_with fail
    refine (is_ (iIsSmall_ b _) hS).mono ?_
    rintro e w1 ⟨rfl, hb1⟩
    obtain ⟨hc, hf⟩ := bcell hb1
    have z0 : W.heap.size < w1.heap.size := by have := hb1.size; (try simp at this); omega
    have hw1 : Below W.heap.size W w1 := below_step ((Below.refl _ _).alloc (Nat.le_refl _) _) hb1 (by (try simp))
    have c0 : w1.cell? ⟨W.heap.size, 0, none⟩ = some (.int .i64 b.f) := by rw [hc _ _ (by simp)]; simp [go_sem]
    have c1 : w1.cell? ⟨W.heap.size, 1, none⟩ = some (.int .i64 b.o) := by rw [hc _ _ (by simp)]; simp [go_sem]
    have c2 : w1.cell? ⟨W.heap.size, 2, none⟩ = some (.int .i64 b.t) := by rw [hc _ _ (by simp)]; simp [go_sem]
    clear hc hf hb1
    go_wp2
    go_ret
    exact ⟨by rw [HR.out]; rfl, hw1⟩
end Go.Proofs.Ytbcgokpamhgabaa
namespace Go.Proofs.Ytbcgokpamhgabaa
set_option linter.unusedVariables false
set_option maxRecDepth 20000
open Go.RowKit Go.Sort

theorem reach_self {w h s q : Nat} (hb : BdOk w h s) (hS : smallB ⟨w, h, s⟩ = true) (hP : posB ⟨w, h, s⟩ q = true) (hq : q < 2 ^ (w * h)) : q ∈ reachL ⟨w, h, s⟩ q false :=
  (reachL_mem hS hP q).2 (bfs_self hq (stays_of hb))
theorem own_cell1 {w : World} {base n : Nat} {e : TypeId} {A : Option Addr} {c : Nat} {xs : List Int} (h : w.ownsRow base e 1 (.slice A n c) n (ints xs)) {k : Nat} {x : Int} (hx : xs[k]? = some x) :
    ∃ b off, A = some ⟨b, off, none⟩ ∧ b < w.heap.size ∧ w.cell? ⟨b, off + k, none⟩ = some (.int .i64 x) := by
  obtain ⟨b, off, y, hA, hb, hy, hc⟩ := (rd_of_own h).int (k := k) (List.getElem?_eq_some_iff.1 hx).1
  rw [hx] at hy
  injection hy with hy
  subst hy
  exact ⟨b, off, hA, hb, hc⟩
end Go.Proofs.Ytbcgokpamhgabaa

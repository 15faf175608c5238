/- The contracts of RowOfThree. -/
import Derived.Test.YtbcgokpamhgabaaChecked
import Derived.Test.YtbcgokpamhgabaaMem
import Derived.Tactics
import Derived.Tactics2
import Derived.WalkKit
import Derived.WalkSpells
import Derived.WalkLawsBesides
import Derived.Deep.QuietTactic
import Derived.BigQuiet
import Derived.BigGuardPart
import Derived.Lib.QuietBelow
import Derived.OwnWalk
import Derived.KernelRfl
import Derived.Test.YtbcgokpamhgabaaPackB
import Derived.Test.YtbcgokpamhgabaaRowP
set_option linter.unusedVariables false
set_option maxRecDepth 20000
namespace Go.Proofs.Ytbcgokpamhgabaa
open Go.RowKit Go.Sort

def rM (b : Ln) (k way : Int) : Int := besI b k way.toNat
def rN (b : Ln) (k way : Int) : Int := besI b (rM b k way) way.toNat
def rU (b : Ln) (k way : Int) : Int := besI b k ((way.toNat + 1) % 4)
def rV (b : Ln) (k way : Int) : Int := besI b k ((way.toNat + 3) % 4)
def rowOk (b : Ln) (k way : Int) : Bool := inB way 0 3 && (decide (0 ≤ rM b k way) && (decide (0 ≤ rN b k way) && (decide (0 ≤ rU b k way) && decide (0 ≤ rV b k way))))
def rPos (b : Ln) (k way : Int) : Int := if rowOk b k way then (rowP k.toNat (rM b k way).toNat (rN b k way).toNat (rU b k way).toNat : Nat) else 0
def rJs (b : Ln) (k way : Int) : List Ln := rowJ k.toNat (rM b k way).toNat (rN b k way).toNat (rU b k way).toNat (rV b k way).toNat
def rNeed (b : Ln) (k way : Int) : Int := if rowOk b k way then packN b (rPos b k way) (rJs b k way) else 0
def rGone (b : Ln) (k way : Int) : Int := if rowOk b k way then packG b (rPos b k way) (rJs b k way) else 0
def rLs (b : Ln) (k way : Int) : List Ln := if rowOk b k way then packL b (rPos b k way) (rJs b k way) else []
theorem rLs_le (b : Ln) (k way : Int) : (rLs b k way).length ≤ 60 := by
  unfold rLs
  split
  · exact pack_le
  · simp
theorem besI_nat {b : Ln} {k : Int} {way : Nat} (h : 0 ≤ besI b k way) : ∃ w hh s q m : Nat, b = ⟨w, hh, s⟩ ∧ k = q ∧ BdOk w hh s ∧ q < w * hh ∧ s.testBit q = true ∧ besI b k way = m ∧ bes w hh s q way = m ∧ m < w * hh ∧ s.testBit m = true := by
  rcases Bool.eq_false_or_eq_true (holeB b k) with hB | hB
  · obtain ⟨w, hh, s, q, rfl, rfl, hb, hq, hs⟩ := holeB_open hB
    rw [besI_yes hB] at h ⊢
    obtain ⟨m, e, m1, m2, -⟩ := bes_hole hb h
    exact ⟨w, hh, s, q, m, rfl, rfl, hb, hq, hs, e, e, m1, m2⟩
  · rw [besI_no hB] at h; omega
theorem row_of {b : Ln} {k : Int} {way : Nat} (hw : way < 4) (h1 : 0 ≤ rM b k way) (h2 : 0 ≤ rN b k way) (h3 : 0 ≤ rU b k way) (h4 : 0 ≤ rV b k way) :
    ∃ w h s q m n u v : Nat, b = ⟨w, h, s⟩ ∧ k = q ∧ rM b k way = m ∧ rN b k way = n ∧ rU b k way = u ∧ rV b k way = v ∧ Row w h s q m n u v way ∧ m < w * h ∧ n < w * h ∧ u < w * h ∧ v < w * h := by
  obtain ⟨w, h, s, q, m, rfl, rfl, hb, hq, hs, e1, e1', m1, m2⟩ := besI_nat h1
  have eM : rM ⟨w, h, s⟩ q way = m := by rw [rM, Int.toNat_natCast]; exact e1
  have h2' := h2
  unfold rN at h2'
  rw [eM] at h2'
  obtain ⟨w', h', s', q', n, hbe, he, _, _, _, e2, e2', n1, n2⟩ := besI_nat h2'
  rw [Ln.ext_iff'] at hbe
  simp only at hbe
  obtain ⟨a1, a2, a3⟩ := hbe
  have a1 : w = w' := by omega
  have a2 : h = h' := by omega
  have a3 : s = s' := by omega
  have a4 : m = q' := by omega
  subst a1 a2 a3 a4
  have eN : rN ⟨w, h, s⟩ q way = n := by rw [rN, eM]; exact e2
  obtain ⟨w', h', s', q', u, hbe, he, _, _, _, e3, e3', u1, u2⟩ := besI_nat h3
  rw [Ln.ext_iff'] at hbe
  simp only at hbe
  obtain ⟨a1, a2, a3⟩ := hbe
  have a1 : w = w' := by omega
  have a2 : h = h' := by omega
  have a3 : s = s' := by omega
  have a4 : q = q' := by omega
  subst a1 a2 a3 a4
  obtain ⟨w', h', s', q', v, hbe, he, _, _, _, e4, e4', v1, v2⟩ := besI_nat h4
  rw [Ln.ext_iff'] at hbe
  simp only at hbe
  obtain ⟨a1, a2, a3⟩ := hbe
  have a1 : w = w' := by omega
  have a2 : h = h' := by omega
  have a3 : s = s' := by omega
  have a4 : q = q' := by omega
  subst a1 a2 a3 a4
  rw [Int.toNat_natCast] at e1' e2' e3' e4'
  exact ⟨w, h, s, q, m, n, u, v, rfl, rfl, eM, eN, e3, e4, ⟨hb, hw, hq, hs, e1', e2', e3', e4'⟩, m1, n1, u1, v1⟩
theorem rd_lit (w : World) (cs : Array Value) (t : TypeId) : Rd (w.alloc (.cells cs t)) (w.alloc (.cells cs t)).heap.size (some ⟨w.heap.size, 0, none⟩) cs.toList := fun _ =>
  ⟨w.heap.size, 0, rfl, by simp, fun j u hu => by
    have := World.news_of_block (cs := cs) (t := t) (fr := (0, 0)) (heap_alloc_new w (Obj.cells cs t)) j u hu
    rwa [Addr.add_lit] at this⟩
theorem rd_drewN {w : World} {B : Nat} {A : Option Addr} {xs : List Value} (h : Rd w B A xs) (n : Nat) : Rd (w.drewN n) B A xs := h
theorem rowOk_neg {b : Ln} {k way : Int} (h : rM b k way < 0 ∨ rN b k way < 0 ∨ rU b k way < 0 ∨ rV b k way < 0) : rowOk b k way = false := by
  rw [Bool.eq_false_iff]
  intro hh
  simp only [rowOk, Bool.and_eq_true, decide_eq_true_eq] at hh
  omega
theorem rowOk_in {b : Ln} {k way : Int} (h : inB way 0 3 = false) : rowOk b k way = false := by simp [rowOk, h]

/-- A package, a position and a Bool are handed back; the package's jumps are a slice of the call's own. -/
def GivesRow (w : World) (T : TypeId) (n g : Int) (js : List Ln) (p : Int) (ok : Bool) (e : Ending) (w' : World) : Prop :=
  ∃ A c, e = .returned (.tuple #[.agg #[.int .i64 n, .int .i64 g, .slice A js.length c], .int .i64 p, .bool ok]) ∧ w'.ownsRow w.heap.size T 3 (.slice A js.length c) js.length (flat js) ∧ Below w.heap.size w w'
set_option maxHeartbeats 4000000 in
theorem iRowOfThree_ (b : Ln) (k way : Int) (hk : I64 k) (hway : I64 way) (W : World) :
    Calls Try.prog 55 #[.agg #[.int .i64 b.f, .int .i64 b.o, .int .i64 b.t], .int .i64 k, .int .i64 way] W (GivesRow W 34 (rNeed b k way) (rGone b k way) (rLs b k way) (rPos b k way) (rowOk b k way)) := by
  rcases Bool.eq_false_or_eq_true (inB way 0 3) with i1 | i1
  · obtain ⟨wn, rfl⟩ := Int.eq_ofNat_of_zero_le (inB_iff.1 i1).1
    have hw4 : wn < 4 := by have := (inB_iff.1 i1).2; omega
    obtain ⟨y1, hy1⟩ : ∃ y : Nat, y = (wn + 1) % 4 := ⟨_, rfl⟩
    obtain ⟨y3, hy3⟩ : ∃ y : Nat, y = (wn + 3) % 4 := ⟨_, rfl⟩
    have m1 : ((wn : Int) + 1) % 4 = (y1 : Int) := by omega
    have m3 : ((wn : Int) + 3) % 4 = (y3 : Int) := by omega
    have ly1 : y1 < 4 := by omega
    have ly3 : y3 < 4 := by omega
    have hM := besI_bound (b := b) (k := k) (way := wn)
    have EM : Hid (rM b k wn = besI b k wn) := Lib.hid (by rw [rM, Int.toNat_natCast])
    have EU : Hid (rU b k wn = besI b k y1) := Lib.hid (by rw [rU, Int.toNat_natCast, hy1])
    have EV : Hid (rV b k wn = besI b k y3) := Lib.hid (by rw [rV, Int.toNat_natCast, hy3])
    have EN : Hid (rN b k wn = besI b (rM b k wn) wn) := Lib.hid (by rw [rN, Int.toNat_natCast])
    clear hy1 hy3
    go_enter Try.func55, Try.ntmps55
    go_wp2_with (go_at_call 120; refine (within_ _ _ _ _).mono ?_; rintro e w' ⟨rfl, rfl⟩)
    refine (beside_ b k wn hk hw4 _).mono ?_
    rintro e W1 ⟨rfl, hb1⟩
    obtain ⟨hc, hf⟩ := bcell hb1
    have hz : W.heap.size + 2 ≤ W1.heap.size := by have := hb1.size; simpa using this
    have hW1 : Below W.heap.size W W1 := below_step (((Below.refl _ _).alloc (Nat.le_refl _) _).alloc (by simp) _) hb1 (by simp; omega)
    have bb0 : W1.cell? ⟨W.heap.size, 0, none⟩ = some (.int .i64 b.f) := by rw [hc _ _ (by simp; try omega)]; simp [go_sem]
    have bb1 : W1.cell? ⟨W.heap.size, 1, none⟩ = some (.int .i64 b.o) := by rw [hc _ _ (by simp; try omega)]; simp [go_sem]
    have bb2 : W1.cell? ⟨W.heap.size, 2, none⟩ = some (.int .i64 b.t) := by rw [hc _ _ (by simp; try omega)]; simp [go_sem]
    have br0 : W1.cell? ⟨W.heap.size + 1, 0, none⟩ = some (.int .i64 0) := by rw [hc _ _ (by simp)]; simp [go_sem]
    have br1 : W1.cell? ⟨W.heap.size + 1, 1, none⟩ = some (.int .i64 0) := by rw [hc _ _ (by simp)]; simp [go_sem]
    have br2 : W1.cell? ⟨W.heap.size + 1, 2, none⟩ = some (.slice none 0 0) := by rw [hc _ _ (by simp)]; simp [go_sem]
    have bz0 : W1.frozen? ⟨W.heap.size + 1, 0, none⟩ = false := by rw [hf _ _ (by simp)]; simp [go_sem]
    have bz1 : W1.frozen? ⟨W.heap.size + 1, 1, none⟩ = false := by rw [hf _ _ (by simp)]; simp [go_sem]
    have bz2 : W1.frozen? ⟨W.heap.size + 1, 2, none⟩ = false := by rw [hf _ _ (by simp)]; simp [go_sem]
    have hz1 : W.heap.size + 1 < W1.heap.size := by omega
    have hz0 : W.heap.size < W1.heap.size := by omega
    have B0 := Lib.hid bb0
    have B1 := Lib.hid bb1
    have B2 := Lib.hid bb2
    have R0 := Lib.hid br0
    have R1 := Lib.hid br1
    have R2 := Lib.hid br2
    have Z0 := Lib.hid bz0
    have Z1 := Lib.hid bz1
    have Z2 := Lib.hid bz2
    clear hc hf hb1 bb0 bb1 bb2 br0 br1 br2 bz0 bz1 bz2
    rw [← EM.out] at hM ⊢
    generalize hMe : rM b k wn = M at hM EN ⊢
    have HMe := Lib.hid hMe
    clear hMe EM
    obtain ⟨M1, M2⟩ := hM
    have c0 := ((Below.refl W1.heap.size W1).cell (p := ⟨W.heap.size, 0, none⟩) hz0).trans B0.out
    have c1 := ((Below.refl W1.heap.size W1).cell (p := ⟨W.heap.size, 1, none⟩) hz0).trans B1.out
    have c2 := ((Below.refl W1.heap.size W1).cell (p := ⟨W.heap.size, 2, none⟩) hz0).trans B2.out
    have c3 := ((Below.refl W1.heap.size W1).cell (p := ⟨W.heap.size + 1, 0, none⟩) hz1).trans R0.out
    have c4 := ((Below.refl W1.heap.size W1).cell (p := ⟨W.heap.size + 1, 1, none⟩) hz1).trans R1.out
    have c5 := ((Below.refl W1.heap.size W1).cell (p := ⟨W.heap.size + 1, 2, none⟩) hz1).trans R2.out
    have c6 := ((Below.refl W1.heap.size W1).frozen (p := ⟨W.heap.size + 1, 0, none⟩) hz1).trans Z0.out
    have c7 := ((Below.refl W1.heap.size W1).frozen (p := ⟨W.heap.size + 1, 1, none⟩) hz1).trans Z1.out
    have c8 := ((Below.refl W1.heap.size W1).frozen (p := ⟨W.heap.size + 1, 2, none⟩) hz1).trans Z2.out
    have c9 : W.heap.size + 1 < W1.heap.size := by have := (Below.refl W1.heap.size W1).size; omega
    go_wp2_with fail
    refine (beside_ b M wn (by unfold I64; omega) hw4 _).mono ?_
    rintro e W2 ⟨rfl, hb2⟩
    have hN := besI_bound (b := b) (k := M) (way := wn)
    rw [← EN.out] at hN ⊢
    generalize hNe : rN b k wn = N at hN ⊢
    have HNe := Lib.hid hNe
    obtain ⟨N1, N2⟩ := hN
    clear hNe EN c0 c1 c2 c3 c4 c5 c6 c7 c8 c9
    have d0 := (hb2.cell (p := ⟨W.heap.size, 0, none⟩) hz0).trans B0.out
    have d1 := (hb2.cell (p := ⟨W.heap.size, 1, none⟩) hz0).trans B1.out
    have d2 := (hb2.cell (p := ⟨W.heap.size, 2, none⟩) hz0).trans B2.out
    have d3 := (hb2.cell (p := ⟨W.heap.size + 1, 0, none⟩) hz1).trans R0.out
    have d4 := (hb2.cell (p := ⟨W.heap.size + 1, 1, none⟩) hz1).trans R1.out
    have d5 := (hb2.cell (p := ⟨W.heap.size + 1, 2, none⟩) hz1).trans R2.out
    have d6 := (hb2.frozen (p := ⟨W.heap.size + 1, 0, none⟩) hz1).trans Z0.out
    have d7 := (hb2.frozen (p := ⟨W.heap.size + 1, 1, none⟩) hz1).trans Z1.out
    have d8 := (hb2.frozen (p := ⟨W.heap.size + 1, 2, none⟩) hz1).trans Z2.out
    have d9 : W.heap.size + 1 < W2.heap.size := by have := hb2.size; omega
    go_wp2_with fail
    refine (beside_ b k y1 hk ly1 _).mono ?_
    rintro e W3 ⟨rfl, hb3⟩
    have h3 := below_next hb2 hb3
    have hU := besI_bound (b := b) (k := k) (way := y1)
    rw [← EU.out] at hU ⊢
    generalize hUe : rU b k wn = U at hU ⊢
    have HUe := Lib.hid hUe
    obtain ⟨U1, U2⟩ := hU
    clear hUe EU d0 d1 d2 d3 d4 d5 d6 d7 d8 d9
    have c0 := (h3.cell (p := ⟨W.heap.size, 0, none⟩) hz0).trans B0.out
    have c1 := (h3.cell (p := ⟨W.heap.size, 1, none⟩) hz0).trans B1.out
    have c2 := (h3.cell (p := ⟨W.heap.size, 2, none⟩) hz0).trans B2.out
    have c3 := (h3.cell (p := ⟨W.heap.size + 1, 0, none⟩) hz1).trans R0.out
    have c4 := (h3.cell (p := ⟨W.heap.size + 1, 1, none⟩) hz1).trans R1.out
    have c5 := (h3.cell (p := ⟨W.heap.size + 1, 2, none⟩) hz1).trans R2.out
    have c6 := (h3.frozen (p := ⟨W.heap.size + 1, 0, none⟩) hz1).trans Z0.out
    have c7 := (h3.frozen (p := ⟨W.heap.size + 1, 1, none⟩) hz1).trans Z1.out
    have c8 := (h3.frozen (p := ⟨W.heap.size + 1, 2, none⟩) hz1).trans Z2.out
    have c9 : W.heap.size + 1 < W3.heap.size := by have := h3.size; omega
    go_wp2_with fail
    refine (beside_ b k y3 hk ly3 _).mono ?_
    rintro e W4 ⟨rfl, hb4⟩
    have h4 := below_next h3 hb4
    have hV := besI_bound (b := b) (k := k) (way := y3)
    rw [← EV.out] at hV ⊢
    generalize hVe : rV b k wn = V at hV ⊢
    have HVe := Lib.hid hVe
    obtain ⟨V1, V2⟩ := hV
    clear hVe EV c0 c1 c2 c3 c4 c5 c6 c7 c8 c9
    have d0 := (h4.cell (p := ⟨W.heap.size, 0, none⟩) hz0).trans B0.out
    have d1 := (h4.cell (p := ⟨W.heap.size, 1, none⟩) hz0).trans B1.out
    have d2 := (h4.cell (p := ⟨W.heap.size, 2, none⟩) hz0).trans B2.out
    have d3 := (h4.cell (p := ⟨W.heap.size + 1, 0, none⟩) hz1).trans R0.out
    have d4 := (h4.cell (p := ⟨W.heap.size + 1, 1, none⟩) hz1).trans R1.out
    have d5 := (h4.cell (p := ⟨W.heap.size + 1, 2, none⟩) hz1).trans R2.out
    have d6 := (h4.frozen (p := ⟨W.heap.size + 1, 0, none⟩) hz1).trans Z0.out
    have d7 := (h4.frozen (p := ⟨W.heap.size + 1, 1, none⟩) hz1).trans Z1.out
    have d8 := (h4.frozen (p := ⟨W.heap.size + 1, 2, none⟩) hz1).trans Z2.out
    have d9 : W.heap.size + 1 < W4.heap.size := by have := h4.size; omega
    have hW4 := below_next hW1 h4
    by_cases a1 : M < 0
    · have hB := rowOk_neg (b := b) (k := k) (way := (wn : Int)) (by rw [HMe.out, HNe.out, HUe.out, HVe.out]; omega)
      have HB : Hid (rowOk b k (wn : Int) = false) := Lib.hid hB
      have HN : Hid (rNeed b k (wn : Int) = 0) := Lib.hid (by simp [rNeed, hB])
      have HG : Hid (rGone b k (wn : Int) = 0) := Lib.hid (by simp [rGone, hB])
      have HL : Hid (rLs b k (wn : Int) = []) := Lib.hid (by simp [rLs, hB])
      have HP : Hid (rPos b k (wn : Int) = 0) := Lib.hid (by simp [rPos, hB])
      clear hB
      go_wp2
      refine bodyPost_ret (v := .tuple #[.agg #[.int .i64 0, .int .i64 0, .slice none 0 0], .int .i64 0, .bool false]) (by simp [results, Try.results55, go_sem, *]) rfl ⟨none, 0, by rw [HB.out, HN.out, HG.out, HL.out, HP.out]; rfl, by rw [HL.out]; exact World.ownsRow_nil _ _ _ _, ?_⟩
      repeat (first | exact hW4 | exact Below.refl _ _ | refine Below.setCell ?_ (by simp) _ | refine Below.alloc ?_ (by first | exact Nat.le_refl _ | omega | (simp; omega) | simp) _)
    have g1 : decide (M < 0) = false := decide_eq_false a1
    by_cases a2 : N < 0
    · have hB := rowOk_neg (b := b) (k := k) (way := (wn : Int)) (by rw [HMe.out, HNe.out, HUe.out, HVe.out]; omega)
      have HB : Hid (rowOk b k (wn : Int) = false) := Lib.hid hB
      have HN : Hid (rNeed b k (wn : Int) = 0) := Lib.hid (by simp [rNeed, hB])
      have HG : Hid (rGone b k (wn : Int) = 0) := Lib.hid (by simp [rGone, hB])
      have HL : Hid (rLs b k (wn : Int) = []) := Lib.hid (by simp [rLs, hB])
      have HP : Hid (rPos b k (wn : Int) = 0) := Lib.hid (by simp [rPos, hB])
      clear hB
      go_wp2
      refine bodyPost_ret (v := .tuple #[.agg #[.int .i64 0, .int .i64 0, .slice none 0 0], .int .i64 0, .bool false]) (by simp [results, Try.results55, go_sem, *]) rfl ⟨none, 0, by rw [HB.out, HN.out, HG.out, HL.out, HP.out]; rfl, by rw [HL.out]; exact World.ownsRow_nil _ _ _ _, ?_⟩
      repeat (first | exact hW4 | exact Below.refl _ _ | refine Below.setCell ?_ (by simp) _ | refine Below.alloc ?_ (by first | exact Nat.le_refl _ | omega | (simp; omega) | simp) _)
    have g2 : decide (N < 0) = false := decide_eq_false a2
    by_cases a3 : U < 0
    · have hB := rowOk_neg (b := b) (k := k) (way := (wn : Int)) (by rw [HMe.out, HNe.out, HUe.out, HVe.out]; omega)
      have HB : Hid (rowOk b k (wn : Int) = false) := Lib.hid hB
      have HN : Hid (rNeed b k (wn : Int) = 0) := Lib.hid (by simp [rNeed, hB])
      have HG : Hid (rGone b k (wn : Int) = 0) := Lib.hid (by simp [rGone, hB])
      have HL : Hid (rLs b k (wn : Int) = []) := Lib.hid (by simp [rLs, hB])
      have HP : Hid (rPos b k (wn : Int) = 0) := Lib.hid (by simp [rPos, hB])
      clear hB
      go_wp2
      refine bodyPost_ret (v := .tuple #[.agg #[.int .i64 0, .int .i64 0, .slice none 0 0], .int .i64 0, .bool false]) (by simp [results, Try.results55, go_sem, *]) rfl ⟨none, 0, by rw [HB.out, HN.out, HG.out, HL.out, HP.out]; rfl, by rw [HL.out]; exact World.ownsRow_nil _ _ _ _, ?_⟩
      repeat (first | exact hW4 | exact Below.refl _ _ | refine Below.setCell ?_ (by simp) _ | refine Below.alloc ?_ (by first | exact Nat.le_refl _ | omega | (simp; omega) | simp) _)
    have g3 : decide (U < 0) = false := decide_eq_false a3
    by_cases a4 : V < 0
    · have hB := rowOk_neg (b := b) (k := k) (way := (wn : Int)) (by rw [HMe.out, HNe.out, HUe.out, HVe.out]; omega)
      have HB : Hid (rowOk b k (wn : Int) = false) := Lib.hid hB
      have HN : Hid (rNeed b k (wn : Int) = 0) := Lib.hid (by simp [rNeed, hB])
      have HG : Hid (rGone b k (wn : Int) = 0) := Lib.hid (by simp [rGone, hB])
      have HL : Hid (rLs b k (wn : Int) = []) := Lib.hid (by simp [rLs, hB])
      have HP : Hid (rPos b k (wn : Int) = 0) := Lib.hid (by simp [rPos, hB])
      clear hB
      go_wp2
      refine bodyPost_ret (v := .tuple #[.agg #[.int .i64 0, .int .i64 0, .slice none 0 0], .int .i64 0, .bool false]) (by simp [results, Try.results55, go_sem, *]) rfl ⟨none, 0, by rw [HB.out, HN.out, HG.out, HL.out, HP.out]; rfl, by rw [HL.out]; exact World.ownsRow_nil _ _ _ _, ?_⟩
      repeat (first | exact hW4 | exact Below.refl _ _ | refine Below.setCell ?_ (by simp) _ | refine Below.alloc ?_ (by first | exact Nat.le_refl _ | omega | (simp; omega) | simp) _)
    have g4 : decide (V < 0) = false := decide_eq_false a4
    obtain ⟨w, h, s, q, m, n, u, v, rfl, rfl, eM, eN, eU, eV, hrow, ml, nl, ul, vl⟩ := row_of (b := b) (k := k) hw4 (by rw [HMe.out]; omega) (by rw [HNe.out]; omega) (by rw [HUe.out]; omega) (by rw [HVe.out]; omega)
    obtain rfl : M = m := HMe.out.symm.trans eM
    obtain rfl : N = n := HNe.out.symm.trans eN
    obtain rfl : U = u := HUe.out.symm.trans eU
    obtain rfl : V = v := HVe.out.symm.trans eV
    have hA := hrow.hb.area
    have ql := hrow.k1
    have hpk := row_pack hrow
    have hsb := rowP_sub hrow
    have P63 := b63_area hrow.hb (posB_lt hrow.hb hsb)
    have OK : rowOk ⟨w, h, s⟩ q wn = true := by
      simp only [rowOk, i1, eM, eN, eU, eV, Bool.true_and, Bool.and_eq_true, decide_eq_true_eq]; omega
    have PE : rPos ⟨w, h, s⟩ q wn = (rowP q m n u : Nat) := by simp [rPos, OK, eM, eN, eU]
    have JE : rJs ⟨w, h, s⟩ q wn = rowJ q m n u v := by simp [rJs, eM, eN, eU, eV]
    have HOK := Lib.hid OK
    have HN : Hid (rNeed ⟨w, h, s⟩ q wn = packN ⟨w, h, s⟩ (rowP q m n u : Nat) (rowJ q m n u v)) := Lib.hid (by rw [rNeed, OK, if_pos rfl, PE, JE])
    have HG : Hid (rGone ⟨w, h, s⟩ q wn = packG ⟨w, h, s⟩ (rowP q m n u : Nat) (rowJ q m n u v)) := Lib.hid (by rw [rGone, OK, if_pos rfl, PE, JE])
    have HL : Hid (rLs ⟨w, h, s⟩ q wn = packL ⟨w, h, s⟩ (rowP q m n u : Nat) (rowJ q m n u v)) := Lib.hid (by rw [rLs, OK, if_pos rfl, PE, JE])
    have HPE := Lib.hid PE
    have p1 := i64_pow q (by omega)
    have p2 := i64_pow m (by omega)
    have p3 := i64_pow n (by omega)
    have p4 := i64_pow u (by omega)
    have o1 := i64_or (pow2 q) (pow2 m) (b63_pow2 (by omega)) (b63_pow2 (by omega))
    have o2 := i64_or (pow2 q ||| pow2 m) (pow2 n) (b63_or (b63_pow2 (by omega)) (b63_pow2 (by omega))) (b63_pow2 (by omega))
    have o3 := i64_or (pow2 q ||| pow2 m ||| pow2 n) (pow2 u) (b63_or (b63_or (b63_pow2 (by omega)) (b63_pow2 (by omega))) (b63_pow2 (by omega))) (b63_pow2 (by omega))
    rw [show (pow2 q ||| pow2 m ||| pow2 n ||| pow2 u) = rowP q m n u from rfl] at o3
    generalize rowP q m n u = P at hpk P63 HN HG HL HPE o3
    have hPI : I64 (P : Int) := by unfold B63 at P63; unfold I64; omega
    have HPK := Lib.hid hpk
    have HPI := Lib.hid hPI
    have HROW := Lib.hid hrow
    clear eM eN eU eV OK PE JE hsb hpk hPI P63 hrow i1 HMe HNe HUe HVe
    go_wp2_with fail
    go_quiet (fail)
    go_wp2_with fail
    refine (iPackageOf_ ⟨w, h, s⟩ P HPI.out (rowJ q m n u v) _ _ (by simp [rowJ]) _ (rd_drewN (rd_lit W4 #[.int .i64 u, .int .i64 q, .int .i64 v, .int .i64 n, .int .i64 m, .int .i64 q, .int .i64 v, .int .i64 q, .int .i64 u] 34) _)).mono ?_
    rintro e W5 ⟨A5, k5, rfl, own5, hb5⟩
    rw [HPK.out]
    have hn5 : Below W4.heap.size W4 W5 := below_step (below_drewN ((Below.refl _ _).alloc (Nat.le_refl _) _) _) hb5 (by simp [World.drewN])
    have h5 := below_next h4 hn5
    have hlo : ∀ g, (Value.slice A5 (packL ⟨w, h, s⟩ (P : Nat) (rowJ q m n u v)).length k5).ownBlock = some g → W4.heap.size + 1 ≤ g := fun g hg => by have := (own5.lt g hg).1; simpa [World.drewN] using this
    have hsz5 : W.heap.size + 2 ≤ W4.heap.size := by have := h4.size; omega
    have hO : W5.ownsRow W.heap.size 34 3 (.slice A5 (packL ⟨w, h, s⟩ (P : Nat) (rowJ q m n u v)).length k5) (packL ⟨w, h, s⟩ (P : Nat) (rowJ q m n u v)).length (flat (packL ⟨w, h, s⟩ (P : Nat) (rowJ q m n u v))) := own_base own5 (by simp [World.drewN]; omega)
    have hne : (Value.slice A5 (packL ⟨w, h, s⟩ (P : Nat) (rowJ q m n u v)).length k5).ownBlock ≠ some (W.heap.size + 1) := fun hh => by have := hlo _ hh; omega
    have HO := Lib.hid hO
    have HNE := Lib.hid hne
    have hW5 := below_next hW1 h5
    clear own5 hlo hO hne hb5 d0 d1 d2 d3 d4 d5 d6 d7 d8 d9
    have c0 := (h5.cell (p := ⟨W.heap.size, 0, none⟩) hz0).trans B0.out
    have c1 := (h5.cell (p := ⟨W.heap.size, 1, none⟩) hz0).trans B1.out
    have c2 := (h5.cell (p := ⟨W.heap.size, 2, none⟩) hz0).trans B2.out
    have c3 := (h5.cell (p := ⟨W.heap.size + 1, 0, none⟩) hz1).trans R0.out
    have c4 := (h5.cell (p := ⟨W.heap.size + 1, 1, none⟩) hz1).trans R1.out
    have c5 := (h5.cell (p := ⟨W.heap.size + 1, 2, none⟩) hz1).trans R2.out
    have c6 := (h5.frozen (p := ⟨W.heap.size + 1, 0, none⟩) hz1).trans Z0.out
    have c7 := (h5.frozen (p := ⟨W.heap.size + 1, 1, none⟩) hz1).trans Z1.out
    have c8 := (h5.frozen (p := ⟨W.heap.size + 1, 2, none⟩) hz1).trans Z2.out
    have c9 : W.heap.size + 1 < W5.heap.size := by have := h5.size; omega
    generalize packN ⟨w, h, s⟩ (P : Nat) (rowJ q m n u v) = nn at HN ⊢
    generalize packG ⟨w, h, s⟩ (P : Nat) (rowJ q m n u v) = gg at HG ⊢
    generalize packL ⟨w, h, s⟩ (P : Nat) (rowJ q m n u v) = js at HL HO HNE ⊢
    go_wp2
    refine bodyPost_ret (v := .tuple #[.agg #[.int .i64 nn, .int .i64 gg, .slice A5 js.length k5], .int .i64 P, .bool true]) (by simp [results, Try.results55, go_sem, *]) rfl ⟨A5, k5, by rw [HOK.out, HN.out, HG.out, HL.out, HPE.out], ?_, ?_⟩
    · rw [HL.out]
      refine World.ownsRow.alloc (own_set_other (own_set_other (own_set_other HO.out ?_) ?_) ?_) _ <;> exact HNE.out
    · repeat (first | exact hW5 | refine Below.setCell ?_ (by simp) _ | refine Below.alloc ?_ (by have := hW5.size; first | omega | (simp; omega)) _)
  · have hB := rowOk_in (b := b) (k := k) i1
    have HB : Hid (rowOk b k way = false) := Lib.hid hB
    have HN : Hid (rNeed b k way = 0) := Lib.hid (by simp [rNeed, hB])
    have HG : Hid (rGone b k way = 0) := Lib.hid (by simp [rGone, hB])
    have HL : Hid (rLs b k way = []) := Lib.hid (by simp [rLs, hB])
    have HP : Hid (rPos b k way = 0) := Lib.hid (by simp [rPos, hB])
    clear hB
    go_enter Try.func55, Try.ntmps55
    go_wp2_with (go_at_call 120; refine (within_ _ _ _ _).mono ?_; rintro e w' ⟨rfl, rfl⟩)
    refine bodyPost_ret (v := .tuple #[.agg #[.int .i64 0, .int .i64 0, .slice none 0 0], .int .i64 0, .bool false]) (by simp [results, Try.results55, go_sem, *]) rfl ⟨none, 0, by rw [HB.out, HN.out, HG.out, HL.out, HP.out]; rfl, by rw [HL.out]; exact World.ownsRow_nil _ _ _ _, ?_⟩
    repeat (first | exact Below.refl _ _ | exact Below.refl _ _ | refine Below.setCell ?_ (by simp) _ | refine Below.alloc ?_ (by first | exact Nat.le_refl _ | omega | (simp; omega) | simp) _)
end Go.Proofs.Ytbcgokpamhgabaa

/- The walk of the law FnExactUsePackage. -/
import Derived.Test.YtfbpnfjaheeooaaChecked
import Derived.Test.YtfbpnfjaheeooaaMem
import Derived.Tactics
import Derived.Tactics2
import Derived.WalkKit
import Derived.WalkSpells
import Derived.WalkLawsBesides
import Derived.Deep.QuietTactic
import Derived.BigQuiet
import Derived.BigGuardPart
import Derived.Lib.QuietBelow
import Derived.OwnWalk
import Derived.KernelRfl
import Derived.Deep.RegionWith
import Derived.Deep.RegionHeld3
import Derived.Deep.DeepCutAuto
import Derived.Test.YtfbpnfjaheeooaaApply
import Derived.Test.YtfbpnfjaheeooaaHelpP
import Derived.Test.YtfbpnfjaheeooaaSymB
import Derived.Test.YtfbpnfjaheeooaaOpen
set_option linter.unusedVariables false
set_option maxRecDepth 20000
namespace Go.Proofs.Ytfbpnfjaheeooaa
open Go.RowKit Go.Sort

set_option maxHeartbeats 2000000 in
theorem fnExactUsePackage_walk (b : Ln) (p : Int) (x : Int × Int) (a : List Ln) (A : Option Addr) (c : Nat) (q : Int) (w : World) (_ : I64 b.f ∧ I64 b.o ∧ I64 b.t) (hp : I64 p) (rd : Rd w w.heap.size A (flat a)) (hm : a.length ≤ 9223372036854775807) (hxx : I64 x.1 ∧ I64 x.2 ∧ ∀ l ∈ a, I64 l.f ∧ I64 l.o ∧ I64 l.t) (hq : I64 q) :
    Calls Try.prog 4 #[.agg #[.int .i64 b.f, .int .i64 b.o, .int .i64 b.t], .int .i64 p, .agg #[.int .i64 x.1, .int .i64 x.2, .slice A a.length c], .int .i64 q] w fun e w' => e = .returned (.bool true) ∧ Below w.heap.size w w' := by
  have hx2 : I64 x.2 := hxx.2.1
  clear hxx
  by_cases hs : a.length ≤ 1048576
  · go_enter Try.func4, Try.ntmps4
    go_wp2_with fail
    refine (szPackage_ok A a.length c x 1048576 _ hm (by omega) (by omega)).mono ?_
    rintro e w1 ⟨rfl, hb1⟩
    have hn1 : Below w.heap.size w w1 := below_step (((Below.refl _ _).alloc (Nat.le_refl _) _).alloc (by simp) _) hb1 (by simp; omega)
    have hs1 : w.heap.size + 2 ≤ w1.heap.size := by have := hb1.size; simpa using this
    have c0 : w1.cell? ⟨w.heap.size, 0, none⟩ = some (.int .i64 b.f) := by rw [hb1.cell (p := ⟨w.heap.size, 0, none⟩) (by simp; omega)]; simp [go_sem]
    have c1 : w1.cell? ⟨w.heap.size, 1, none⟩ = some (.int .i64 b.o) := by rw [hb1.cell (p := ⟨w.heap.size, 1, none⟩) (by simp; omega)]; simp [go_sem]
    have c2 : w1.cell? ⟨w.heap.size, 2, none⟩ = some (.int .i64 b.t) := by rw [hb1.cell (p := ⟨w.heap.size, 2, none⟩) (by simp; omega)]; simp [go_sem]
    have d0 : w1.cell? ⟨w.heap.size + 1, 0, none⟩ = some (.int .i64 x.1) := by rw [hb1.cell (p := ⟨w.heap.size + 1, 0, none⟩) (by simp)]; simp [go_sem]
    have d1 : w1.cell? ⟨w.heap.size + 1, 1, none⟩ = some (.int .i64 x.2) := by rw [hb1.cell (p := ⟨w.heap.size + 1, 1, none⟩) (by simp)]; simp [go_sem]
    have d2 : w1.cell? ⟨w.heap.size + 1, 2, none⟩ = some (.slice A a.length c) := by rw [hb1.cell (p := ⟨w.heap.size + 1, 2, none⟩) (by simp)]; simp [go_sem]
    have z0 : w.heap.size < w1.heap.size := by omega
    have z1 : w.heap.size + 1 < w1.heap.size := by omega
    have rd1 := (rd.below hn1).more hn1.size
    clear hb1
    go_wp2_with fail
    go_cut [10, 11] (fun v u wc => v = .int .i64 (useP b p x q) ∧ u = .bool (useB b p x q) ∧ Below w1.heap.size w1 wc)
    case first =>
      go_region_held3 (fun w' => w'.cell? ⟨w.heap.size, 0, none⟩ = some (.int .i64 b.f) ∧ w'.cell? ⟨w.heap.size, 1, none⟩ = some (.int .i64 b.o) ∧ w'.cell? ⟨w.heap.size, 2, none⟩ = some (.int .i64 b.t) ∧
          w'.cell? ⟨w.heap.size + 1, 0, none⟩ = some (.int .i64 x.1) ∧ w'.cell? ⟨w.heap.size + 1, 1, none⟩ = some (.int .i64 x.2) ∧ w'.cell? ⟨w.heap.size + 1, 2, none⟩ = some (.slice A a.length c) ∧ Below w1.heap.size w1 w')
        (first | exact ⟨c0, c1, c2, d0, d1, d2, (Below.refl _ _).drew⟩ | exact ⟨(hX.cell (p := ⟨w.heap.size, 0, none⟩) z0).trans c0, (hX.cell (p := ⟨w.heap.size, 1, none⟩) z0).trans c1, (hX.cell (p := ⟨w.heap.size, 2, none⟩) z0).trans c2, (hX.cell (p := ⟨w.heap.size + 1, 0, none⟩) z1).trans d0, (hX.cell (p := ⟨w.heap.size + 1, 1, none⟩) z1).trans d1, (hX.cell (p := ⟨w.heap.size + 1, 2, none⟩) z1).trans d2, hX⟩)
        (first
          | (go_at_call 16; refine (toBoard_ b _).mono ?_; rintro e wX ⟨rfl, hbX⟩; have hX : Below w1.heap.size w1 wX := below_next (by first | assumption | exact (Below.refl _ _).drew) hbX)
          | (go_at_call 17; refine (toPackage_ x a A c _ (rd1.next (by first | assumption | exact (Below.refl _ _).drew)) hs).mono ?_; rintro e wX ⟨AX, cX, rfl, ownX, hbX⟩; have hX : Below w1.heap.size w1 wX := below_next (by first | assumption | exact (Below.refl _ _).drew) hbX)
          | (go_at_call 20; refine (sUsePackage_ b p x _ _ _ q hp hx2 hq _).mono ?_; rintro e wX ⟨rfl, hbX⟩; have hX : Below w1.heap.size w1 wX := below_next (by first | assumption | exact (Below.refl _ _).drew) hbX))
      all_goals (go_wp2_with fail; go_meet; exact ⟨rfl, rfl, by assumption⟩)
    case rest =>
      obtain ⟨rfl, rfl, hcw⟩ := hcut
      have hwc : Below w.heap.size w wc := below_next hn1 hcw
      have f0 := (hcw.cell (p := ⟨w.heap.size, 0, none⟩) z0).trans c0
      have f1 := (hcw.cell (p := ⟨w.heap.size, 1, none⟩) z0).trans c1
      have f2 := (hcw.cell (p := ⟨w.heap.size, 2, none⟩) z0).trans c2
      have g0 := (hcw.cell (p := ⟨w.heap.size + 1, 0, none⟩) z1).trans d0
      have g1 := (hcw.cell (p := ⟨w.heap.size + 1, 1, none⟩) z1).trans d1
      have g2 := (hcw.cell (p := ⟨w.heap.size + 1, 2, none⟩) z1).trans d2
      have y1 : w.heap.size + 1 < wc.heap.size := by have := hcw.size; omega
      have rdc := rd1.next hcw
      clear c0 c1 c2 d0 d1 d2
      go_wp2_with fail
      refine (toPackage_ x a A c _ rdc hs).mono ?_
      rintro e w3 ⟨A3, c3, rfl, own3, hb3⟩
      have hw3 := below_next hwc hb3
      have c0 := (hb3.cell (p := ⟨w.heap.size, 0, none⟩) (show w.heap.size < wc.heap.size by omega)).trans f0
      have c1 := (hb3.cell (p := ⟨w.heap.size, 1, none⟩) (show w.heap.size < wc.heap.size by omega)).trans f1
      have c2 := (hb3.cell (p := ⟨w.heap.size, 2, none⟩) (show w.heap.size < wc.heap.size by omega)).trans f2
      have d0 := (hb3.cell (p := ⟨w.heap.size + 1, 0, none⟩) y1).trans g0
      have d1 := (hb3.cell (p := ⟨w.heap.size + 1, 1, none⟩) y1).trans g1
      have d2 := (hb3.cell (p := ⟨w.heap.size + 1, 2, none⟩) y1).trans g2
      have x1' : w.heap.size + 1 < w3.heap.size := by have := hb3.size; omega
      have x0' : w.heap.size < w3.heap.size := by omega
      have rd3 := rdc.next hb3
      have HO3 := Lib.hid own3
      clear f0 f1 f2 g0 g1 g2 own3
      have hc : ∀ (a : Addr) (p : Regrown) (W : World), a.block < W.heap.size → (grow (redrawn W p.d) p.os).cell? a = W.cell? a := fun a p W h => (below_regrown W p.d p.os).cell h
      go_wp2_with fail
      refine wp_region_quiet_below (by kernel_rfl) (by kernel_rfl) ?_
      repeat (go_big_quiet_step (first | (go_at_call 16; exact Calls.regrown_of (toBoard_ b _)) | (go_at_call 21; exact Calls.regrown_of (iUsePackage_ b p x _ _ _ q hp hx2 hq _))))
      refine wpQuiet_nil ?_
      intro w4 hw4
      obtain ⟨p4, hp4⟩ := hw4
      have hb4 := of_rg hp4
      clear hp4 p4
      have hn4 : Below w3.heap.size w3 w4 := below_step ((Below.refl _ _).alloc (Nat.le_refl _) _) hb4 (by simp)
      have s4 : w3.heap.size + 1 ≤ w4.heap.size := by have := hb4.size; simpa using this
      have hw4 := below_next hw3 hn4
      have e0 : w4.cell? ⟨w3.heap.size, 0, none⟩ = some (.int .i64 x.1) := by rw [hb4.cell (p := ⟨w3.heap.size, 0, none⟩) (by simp)]; simp [go_sem]
      have e1 : w4.cell? ⟨w3.heap.size, 1, none⟩ = some (.int .i64 x.2) := by rw [hb4.cell (p := ⟨w3.heap.size, 1, none⟩) (by simp)]; simp [go_sem]
      have e2 : w4.cell? ⟨w3.heap.size, 2, none⟩ = some (.slice A3 a.length c3) := by rw [hb4.cell (p := ⟨w3.heap.size, 2, none⟩) (by simp)]; simp [go_sem]
      have g0 := (hn4.cell (p := ⟨w.heap.size + 1, 0, none⟩) x1').trans d0
      have g1 := (hn4.cell (p := ⟨w.heap.size + 1, 1, none⟩) x1').trans d1
      have g2 := (hn4.cell (p := ⟨w.heap.size + 1, 2, none⟩) x1').trans d2
      have u1 : w.heap.size + 1 < w4.heap.size := by omega
      have u3 : w3.heap.size < w4.heap.size := by omega
      have rd4 := rd3.next hn4
      have rdo := rd_of_own (own_next HO3.out hn4)
      have RDO := Lib.hid rdo
      clear c0 c1 c2 d0 d1 d2 hb4 hc rdo
      go_wp2_with fail
      go_region_held3 (fun w' => w'.cell? ⟨w.heap.size + 1, 0, none⟩ = some (.int .i64 x.1) ∧ w'.cell? ⟨w.heap.size + 1, 1, none⟩ = some (.int .i64 x.2) ∧ w'.cell? ⟨w.heap.size + 1, 2, none⟩ = some (.slice A a.length c) ∧
          w'.cell? ⟨w3.heap.size, 0, none⟩ = some (.int .i64 x.1) ∧ w'.cell? ⟨w3.heap.size, 1, none⟩ = some (.int .i64 x.2) ∧ w'.cell? ⟨w3.heap.size, 2, none⟩ = some (.slice A3 a.length c3) ∧ Below w4.heap.size w4 w')
        (first | exact ⟨g0, g1, g2, e0, e1, e2, (Below.refl _ _).drew⟩ | exact ⟨(hX.cell (p := ⟨w.heap.size + 1, 0, none⟩) u1).trans g0, (hX.cell (p := ⟨w.heap.size + 1, 1, none⟩) u1).trans g1, (hX.cell (p := ⟨w.heap.size + 1, 2, none⟩) u1).trans g2, (hX.cell (p := ⟨w3.heap.size, 0, none⟩) u3).trans e0, (hX.cell (p := ⟨w3.heap.size, 1, none⟩) u3).trans e1, (hX.cell (p := ⟨w3.heap.size, 2, none⟩) u3).trans e2, hX⟩)
        (first
          | (go_at_call 17; refine (toPackage_ x a A c _ (rd4.next (by first | assumption | exact (Below.refl _ _).drew)) hs).mono ?_; rintro e wX ⟨AX, cX, rfl, ownX, hbX⟩; have hX : Below w4.heap.size w4 wX := below_next (by first | assumption | exact (Below.refl _ _).drew) hbX)
          | (go_at_call 19; refine (eqPackage_same x.1 x.2 a A3 AX c3 cX hm _ (RDO.out.next hX) (rd_of_own ownX)).mono ?_; rintro e wX ⟨rfl, hbX⟩; have hX : Below w4.heap.size w4 wX := below_next (by first | assumption | exact (Below.refl _ _).drew) hbX))
      go_wp2
      go_ret
      exact ⟨rfl, below_next hw4 hX⟩
  · go_enter Try.func4, Try.ntmps4
    go_wp2_with fail
    refine (szPackage_no A a.length c x 1048576 _ hm (by omega) (by omega) (by omega)).mono ?_
    rintro e w1 ⟨rfl, hb1⟩
    have hn1 : Below w.heap.size w w1 := below_step (((Below.refl _ _).alloc (Nat.le_refl _) _).alloc (by simp) _) hb1 (by simp; omega)
    go_wp2
    go_ret
    exact ⟨rfl, hn1⟩
end Go.Proofs.Ytfbpnfjaheeooaa

/- The contract of the generator DrawPosition: a board and a position on it. -/
import Derived.Test.YtbcgokpamhgabaaChecked
import Derived.Test.YtbcgokpamhgabaaMem
import Derived.Tactics
import Derived.Tactics2
import Derived.WalkKit
import Derived.WalkSpells
import Derived.WalkLawsBesides
import Derived.Deep.QuietTactic
import Derived.BigQuiet
import Derived.BigGuardPart
import Derived.Lib.QuietBelow
import Derived.OwnWalk
import Derived.KernelRfl
import Derived.Test.YtbcgokpamhgabaaDrawN
set_option linter.unusedVariables false
set_option maxRecDepth 20000
namespace Go.Proofs.Ytbcgokpamhgabaa
open Go.RowKit Go.Sort

/-- A board and a position, drawn. -/
def GivesDp (w : World) (e : Ending) (w' : World) : Prop :=
  ∃ x y s q : Nat, BdOk x y s ∧ posB ⟨x, y, s⟩ q = true ∧ e = .returned (.tuple #[.agg #[.int .i64 x, .int .i64 y, .int .i64 s], .int .i64 q]) ∧ Below w.heap.size w w'
set_option maxHeartbeats 4000000 in
theorem drawPosition_ (xs : List UInt8) (A : Option Addr) (c : Nat) (w : World) (rd : Rd w w.heap.size A (bts xs)) (hm : xs.length ≤ 1048576) :
    Calls Try.prog 29 #[.slice A xs.length c] w (GivesDp w) := by
  have rd1 := rd.laid (.cells #[.int .i64 0, .int .i64 0, .int .i64 0] 42)
  go_enter Try.func29, Try.ntmps29
  go_wp2_with fail
  refine (l01New_ xs A c _ rd1 hm).mono ?_
  rintro e w1 ⟨rfl, hC1, hb1⟩
  have HX1 := Lib.hid ((box_new 42 w 0 0 0).next hb1)
  have hw1 : Below w.heap.size w w1 := below_step ((Below.refl _ _).alloc (Nat.le_refl _) _) hb1 (by simp)
  obtain ⟨g, hg⟩ : ∃ g, (w.alloc (.cells #[.int .i64 0, .int .i64 0, .int .i64 0] 42)).heap.size = g := ⟨_, rfl⟩
  have hg0 : g = w.heap.size + 1 := by rw [← hg]; simp
  have HG := Lib.hid hg0
  simp only [hg] at hC1 ⊢
  clear rd1 hb1 hg hg0
  go_wp2_with fail
  refine (l02Small_ g _ hC1).mono ?_
  rintro e w2 ⟨x, y, s, hbd, -, rfl, hC2, hb2⟩
  have hgB : g < w2.heap.size := hC2.lt
  have HX2 := Lib.hid ((HX1.out.keep (hb2.block _ HX1.out.lt (by have := HG.out; omega))).alloc (.cells #[.int .i64 x, .int .i64 y, .int .i64 s] 42))
  have HB2 := Lib.hid (box_new 42 w2 x y s)
  have HW2 := Lib.hid (hb2.alloc hb2.size (.cells #[.int .i64 x, .int .i64 y, .int .i64 s] 42))
  have HBD := Lib.hid hbd
  have hC3 := hC2.alloc (.cells #[.int .i64 x, .int .i64 y, .int .i64 s] 42)
  have hlo : w.heap.size < g := by have := HG.out; omega
  have hgl : g ≠ w.heap.size := by omega
  obtain ⟨B, hB⟩ : ∃ B, w2.heap.size = B := ⟨_, rfl⟩
  rw [hB] at hgB HB2
  have hneB : ¬ w.heap.size = B := by omega
  have hneB' : ¬ B = w.heap.size := by omega
  clear hbd hb2 hC2 HX1
  go_upto_region 3 with fail
  generalize w2.alloc (.cells #[.int .i64 x, .int .i64 y, .int .i64 s] 42) = w3 at *
  clear hB
  obtain ⟨c0, c1, c2⟩ := HB2.out.cells
  obtain ⟨r0, r1, r2⟩ := HX2.out.cells
  obtain ⟨f0, f1, f2⟩ := HX2.out.soft
  have hlx := HX2.out.lt
  have hbel : Below w.heap.size w w3 := hw1.trans ((HW2.out.mono hw1.size).below (by omega))
  have HBE := Lib.hid hbel
  clear hbel
  go_region_held3 (fun w' => w'.cell? ⟨B, 0, none⟩ = some (.int .i64 x) ∧ w'.cell? ⟨B, 1, none⟩ = some (.int .i64 y) ∧ w'.cell? ⟨B, 2, none⟩ = some (.int .i64 s)) (first | exact ⟨c0, c1, c2⟩ | go_keep) (first
    | (go_at_call 102; refine (l04Some_ g ⟨x, y, s⟩ _ (Cur.drew hC3)).mono ?_; rintro e wA ⟨q, hq, rfl, hCA, hbA⟩; have HP := Lib.hid (posB_of HBD.out (sub_pos HBD.out hq)); have HBA := Lib.hid (HB2.out.drew.cb hbA hgB); have HXA := Lib.hid (HX2.out.drew.keep (hbA.block _ HX2.out.lt (by omega))); have HBF := Lib.hid (HBE.out.drew.trans ((hbA.mono HBE.out.drew.size).below (by omega))); have hlxA := HXA.out.lt; clear hbA hq c0 c1 c2 r0 r1 r2 f0 f1 f2; obtain ⟨c0, c1, c2⟩ := HBA.out.cells; obtain ⟨r0, r1, r2⟩ := HXA.out.cells; obtain ⟨f0, f1, f2⟩ := HXA.out.soft))
  all_goals
    go_wp2
    refine bodyPost_ret (v := .tuple #[.agg #[.int .i64 x, .int .i64 y, .int .i64 s], .int .i64 q]) (by simp [results, Try.results29, go_sem, *]) rfl ⟨x, y, s, q, HBD.out, HP.out, rfl, ?_⟩
    exact ((HBF.out.setCell (p := ⟨w.heap.size, 0, none⟩) (by simp) _).setCell (p := ⟨w.heap.size, 1, none⟩) (by simp) _).setCell (p := ⟨w.heap.size, 2, none⟩) (by simp) _
end Go.Proofs.Ytbcgokpamhgabaa

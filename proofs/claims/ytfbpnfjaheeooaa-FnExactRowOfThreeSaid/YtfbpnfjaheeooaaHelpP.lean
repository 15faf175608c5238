/- The contracts of the laws' own functions on packages. -/
import Derived.Test.YtfbpnfjaheeooaaChecked
import Derived.Test.YtfbpnfjaheeooaaMem
import Derived.Tactics
import Derived.Tactics2
import Derived.WalkKit
import Derived.WalkSpells
import Derived.WalkLawsBesides
import Derived.Deep.QuietTactic
import Derived.BigQuiet
import Derived.BigGuardPart
import Derived.Lib.QuietBelow
import Derived.OwnWalk
import Derived.KernelRfl
import Derived.Test.YtfbpnfjaheeooaaHelp
import Derived.Test.YtfbpnfjaheeooaaHelpL
import Derived.Test.YtfbpnfjaheeooaaOrdB
set_option linter.unusedVariables false
set_option maxRecDepth 20000
namespace Go.Proofs.Ytfbpnfjaheeooaa
open Go.RowKit Go.Sort

theorem eqPackage_same (n g : Int) (a : List Ln) (A B : Option Addr) (c d : Nat) (hm : a.length ≤ 9223372036854775807) (w : World) (rdA : Rd w w.heap.size A (flat a)) (rdB : Rd w w.heap.size B (flat a)) :
    Calls Try.prog 19 #[.agg #[.int .i64 n, .int .i64 g, .slice A a.length c], .agg #[.int .i64 n, .int .i64 g, .slice B a.length d]] w fun e w' => e = .returned (.bool true) ∧ Below w.heap.size w w' := by
  have RA := Lib.hid ((rdA.laid (.cells #[.int .i64 n, .int .i64 g, .slice A a.length c] 33)).laid (.cells #[.int .i64 n, .int .i64 g, .slice B a.length d] 33))
  have RB := Lib.hid ((rdB.laid (.cells #[.int .i64 n, .int .i64 g, .slice A a.length c] 33)).laid (.cells #[.int .i64 n, .int .i64 g, .slice B a.length d] 33))
  clear rdA rdB
  go_enter Try.func19, Try.ntmps19
  go_wp2_with fail
  refine (is_ (eqLineS_ a a A B c d _ RA.out RB.out hm hm) (eqB_refl a)).mono ?_
  rintro e w1 ⟨rfl, hb1⟩
  go_wp2
  go_ret
  exact ⟨rfl, below_step (((Below.refl _ _).alloc (Nat.le_refl _) _).alloc (by simp) _) hb1 (by simp; omega)⟩
theorem markPackage_ (base : Nat) (xs : List Ln) (A : Option Addr) (n c : Nat) (x y : Int) (k : Nat) (w : World) (hown : w.ownsRow base 83 3 (.slice A n c) n (flat xs)) (hn : n ≤ 4194304) (hk : k ≤ 16777216) :
    Calls Try.prog 48 #[.agg #[.int .i64 x, .int .i64 y, .slice A n c], .int .i64 k] w fun e w' => e = .returned (.int .i64 ((k + 3 * n : Nat) : Int)) ∧ w'.ownsRow base 83 3 (.slice A n c) n (flat (marks3 k n)) ∧ w.grownBy w' (Value.ownBlock (.slice A n c)) := by
  go_enter Try.func48, Try.ntmps48
  go_wp2_with fail
  refine (markLineS_ base xs A n c k _ (hown.alloc _) hn hk).mono ?_
  rintro e w1 ⟨rfl, own1, hg1⟩
  have HO := Lib.hid own1
  clear own1
  go_wp2
  go_ret
  exact ⟨rfl, HO.out, (World.grownBy_alloc w _ _).trans hg1⟩
theorem heldPackage_ (A : Option Addr) (n c : Nat) (x y : Int) (k : Nat) (w : World) (hr : Rd w w.heap.size A (flat (marks3 k n))) (hn : n ≤ 4194304) (hk : k ≤ 16777216) :
    Calls Try.prog 49 #[.agg #[.int .i64 x, .int .i64 y, .slice A n c], .int .i64 k] w fun e w' => e = .returned (.int .i64 ((k + 3 * n : Nat) : Int)) ∧ Below w.heap.size w w' := by
  go_enter Try.func49, Try.ntmps49
  go_wp2_with fail
  refine (heldLineS_ A n c k _ (hr.laid _) hn hk).mono ?_
  rintro e w1 ⟨rfl, rfl⟩
  go_wp2
  go_ret
  exact ⟨rfl, (Below.refl _ _).alloc (Nat.le_refl _) _⟩
/-- The package is copied; its jumps are a slice of the call's own. -/
def GivesPkg (w : World) (T : TypeId) (x : Int × Int) (js : List Ln) (e : Ending) (w' : World) : Prop :=
  ∃ A c, e = .returned (.agg #[.int .i64 x.1, .int .i64 x.2, .slice A js.length c]) ∧ w'.ownsRow w.heap.size T 3 (.slice A js.length c) js.length (flat js) ∧ Below w.heap.size w w'
theorem own_set_other' {w : World} {base : Nat} {e : TypeId} {size n : Nat} {v x : Value} {xs : List Value} {a : Addr} (h : w.ownsRow base e size v n xs) (hne : v.ownBlock ≠ some a.block) : (w.setCell a x).ownsRow base e size v n xs := by
  refine ⟨h.1, ?_⟩
  rcases h.2 with hn | ⟨g, cap, cur, rfl, hg, hgg, rest⟩
  · exact .inl hn
  · refine .inr ⟨g, cap, cur, rfl, hg, ?_, rest⟩
    have hb : a.block ≠ g := fun e => hne (by simp [Value.ownBlock, e])
    rw [← hgg]
    exact heap_setCell_other w a g x (Ne.symm hb)
set_option maxHeartbeats 1000000 in
theorem toPackage_ (x : Int × Int) (a : List Ln) (A : Option Addr) (c : Nat) (W : World) (rd : Rd W W.heap.size A (flat a)) (hs : a.length ≤ 1048576) :
    Calls Try.prog 17 #[.agg #[.int .i64 x.1, .int .i64 x.2, .slice A a.length c]] W (GivesPkg W 83 x a) := by
  go_enter Try.func17, Try.ntmps17
  go_wp2_with fail
  refine (toLineS_ a A c _ (((rd.laid _).laid _).laid _) hs).mono ?_
  rintro e W1 ⟨A1, c1, rfl, own1, hb1⟩
  obtain ⟨hc, hf⟩ := bcell hb1
  have hz : W.heap.size + 3 ≤ W1.heap.size := by have := hb1.size; simpa using this
  have hW1 : Below W.heap.size W W1 := below_step ((((Below.refl _ _).alloc (Nat.le_refl _) _).alloc (by simp) _).alloc (by simp; omega) _) hb1 (by simp; omega)
  have r0 : W1.cell? ⟨W.heap.size + 1, 0, none⟩ = some (.int .i64 0) := by rw [hc _ _ (by simp)]; simp [go_sem]
  have r1 : W1.cell? ⟨W.heap.size + 1, 1, none⟩ = some (.int .i64 0) := by rw [hc _ _ (by simp)]; simp [go_sem]
  have r2 : W1.cell? ⟨W.heap.size + 1, 2, none⟩ = some (.slice none 0 0) := by rw [hc _ _ (by simp)]; simp [go_sem]
  have zr0 : W1.frozen? ⟨W.heap.size + 1, 0, none⟩ = false := by rw [hf _ _ (by simp)]; simp [go_sem]
  have zr1 : W1.frozen? ⟨W.heap.size + 1, 1, none⟩ = false := by rw [hf _ _ (by simp)]; simp [go_sem]
  have zr2 : W1.frozen? ⟨W.heap.size + 1, 2, none⟩ = false := by rw [hf _ _ (by simp)]; simp [go_sem]
  have q0 : W1.cell? ⟨W.heap.size + 1 + 1, 0, none⟩ = some (.int .i64 x.1) := by rw [hc _ _ (by simp)]; simp [go_sem]
  have q1 : W1.cell? ⟨W.heap.size + 1 + 1, 1, none⟩ = some (.int .i64 x.2) := by rw [hc _ _ (by simp)]; simp [go_sem]
  have q2 : W1.cell? ⟨W.heap.size + 1 + 1, 2, none⟩ = some (.slice none 0 0) := by rw [hc _ _ (by simp)]; simp [go_sem]
  have zq2 : W1.frozen? ⟨W.heap.size + 1 + 1, 2, none⟩ = false := by rw [hf _ _ (by simp)]; simp [go_sem]
  have hz1 : W.heap.size + 1 < W1.heap.size := by omega
  have hz2 : W.heap.size + 1 + 1 < W1.heap.size := by omega
  have hlo : ∀ g, (Value.slice A1 a.length c1).ownBlock = some g → W.heap.size + 3 ≤ g := fun g hg => by have := (own1.lt g hg).1; simpa using this
  have HO := Lib.hid own1
  have HLO := Lib.hid hlo
  clear hc hf hb1 own1 hlo
  go_wp2
  refine bodyPost_ret (v := .agg #[.int .i64 x.1, .int .i64 x.2, .slice A1 a.length c1]) (by simp [results, Try.results17, go_sem, *]) rfl ⟨A1, c1, rfl, ?_, ?_⟩
  · have h1 := own_base HO.out (show W.heap.size ≤ _ by simp; omega)
    have hne1 : (Value.slice A1 a.length c1).ownBlock ≠ some (W.heap.size + 1) := fun hh => by have := HLO.out _ hh; omega
    have hne2 : (Value.slice A1 a.length c1).ownBlock ≠ some (W.heap.size + 1 + 1) := fun hh => by have := HLO.out _ hh; omega
    repeat (first | exact h1 | (refine own_set_other' ?_ hne1) | (refine own_set_other' ?_ hne2))
  · repeat (first | exact hW1 | refine Below.setCell ?_ (by simp; try omega) _)
theorem szPackage_ok (A : Option Addr) (n c : Nat) (x : Int × Int) (k : Int) (w : World) (hn : n ≤ 9223372036854775807) (h1 : k ≤ 1048576) (h : (n : Int) ≤ k) :
    Calls Try.prog 14 #[.agg #[.int .i64 x.1, .int .i64 x.2, .slice A n c], .int .i64 k] w fun e w' => e = .returned (.int .i64 (k - n)) ∧ Below w.heap.size w w' := by
  go_enter Try.func14, Try.ntmps14
  go_wp2_with (go_at_call 40; refine (szLineS_ok A n c k _ hn h1 h).mono ?_; rintro e w' ⟨rfl, rfl⟩)
  go_ret
  exact ⟨rfl, (Below.refl _ _).alloc (Nat.le_refl _) _⟩
theorem szPackage_no (A : Option Addr) (n c : Nat) (x : Int × Int) (k : Int) (w : World) (hn : n ≤ 9223372036854775807) (h0 : 0 ≤ k) (h1 : k ≤ 1048576) (h : k < (n : Int)) :
    Calls Try.prog 14 #[.agg #[.int .i64 x.1, .int .i64 x.2, .slice A n c], .int .i64 k] w fun e w' => e = .returned (.int .i64 (-1)) ∧ Below w.heap.size w w' := by
  go_enter Try.func14, Try.ntmps14
  go_wp2_with (go_at_call 40; refine (szLineS_no A n c k _ hn h0 h1 h).mono ?_; rintro e w' ⟨rfl, rfl⟩)
  go_ret
  exact ⟨rfl, (Below.refl _ _).alloc (Nat.le_refl _) _⟩
end Go.Proofs.Ytfbpnfjaheeooaa

/- The contracts of the functions that turn and mirror whole boards. -/
import Derived.Test.YtbcgokpamhgabaaChecked
import Derived.Test.YtbcgokpamhgabaaMem
import Derived.Tactics
import Derived.Tactics2
import Derived.WalkKit
import Derived.WalkSpells
import Derived.WalkLawsBesides
import Derived.Deep.QuietTactic
import Derived.BigQuiet
import Derived.BigGuardPart
import Derived.Lib.QuietBelow
import Derived.OwnWalk
import Derived.KernelRfl
import Derived.Test.YtbcgokpamhgabaaSym
import Derived.Test.YtbcgokpamhgabaaTail
import Derived.Test.YtbcgokpamhgabaaStruct
set_option linter.unusedVariables false
set_option maxRecDepth 20000
namespace Go.Proofs.Ytbcgokpamhgabaa
open Go.RowKit Go.Sort


set_option maxHeartbeats 1000000 in
theorem iMirrorBoard_ (b : Ln) (w : World) :
    Calls Try.prog 31 #[.agg #[.int .i64 b.f, .int .i64 b.o, .int .i64 b.t]] w fun e w' => e = .returned (.agg #[.int .i64 (mirBoard b).f, .int .i64 (mirBoard b).o, .int .i64 (mirBoard b).t]) ∧ Below w.heap.size w w' := by
  rcases Bool.eq_false_or_eq_true (boardB b) with hB | hB
  · obtain ⟨f, o, t, rfl, hb⟩ := boardB_nat hB
    have h63 := hb.b63
    have H := Lib.hid (show (Value.agg #[.int .i64 (mirBoard ⟨f, o, t⟩).f, .int .i64 (mirBoard ⟨f, o, t⟩).o, .int .i64 (mirBoard ⟨f, o, t⟩).t]) = .agg #[.int .i64 f, .int .i64 o, .int .i64 (mirS ⟨f, o, t⟩ t)] by simp [mirBoard, hB])
    go_enter Try.func31, Try.ntmps31
    go_wp2_with fail
    refine (is_ (iBoardOk_ ⟨f, o, t⟩ _) hB).mono ?_
    rintro e w1 ⟨rfl, hb1⟩
    obtain ⟨hc1, hf1⟩ := bcell hb1
    have hz1 : w.heap.size + 1 < w1.heap.size := by have := hb1.size; simp at this; omega
    have c0 : w1.cell? ⟨w.heap.size, 0, none⟩ = some (.int .i64 f) := by rw [hc1 _ _ (by simp; omega)]; simp [go_sem]
    have c1 : w1.cell? ⟨w.heap.size, 1, none⟩ = some (.int .i64 o) := by rw [hc1 _ _ (by simp; omega)]; simp [go_sem]
    have c2 : w1.cell? ⟨w.heap.size, 2, none⟩ = some (.int .i64 t) := by rw [hc1 _ _ (by simp; omega)]; simp [go_sem]
    have r0 : w1.cell? ⟨w.heap.size + 1, 0, none⟩ = some (.int .i64 0) := by rw [hc1 _ _ (by simp)]; simp [go_sem]
    have r1 : w1.cell? ⟨w.heap.size + 1, 1, none⟩ = some (.int .i64 0) := by rw [hc1 _ _ (by simp)]; simp [go_sem]
    have r2 : w1.cell? ⟨w.heap.size + 1, 2, none⟩ = some (.int .i64 0) := by rw [hc1 _ _ (by simp)]; simp [go_sem]
    have f0 : w1.frozen? ⟨w.heap.size + 1, 0, none⟩ = false := by rw [hf1 _ _ (by simp)]; simp [go_sem]
    have f1 : w1.frozen? ⟨w.heap.size + 1, 1, none⟩ = false := by rw [hf1 _ _ (by simp)]; simp [go_sem]
    have f2 : w1.frozen? ⟨w.heap.size + 1, 2, none⟩ = false := by rw [hf1 _ _ (by simp)]; simp [go_sem]
    have hw1 : Below w.heap.size w w1 := below_step (((Below.refl _ _).alloc (Nat.le_refl _) _).alloc (by simp) _) hb1 (by simp; omega)
    clear hc1 hf1 hb1
    go_wp2_with fail
    have hc : ∀ (a : Addr) (p : Regrown) (W : World), a.block < W.heap.size → (grow (redrawn W p.d) p.os).cell? a = W.cell? a := fun a p W h => (below_regrown W p.d p.os).cell h
    have hz0 : w.heap.size < w1.heap.size := by omega
    refine region_tail 9 (by kernel_rfl) (by kernel_rfl) ?_
    simp only [List.take_succ_cons, List.take_zero, List.drop_succ_cons, List.drop_zero]
    repeat (go_big_quiet_step (first | (go_at_call 105; exact Calls.regrown_of (mirrorSet_ f o t t hb h63 _))))
    refine wpQuiet_nil ?_
    intro w2 hw2
    obtain ⟨p2, hp2⟩ := hw2
    have hb2 := of_rg hp2
    clear hp2 p2 hc
    obtain ⟨hc2, hf2⟩ := bcell hb2
    go_wp2
    have hz2 : w.heap.size + 1 < w2.heap.size := Nat.lt_of_lt_of_le hz1 hb2.size
    refine bodyPost_ret (v := .agg #[.int .i64 f, .int .i64 o, .int .i64 (mirS ⟨f, o, t⟩ t)]) (by simp [results, Try.results31, go_sem, *]) rfl ⟨by rw [H.out], ?_⟩
    exact (((below_next hw1 hb2).setCell (by simp) _).setCell (by simp) _).setCell (by simp) _
  · have H := Lib.hid (show (Value.agg #[.int .i64 (mirBoard b).f, .int .i64 (mirBoard b).o, .int .i64 (mirBoard b).t]) = .agg #[.int .i64 0, .int .i64 0, .int .i64 0] by simp [mirBoard, hB])
    go_enter Try.func31, Try.ntmps31
    go_wp2_with fail
    refine (is_ (iBoardOk_ b _) hB).mono ?_
    rintro e w1 ⟨rfl, hb1⟩
    obtain ⟨hc1, hf1⟩ := bcell hb1
    have hz1 : w.heap.size + 1 < w1.heap.size := by have := hb1.size; simp at this; omega
    have c0 : w1.cell? ⟨w.heap.size, 0, none⟩ = some (.int .i64 b.f) := by rw [hc1 _ _ (by simp; omega)]; simp [go_sem]
    have c1 : w1.cell? ⟨w.heap.size, 1, none⟩ = some (.int .i64 b.o) := by rw [hc1 _ _ (by simp; omega)]; simp [go_sem]
    have c2 : w1.cell? ⟨w.heap.size, 2, none⟩ = some (.int .i64 b.t) := by rw [hc1 _ _ (by simp; omega)]; simp [go_sem]
    have r0 : w1.cell? ⟨w.heap.size + 1, 0, none⟩ = some (.int .i64 0) := by rw [hc1 _ _ (by simp)]; simp [go_sem]
    have r1 : w1.cell? ⟨w.heap.size + 1, 1, none⟩ = some (.int .i64 0) := by rw [hc1 _ _ (by simp)]; simp [go_sem]
    have r2 : w1.cell? ⟨w.heap.size + 1, 2, none⟩ = some (.int .i64 0) := by rw [hc1 _ _ (by simp)]; simp [go_sem]
    have f0 : w1.frozen? ⟨w.heap.size + 1, 0, none⟩ = false := by rw [hf1 _ _ (by simp)]; simp [go_sem]
    have f1 : w1.frozen? ⟨w.heap.size + 1, 1, none⟩ = false := by rw [hf1 _ _ (by simp)]; simp [go_sem]
    have f2 : w1.frozen? ⟨w.heap.size + 1, 2, none⟩ = false := by rw [hf1 _ _ (by simp)]; simp [go_sem]
    have hw1 : Below w.heap.size w w1 := below_step (((Below.refl _ _).alloc (Nat.le_refl _) _).alloc (by simp) _) hb1 (by simp; omega)
    clear hc1 hf1 hb1
    go_wp2
    refine bodyPost_ret (v := .agg #[.int .i64 0, .int .i64 0, .int .i64 0]) (by simp [results, Try.results31, go_sem, r0, r1, r2]) rfl ⟨by rw [H.out], ?_⟩
    exact ((hw1.setCell (by simp) _).setCell (by simp) _).setCell (by simp) _
set_option maxHeartbeats 1000000 in
theorem iTurnBoard_ (b : Ln) (w : World) :
    Calls Try.prog 30 #[.agg #[.int .i64 b.f, .int .i64 b.o, .int .i64 b.t]] w fun e w' => e = .returned (.agg #[.int .i64 (turnBoard b).f, .int .i64 (turnBoard b).o, .int .i64 (turnBoard b).t]) ∧ Below w.heap.size w w' := by
  rcases Bool.eq_false_or_eq_true (boardB b) with hB | hB
  · obtain ⟨f, o, t, rfl, hb⟩ := boardB_nat hB
    have h63 := hb.b63
    have H := Lib.hid (show (Value.agg #[.int .i64 (turnBoard ⟨f, o, t⟩).f, .int .i64 (turnBoard ⟨f, o, t⟩).o, .int .i64 (turnBoard ⟨f, o, t⟩).t]) = .agg #[.int .i64 o, .int .i64 f, .int .i64 (turnS ⟨f, o, t⟩ t)] by simp [turnBoard, hB])
    go_enter Try.func30, Try.ntmps30
    go_wp2_with fail
    refine (is_ (iBoardOk_ ⟨f, o, t⟩ _) hB).mono ?_
    rintro e w1 ⟨rfl, hb1⟩
    obtain ⟨hc1, hf1⟩ := bcell hb1
    have hz1 : w.heap.size + 1 < w1.heap.size := by have := hb1.size; simp at this; omega
    have c0 : w1.cell? ⟨w.heap.size, 0, none⟩ = some (.int .i64 f) := by rw [hc1 _ _ (by simp; omega)]; simp [go_sem]
    have c1 : w1.cell? ⟨w.heap.size, 1, none⟩ = some (.int .i64 o) := by rw [hc1 _ _ (by simp; omega)]; simp [go_sem]
    have c2 : w1.cell? ⟨w.heap.size, 2, none⟩ = some (.int .i64 t) := by rw [hc1 _ _ (by simp; omega)]; simp [go_sem]
    have r0 : w1.cell? ⟨w.heap.size + 1, 0, none⟩ = some (.int .i64 0) := by rw [hc1 _ _ (by simp)]; simp [go_sem]
    have r1 : w1.cell? ⟨w.heap.size + 1, 1, none⟩ = some (.int .i64 0) := by rw [hc1 _ _ (by simp)]; simp [go_sem]
    have r2 : w1.cell? ⟨w.heap.size + 1, 2, none⟩ = some (.int .i64 0) := by rw [hc1 _ _ (by simp)]; simp [go_sem]
    have f0 : w1.frozen? ⟨w.heap.size + 1, 0, none⟩ = false := by rw [hf1 _ _ (by simp)]; simp [go_sem]
    have f1 : w1.frozen? ⟨w.heap.size + 1, 1, none⟩ = false := by rw [hf1 _ _ (by simp)]; simp [go_sem]
    have f2 : w1.frozen? ⟨w.heap.size + 1, 2, none⟩ = false := by rw [hf1 _ _ (by simp)]; simp [go_sem]
    have hw1 : Below w.heap.size w w1 := below_step (((Below.refl _ _).alloc (Nat.le_refl _) _).alloc (by simp) _) hb1 (by simp; omega)
    clear hc1 hf1 hb1
    go_wp2_with fail
    have hc : ∀ (a : Addr) (p : Regrown) (W : World), a.block < W.heap.size → (grow (redrawn W p.d) p.os).cell? a = W.cell? a := fun a p W h => (below_regrown W p.d p.os).cell h
    have hz0 : w.heap.size < w1.heap.size := by omega
    refine region_tail 9 (by kernel_rfl) (by kernel_rfl) ?_
    simp only [List.take_succ_cons, List.take_zero, List.drop_succ_cons, List.drop_zero]
    repeat (go_big_quiet_step (first | (go_at_call 104; exact Calls.regrown_of (turnSet_ f o t t hb h63 _))))
    refine wpQuiet_nil ?_
    intro w2 hw2
    obtain ⟨p2, hp2⟩ := hw2
    have hb2 := of_rg hp2
    clear hp2 p2 hc
    obtain ⟨hc2, hf2⟩ := bcell hb2
    go_wp2
    have hz2 : w.heap.size + 1 < w2.heap.size := Nat.lt_of_lt_of_le hz1 hb2.size
    refine bodyPost_ret (v := .agg #[.int .i64 o, .int .i64 f, .int .i64 (turnS ⟨f, o, t⟩ t)]) (by simp [results, Try.results30, go_sem, *]) rfl ⟨by rw [H.out], ?_⟩
    exact (((below_next hw1 hb2).setCell (by simp) _).setCell (by simp) _).setCell (by simp) _
  · have H := Lib.hid (show (Value.agg #[.int .i64 (turnBoard b).f, .int .i64 (turnBoard b).o, .int .i64 (turnBoard b).t]) = .agg #[.int .i64 0, .int .i64 0, .int .i64 0] by simp [turnBoard, hB])
    go_enter Try.func30, Try.ntmps30
    go_wp2_with fail
    refine (is_ (iBoardOk_ b _) hB).mono ?_
    rintro e w1 ⟨rfl, hb1⟩
    obtain ⟨hc1, hf1⟩ := bcell hb1
    have hz1 : w.heap.size + 1 < w1.heap.size := by have := hb1.size; simp at this; omega
    have c0 : w1.cell? ⟨w.heap.size, 0, none⟩ = some (.int .i64 b.f) := by rw [hc1 _ _ (by simp; omega)]; simp [go_sem]
    have c1 : w1.cell? ⟨w.heap.size, 1, none⟩ = some (.int .i64 b.o) := by rw [hc1 _ _ (by simp; omega)]; simp [go_sem]
    have c2 : w1.cell? ⟨w.heap.size, 2, none⟩ = some (.int .i64 b.t) := by rw [hc1 _ _ (by simp; omega)]; simp [go_sem]
    have r0 : w1.cell? ⟨w.heap.size + 1, 0, none⟩ = some (.int .i64 0) := by rw [hc1 _ _ (by simp)]; simp [go_sem]
    have r1 : w1.cell? ⟨w.heap.size + 1, 1, none⟩ = some (.int .i64 0) := by rw [hc1 _ _ (by simp)]; simp [go_sem]
    have r2 : w1.cell? ⟨w.heap.size + 1, 2, none⟩ = some (.int .i64 0) := by rw [hc1 _ _ (by simp)]; simp [go_sem]
    have f0 : w1.frozen? ⟨w.heap.size + 1, 0, none⟩ = false := by rw [hf1 _ _ (by simp)]; simp [go_sem]
    have f1 : w1.frozen? ⟨w.heap.size + 1, 1, none⟩ = false := by rw [hf1 _ _ (by simp)]; simp [go_sem]
    have f2 : w1.frozen? ⟨w.heap.size + 1, 2, none⟩ = false := by rw [hf1 _ _ (by simp)]; simp [go_sem]
    have hw1 : Below w.heap.size w w1 := below_step (((Below.refl _ _).alloc (Nat.le_refl _) _).alloc (by simp) _) hb1 (by simp; omega)
    clear hc1 hf1 hb1
    go_wp2
    refine bodyPost_ret (v := .agg #[.int .i64 0, .int .i64 0, .int .i64 0]) (by simp [results, Try.results30, go_sem, r0, r1, r2]) rfl ⟨by rw [H.out], ?_⟩
    exact ((hw1.setCell (by simp) _).setCell (by simp) _).setCell (by simp) _
theorem iIsMirrored_ (b : Ln) (w : World) :
    Calls Try.prog 39 #[.agg #[.int .i64 b.f, .int .i64 b.o, .int .i64 b.t]] w fun e w' => e = .returned (.bool (isMirB b)) ∧ Below w.heap.size w w' := by
  have hc : ∀ (a : Addr) (p : Regrown) (W : World), a.block < W.heap.size → (grow (redrawn W p.d) p.os).cell? a = W.cell? a := fun a p W h => (below_regrown W p.d p.os).cell h
  rcases Bool.eq_false_or_eq_true (boardB b) with hB | hB
  · have H := Lib.hid (show isMirB b = eqL (mirBoard b) b by simp [isMirB, hB])
    have heq := fun (a b : Ln) (w : World) => board_eql a b w
    go_enter Try.func39, Try.ntmps39
    go_wp2_with fail
    refine wp_region_quiet_below (by kernel_rfl) (by kernel_rfl) ?_
    repeat (go_big_quiet_step (first | (go_at_call 103; exact Calls.regrown_of (is_ (iBoardOk_ b _) hB)) | (go_at_call 31; exact Calls.regrown_of (iMirrorBoard_ b _))))
    refine wpQuiet_nil ?_
    intro w1 hw1
    obtain ⟨p1, hp1⟩ := hw1
    have hb1 := of_rg hp1
    clear hp1 p1 hc
    go_wp2
    go_ret
    exact ⟨ret_bool H.out.symm, below_step ((Below.refl _ _).alloc (Nat.le_refl _) _) hb1 (by simp)⟩
  · have H := Lib.hid (show isMirB b = false by simp [isMirB, hB])
    go_enter Try.func39, Try.ntmps39
    go_wp2_with fail
    refine wp_region_quiet_below (by kernel_rfl) (by kernel_rfl) ?_
    repeat (go_big_quiet_step (first | (go_at_call 103; exact Calls.regrown_of (is_ (iBoardOk_ b _) hB))))
    refine wpQuiet_nil ?_
    intro w1 hw1
    obtain ⟨p1, hp1⟩ := hw1
    have hb1 := of_rg hp1
    clear hp1 p1 hc
    go_wp2
    go_ret
    exact ⟨ret_bool H.out.symm, below_step ((Below.refl _ _).alloc (Nat.le_refl _) _) hb1 (by simp)⟩
theorem iIsTurned_ (b : Ln) (w : World) :
    Calls Try.prog 38 #[.agg #[.int .i64 b.f, .int .i64 b.o, .int .i64 b.t]] w fun e w' => e = .returned (.bool (isTurnB b)) ∧ Below w.heap.size w w' := by
  have hc : ∀ (a : Addr) (p : Regrown) (W : World), a.block < W.heap.size → (grow (redrawn W p.d) p.os).cell? a = W.cell? a := fun a p W h => (below_regrown W p.d p.os).cell h
  rcases Bool.eq_false_or_eq_true (boardB b) with hB | hB
  · have H := Lib.hid (show isTurnB b = eqL (turnBoard b) b by simp [isTurnB, hB])
    have heq := fun (a b : Ln) (w : World) => board_eql a b w
    go_enter Try.func38, Try.ntmps38
    go_wp2_with fail
    refine wp_region_quiet_below (by kernel_rfl) (by kernel_rfl) ?_
    repeat (go_big_quiet_step (first | (go_at_call 103; exact Calls.regrown_of (is_ (iBoardOk_ b _) hB)) | (go_at_call 30; exact Calls.regrown_of (iTurnBoard_ b _))))
    refine wpQuiet_nil ?_
    intro w1 hw1
    obtain ⟨p1, hp1⟩ := hw1
    have hb1 := of_rg hp1
    clear hp1 p1 hc
    go_wp2
    go_ret
    exact ⟨ret_bool H.out.symm, below_step ((Below.refl _ _).alloc (Nat.le_refl _) _) hb1 (by simp)⟩
  · have H := Lib.hid (show isTurnB b = false by simp [isTurnB, hB])
    go_enter Try.func38, Try.ntmps38
    go_wp2_with fail
    refine wp_region_quiet_below (by kernel_rfl) (by kernel_rfl) ?_
    repeat (go_big_quiet_step (first | (go_at_call 103; exact Calls.regrown_of (is_ (iBoardOk_ b _) hB))))
    refine wpQuiet_nil ?_
    intro w1 hw1
    obtain ⟨p1, hp1⟩ := hw1
    have hb1 := of_rg hp1
    clear hp1 p1 hc
    go_wp2
    go_ret
    exact ⟨ret_bool H.out.symm, below_step ((Below.refl _ _).alloc (Nat.le_refl _) _) hb1 (by simp)⟩
end Go.Proofs.Ytbcgokpamhgabaa

/- The contract of sweeperOf. -/
import Derived.Test.YtliljgmpdfdakaaChecked
import Derived.Test.YtliljgmpdfdakaaMem
import Derived.Tactics
import Derived.Tactics2
import Derived.WalkKit
import Derived.WalkSpells
import Derived.WalkLawsBesides
import Derived.Deep.QuietTactic
import Derived.BigQuiet
import Derived.BigGuardPart
import Derived.Lib.QuietBelow
import Derived.OwnWalk
import Derived.KernelRfl
import Derived.Deep.RegionHeld3
import Derived.Test.YtliljgmpdfdakaaSweep
import Derived.Test.YtliljgmpdfdakaaWayF
set_option linter.unusedVariables false
set_option maxRecDepth 20000
namespace Go.Proofs.Ytliljgmpdfdakaa
open Go.RowKit Go.Sort Go.Maps

theorem sw_cells {w : World} {B T : Nat} {v0 v1 v2 v3 : Value} (h : w.heap[B]? = some (.cells #[v0, v1, v2, v3] T (0, 0))) :
    w.cell? ⟨B, 0, none⟩ = some v0 ∧ w.cell? ⟨B, 1, none⟩ = some v1 ∧ w.cell? ⟨B, 2, none⟩ = some v2 ∧ w.cell? ⟨B, 3, none⟩ = some v3 ∧
    w.frozen? ⟨B, 0, none⟩ = false ∧ w.frozen? ⟨B, 1, none⟩ = false ∧ w.frozen? ⟨B, 2, none⟩ = false ∧ w.frozen? ⟨B, 3, none⟩ = false := by
  simp [World.cell?, World.frozen?, h]
/-- A board's box, and behind it a sweeper's, still empty. -/
def SwZ (w : World) (B TB T : Nat) (b : Ln) : Prop := w.heap[B]? = some (.cells #[.int .i64 b.f, .int .i64 b.o, .int .i64 b.t] TB (0, 0)) ∧ w.heap[B + 1]? = some (.cells #[.slice none 0 0, .slice none 0 0, .int .i64 0, .map none] T (0, 0))
theorem SwZ.next {w w' : World} {B TB T n : Nat} {b : Ln} (hb : Below n w w') (hB : B + 1 < n) (h : SwZ w B TB T b) : SwZ w' B TB T b := ⟨(hb.block B (by omega)).trans h.1, (hb.block (B + 1) hB).trans h.2⟩
theorem SwZ.alloc {w : World} {B TB T : Nat} {b : Ln} (h : SwZ w B TB T b) (o : Obj) : SwZ (w.alloc o) B TB T b := by
  have hB : B + 1 < w.heap.size := (Array.getElem?_eq_some_iff.1 h.2).1
  exact ⟨(heap_alloc_old w o (by omega)).trans h.1, (heap_alloc_old w o hB).trans h.2⟩
theorem bd_cells {w : World} {B TB T : Nat} {b : Ln} (h : SwZ w B TB T b) : w.cell? ⟨B, 0, none⟩ = some (.int .i64 b.f) ∧ w.cell? ⟨B, 1, none⟩ = some (.int .i64 b.o) ∧ w.cell? ⟨B, 2, none⟩ = some (.int .i64 b.t) := by
  simp [World.cell?, h.1]
theorem memoA_of {w : World} {M : Nat} (h : w.heap[M]? = some (.map #[] 0)) (N : Nat) (f : Nat → Int → Int) : MemoA w M N f :=
  ⟨0, .map [], ⟨#[], 0, h, ⟨by simp, MapKept.stamped_empty 0, by simp⟩, Nat.le_refl _, rfl⟩, rfl, Nat.zero_le _, fun p a _ _ _ h => by simp [Maps.has] at h⟩
theorem off_map {w : World} {M : Nat} (h : w.heap[M]? = some (.map #[] 0)) {b off : Nat} {v : Value} (hc : w.cell? ⟨b, off, none⟩ = some v) : b ≠ M := by
  rintro rfl
  simp [World.cell?, h] at hc
theorem sw_close {W U w' : World} {b : Ln} {A A2 : Option Addr} {M TB T : Nat} {ls : List Ln} {bs : List Bool} (hB : Below W.heap.size W U) (hz2 : W.heap.size + 1 < U.heap.size) (hU : U.grownBy w' (some (W.heap.size + 1)))
    (rL : Rd U U.heap.size A (flat ls)) (hlo : ∀ a, A = some a → W.heap.size + 1 < a.block) (rS : Rd U U.heap.size A2 (bools bs)) (hz : SwZ U W.heap.size TB T b)
    (hM : w'.heap[M]? = some (.map #[] 0)) (hMlo : W.heap.size ≤ M) :
    RdM w' M A (flat ls) ∧ RdM w' M A2 (bools bs) ∧ M < w'.heap.size ∧ W.heap.size ≤ M ∧ (∀ N f, MemoA w' M N f) ∧ Below W.heap.size W w' := by
  refine ⟨fun hn => ?_, fun hn => ?_, (Array.getElem?_eq_some_iff.1 hM).1, hMlo, memoA_of hM, hB.grown hU (by omega) (fun k hk => by injection hk with hk; omega)⟩
  · obtain ⟨bb, off, rfl, hbb, hc⟩ := rL hn
    have hl := hlo _ rfl
    simp at hl
    have hk : ∀ j u, (flat ls)[j]? = some u → w'.cell? ⟨bb, off + j, none⟩ = some u := fun j u hu => (World.cell?_of_block (a := ⟨bb, off + j, none⟩) (hU.block bb hbb (fun e => by injection e with e; omega))).trans (hc j u hu)
    exact ⟨bb, off, rfl, Nat.lt_of_lt_of_le hbb hU.size, off_map hM (hk 0 _ (List.getElem?_eq_getElem hn)), hk⟩
  · obtain ⟨bb, off, rfl, hbb, hc⟩ := rS hn
    have h0 : (bools bs)[0]? = some (bools bs)[0] := List.getElem?_eq_getElem hn
    have hv : ∃ x, (bools bs)[0] = Value.bool x := by simp [bools]
    obtain ⟨x, hx⟩ := hv
    have hne : bb ≠ W.heap.size + 1 := by
      rintro rfl
      have h1 := hc 0 _ h0
      rw [hx, Nat.add_zero, World.cell?] at h1
      simp only [hz.2] at h1
      rcases off with _ | _ | _ | _ | off <;> simp at h1
    have hk : ∀ j u, (bools bs)[j]? = some u → w'.cell? ⟨bb, off + j, none⟩ = some u := fun j u hu => (World.cell?_of_block (a := ⟨bb, off + j, none⟩) (hU.block bb hbb (fun e => by injection e with e; omega))).trans (hc j u hu)
    exact ⟨bb, off, rfl, Nat.lt_of_lt_of_le hbb hU.size, off_map hM (hk 0 _ h0), hk⟩
theorem grown_four (w : World) (B : Nat) (v0 v1 v2 v3 : Value) : w.grownBy ((((w.setCell ⟨B, 0, none⟩ v0).setCell ⟨B, 1, none⟩ v1).setCell ⟨B, 2, none⟩ v2).setCell ⟨B, 3, none⟩ v3) (some B) :=
  grown_then (grown_then (grown_then (grown_set w ⟨B, 0, none⟩ v0) (grown_set _ ⟨B, 1, none⟩ v1)) (grown_set _ ⟨B, 2, none⟩ v2)) (grown_set _ ⟨B, 3, none⟩ v3)
/-- The call hands back a sweeper of its own. -/
def GivesSweeper (w : World) (ls : List Ln) (bs : List Bool) (g : Int) (e : Ending) (w' : World) : Prop :=
  ∃ A c A2 c2 M, e = .returned (.agg #[.slice A ls.length c, .slice A2 bs.length c2, .int .i64 g, .map (some M)]) ∧ RdM w' M A (flat ls) ∧ RdM w' M A2 (bools bs) ∧ M < w'.heap.size ∧ w.heap.size ≤ M ∧ (∀ N f, MemoA w' M N f) ∧ Below w.heap.size w w'
set_option maxHeartbeats 4000000 in
theorem sweeperOf_ (b : Ln) (g : Int) (hg : I64 g) (W : World) :
    Calls Try.prog 53 #[.agg #[.int .i64 b.f, .int .i64 b.o, .int .i64 b.t], .int .i64 g] W (GivesSweeper W (linesL b) (spreadL b g true) g) := by
  have hmm := @run_makeMap Try.prog
  go_enter Try.func53, Try.ntmps53
  go_wp2_with fail
  have KB : Hid (SwZ ((W.alloc (.cells #[.int .i64 b.f, .int .i64 b.o, .int .i64 b.t] 25)).alloc (.cells #[.slice none 0 0, .slice none 0 0, .int .i64 0, .map none] 73)) W.heap.size 25 73 b) := Lib.hid (by
    have := heap_alloc_new (W.alloc (.cells #[.int .i64 b.f, .int .i64 b.o, .int .i64 b.t] 25)) (.cells #[.slice none 0 0, .slice none 0 0, .int .i64 0, .map none] 73)
    exact ⟨(heap_alloc_old _ _ (by simp)).trans (heap_alloc_new W _), by simpa using this⟩)
  have HB0 : Hid (Below W.heap.size W ((W.alloc (.cells #[.int .i64 b.f, .int .i64 b.o, .int .i64 b.t] 25)).alloc (.cells #[.slice none 0 0, .slice none 0 0, .int .i64 0, .map none] 73))) := Lib.hid (((Below.refl _ _).alloc (Nat.le_refl _) _).alloc (by simp) _)
  go_region_held3 (fun w' => w'.cell? ⟨W.heap.size, 0, none⟩ = some (.int .i64 b.f) ∧ w'.cell? ⟨W.heap.size, 1, none⟩ = some (.int .i64 b.o) ∧ w'.cell? ⟨W.heap.size, 2, none⟩ = some (.int .i64 b.t)) (first | exact ⟨e0, e1, e2⟩ | go_keep) (first
    | (go_at_call 76; refine (iLinesOfL_ b _).mono ?_; rintro e wL ⟨A, k, rfl, rdL, hbL, hloL⟩; have szL := hbL.size; (try simp at szL); have zL : W.heap.size + 1 < wL.heap.size := (by omega); have zL0 : W.heap.size < wL.heap.size := (by omega); have KL := Lib.hid (show SwZ wL W.heap.size 25 73 b by first | exact SwZ.next hbL (by (try simp) <;> (try omega)) KB.out | exact SwZ.next hbL (by omega) KS.out | exact SwZ.next hbL (by (try simp) <;> (try omega)) (SwZ.alloc KS.out _) | exact SwZ.next hbL (by (try simp) <;> (try omega)) (SwZ.alloc KB.out _)); obtain ⟨k0, k1, k2, k3, f0, f1, f2, f3⟩ := sw_cells KL.out.2; obtain ⟨e0, e1, e2⟩ := bd_cells KL.out; (try (replace rdS := rdS.next hbL)); (try (replace rdS := (rdS.laid _).next hbL)); have hwL : Below W.heap.size W wL := (by first | exact below_step HB0.out.drew hbL (by simp; try omega) | exact below_step ((HB0.out.alloc (by simp; try omega) _).drew) hbL (by simp; try omega) | exact below_step hwS hbL (by omega) | exact below_step (hwS.alloc (by omega) _) hbL (by simp; omega)))
    | (go_at_call 79; refine (spreadOf_ b g true hg _).mono ?_; rintro e wS ⟨A2, k2', rfl, rdS, hbS⟩; have szS := hbS.size; (try simp at szS); have zS : W.heap.size + 1 < wS.heap.size := (by omega); have zS0 : W.heap.size < wS.heap.size := (by omega); have KS := Lib.hid (show SwZ wS W.heap.size 25 73 b by first | exact SwZ.next hbS (by (try simp) <;> (try omega)) KB.out | exact SwZ.next hbS (by omega) KL.out | exact SwZ.next hbS (by (try simp) <;> (try omega)) (SwZ.alloc KL.out _) | exact SwZ.next hbS (by (try simp) <;> (try omega)) (SwZ.alloc KB.out _)); obtain ⟨k0, k1, k2, k3, f0, f1, f2, f3⟩ := sw_cells KS.out.2; obtain ⟨e0, e1, e2⟩ := bd_cells KS.out; (try (replace rdL := rdL.next hbS)); (try (replace rdL := (rdL.laid _).next hbS)); have hwS : Below W.heap.size W wS := (by first | exact below_step HB0.out.drew hbS (by simp; try omega) | exact below_step ((HB0.out.alloc (by simp; try omega) _).drew) hbS (by simp; try omega) | exact below_step hwL hbS (by omega) | exact below_step (hwL.alloc (by omega) _) hbS (by simp; omega))))
  · have HLO := Lib.hid (show ∀ a, A = some a → W.heap.size + 1 < a.block from fun a ha => by have := hloL a ha; (try simp at this); omega)
    have HMM := Lib.hid (show (((((wS.setCell ⟨W.heap.size + 1, 0, none⟩ (.slice A (linesL b).length k)).setCell ⟨W.heap.size + 1, 1, none⟩ (.slice A2 (spreadL b g true).length k2')).setCell ⟨W.heap.size + 1, 2, none⟩ (.int .i64 g)).setCell ⟨W.heap.size + 1, 3, none⟩ (.map (some wS.heap.size))).alloc (.map #[] 0)).heap[wS.heap.size]? = some (.map #[] 0) by have := heap_alloc_new ((((wS.setCell ⟨W.heap.size + 1, 0, none⟩ (.slice A (linesL b).length k)).setCell ⟨W.heap.size + 1, 1, none⟩ (.slice A2 (spreadL b g true).length k2')).setCell ⟨W.heap.size + 1, 2, none⟩ (.int .i64 g)).setCell ⟨W.heap.size + 1, 3, none⟩ (.map (some wS.heap.size))) (.map #[] 0); simpa using this)
    have HGG := Lib.hid (grown_alloc (grown_four wS (W.heap.size + 1) (.slice A (linesL b).length k) (.slice A2 (spreadL b g true).length k2') (.int .i64 g) (.map (some (wS.heap.size)))) (.map #[] 0))
    go_wp2
    refine bodyPost_ret (v := .agg #[.slice A (linesL b).length k, .slice A2 (spreadL b g true).length k2', .int .i64 g, .map (some (wS.heap.size))]) (by simp [results, Try.results53, go_sem, *]) rfl ⟨A, k, A2, k2', wS.heap.size, rfl, sw_close (U := wS) (TB := 25) (T := 73) (b := b) hwS zS HGG.out rdL HLO.out rdS KS.out HMM.out (by omega)⟩
  · have HLO := Lib.hid (show ∀ a, A = some a → W.heap.size + 1 < a.block from fun a ha => by have := hloL a ha; (try simp at this); omega)
    have HMM := Lib.hid (((grown_four wS (W.heap.size + 1) (.slice A (linesL b).length k) (.slice A2 (spreadL b g true).length k2') (.int .i64 g) (.map (some (wL.heap.size)))).block (wL.heap.size) (by omega) (fun e => by injection e with e; omega)).trans ((hbS.block (wL.heap.size) (by simp)).trans (heap_alloc_new wL _)))
    have HGG := Lib.hid (grown_four wS (W.heap.size + 1) (.slice A (linesL b).length k) (.slice A2 (spreadL b g true).length k2') (.int .i64 g) (.map (some (wL.heap.size))))
    go_wp2
    refine bodyPost_ret (v := .agg #[.slice A (linesL b).length k, .slice A2 (spreadL b g true).length k2', .int .i64 g, .map (some (wL.heap.size))]) (by simp [results, Try.results53, go_sem, *]) rfl ⟨A, k, A2, k2', wL.heap.size, rfl, sw_close (U := wS) (TB := 25) (T := 73) (b := b) hwS zS HGG.out rdL HLO.out rdS KS.out HMM.out (by omega)⟩
  · have HLO := Lib.hid (show ∀ a, A = some a → W.heap.size + 1 < a.block from fun a ha => by have := hloL a ha; (try simp at this); omega)
    have HMM := Lib.hid (((grown_four wS (W.heap.size + 1) (.slice A (linesL b).length k) (.slice A2 (spreadL b g true).length k2') (.int .i64 g) (.map (some (W.heap.size + 1 + 1)))).block (W.heap.size + 1 + 1) (by omega) (fun e => by injection e with e; omega)).trans ((hbS.block (W.heap.size + 1 + 1) (by omega)).trans ((hbL.block (W.heap.size + 1 + 1) (by simp)).trans (show (((W.alloc (.cells #[.int .i64 b.f, .int .i64 b.o, .int .i64 b.t] 25)).alloc (.cells #[.slice none 0 0, .slice none 0 0, .int .i64 0, .map none] 73)).alloc (.map #[] 0)).heap[W.heap.size + 1 + 1]? = some (.map #[] 0) by have := heap_alloc_new ((W.alloc (.cells #[.int .i64 b.f, .int .i64 b.o, .int .i64 b.t] 25)).alloc (.cells #[.slice none 0 0, .slice none 0 0, .int .i64 0, .map none] 73)) (.map #[] 0); simpa using this))))
    have HGG := Lib.hid (grown_four wS (W.heap.size + 1) (.slice A (linesL b).length k) (.slice A2 (spreadL b g true).length k2') (.int .i64 g) (.map (some (W.heap.size + 1 + 1))))
    go_wp2
    refine bodyPost_ret (v := .agg #[.slice A (linesL b).length k, .slice A2 (spreadL b g true).length k2', .int .i64 g, .map (some (W.heap.size + 1 + 1))]) (by simp [results, Try.results53, go_sem, *]) rfl ⟨A, k, A2, k2', W.heap.size + 1 + 1, rfl, sw_close (U := wS) (TB := 25) (T := 73) (b := b) hwS zS HGG.out rdL HLO.out rdS KS.out HMM.out (by omega)⟩
end Go.Proofs.Ytliljgmpdfdakaa

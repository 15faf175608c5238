/- The contracts of SplitSweeps. -/
import Derived.Test.YtbefkagmgpcfdaaChecked
import Derived.Test.YtbefkagmgpcfdaaMem
import Derived.Tactics
import Derived.Tactics2
import Derived.WalkKit
import Derived.WalkSpells
import Derived.WalkLawsBesides
import Derived.Deep.QuietTactic
import Derived.BigQuiet
import Derived.BigGuardPart
import Derived.Lib.QuietBelow
import Derived.OwnWalk
import Derived.KernelRfl
import Derived.Deep.RegionLaw
import Derived.Test.YtbefkagmgpcfdaaGridL
import Derived.Test.YtbefkagmgpcfdaaSlab
import Derived.Test.YtbefkagmgpcfdaaHelp
import Derived.Test.YtbefkagmgpcfdaaStruct
set_option linter.unusedVariables false
set_option maxRecDepth 20000
namespace Go.Proofs.Ytbefkagmgpcfdaa
open Go.RowKit Go.Sort

theorem infoLL : (Try.prog.info? 24).map (fun i => (i.zero, i.size, i.bytes)) = some (some (.slice none 0 0), 1, 24) := by kernel_rfl
set_option maxHeartbeats 4000000 in
theorem iSplitSweeps_ (ls : List Ln) (A : Option Addr) (c : Nat) (w : World) (hr : Rd w w.heap.size A (flat ls)) (hn : ls.length ≤ 1048576) :
    Calls Try.prog 38 #[.slice A ls.length c] w (GivesRows w 24 34 (splitL ls ls.length)) := by
  obtain ⟨i0, hi, hz0, hz1, hz2⟩ := info_parts infoLine
  obtain ⟨i1, hj, hy0, hy1, hy2⟩ := info_parts infoLL
  have HSF := Lib.hid (splitL_facts ls)
  go_enter Try.func38, Try.ntmps38
  go_wp2
  go_loopw [3, 9] (fun v i wr => ∃ (k : Nat) (A' : Option Addr) (c' : Nat) (vs : List Value), k ≤ ls.length ∧ i = .int .i64 k ∧ v = .slice A' (splitL ls k).length c' ∧ Grid wr w.heap.size 24 34 3 (.slice A' (splitL ls k).length c') vs (flats (splitL ls k)) ∧ Below w.heap.size w wr) (fun _ i _ => ls.length - (intOf i).toNat)
  case atStart => exact ⟨0, _, _, [], Nat.zero_le _, rfl, rfl, Grid.lit w _ _ _ _ (Nat.le_refl _), (Below.refl _ _).alloc (Nat.le_refl _) _⟩
  case round =>
    obtain ⟨k, A', c', vs, hk, rfl, rfl, hg, hb⟩ := hrel
    have HUN := Lib.hid hg.under
    have HG0 := Lib.hid hg
    have hle : (splitL ls k).length ≤ k := by have := HSF.out k hk; have := full_len this.1; omega
    have hzb := hb.size
    clear hg
    by_cases hlt : k < ls.length
    · rcases k with _ | j
      · obtain ⟨b, off, l, rfl, hbl, hl, h0, h1, h2⟩ := (hr.below hb).line hlt
        simp only [Nat.zero_mul, Nat.add_zero] at h0 h1 h2
        have HN := Lib.hid (splitL_new (newSweep_zero ls) hl)
        have hbz : b < wr.heap.size := by omega
        have HX0 := Lib.hid (boxL_new wr l 34)
        clear hr hl
        have hc : ∀ (a : Addr) (p : Regrown) (W : World), a.block < W.heap.size → (grow (redrawn W p.d) p.os).cell? a = W.cell? a := fun a p W h => (below_regrown W p.d p.os).cell h
        go_wp2_with fail
        refine wp_region_quiet_below (by kernel_rfl) (by kernel_rfl) ?_
        repeat (go_big_quiet_step (fail))
        refine wpQuiet_nil ?_
        intro w1 hw1
        obtain ⟨p1, hp1⟩ := hw1
        have hb1 := of_rg hp1
        clear hp1 p1
        clear hc
        have HG1 := Lib.hid ((HG0.out.alloc (.cells #[.int .i64 l.f, .int .i64 l.o, .int .i64 l.t] 34)).next hb1)
        have hw1 : Below w.heap.size w w1 := below_step (hb.alloc hb.size _) hb1 (by simp; omega)
        have HX1 := Lib.hid (HX0.out.next hb1)
        clear hb1
        have HGR := Lib.hid HG1.out.own
        have hzw1 : w.heap.size ≤ w1.heap.size := hw1.size
        go_wp2_with (first | (at_builtin; refine wpList_append_own_at _ rfl (.tmp 27) (.tmp 28) 30 rfl w.heap.size 24 i1 (.slice none 0 0) 1 24 Try.underlying30 hj hy0 hy1 hy2 rfl (by decide) _ _ _ rfl (HGR.out.alloc _) ⟨w1.heap.size, 0, none⟩ 1 1 [.slice none 0 0] rfl rfl (cell_one_new _ _ _) (by intro u hu; simp at hu; subst hu; rfl) (by unfold maxLen; omega) (by omega) (by simp; omega) ?_; intro v2 w2 own2 hg2 hnil2 hat2))
        obtain ⟨A2, c2, hv2e⟩ := own_value own2
        subst hv2e
        obtain ⟨vs2, HG2, HNI2⟩ : ∃ vs2, Hid (Grid w2 w.heap.size 24 34 3 (.slice A2 ((splitL ls (0)).length + 1) c2) vs2 (flats (splitL ls (0) ++ [[]]))) ∧ Hid (∀ u ∈ vs2, ∀ q, u.ownBlock = some q → q ≠ wr.heap.size) :=
          ⟨_, Lib.hid ((HG1.out.alloc (.cells #[.slice none 0 0] 24)).room (World.ownsRow_nil _ _ _ _) (fun g hg => by cases hg) (by rw [grid_len HG1.out]) own2 hg2 hat2), Lib.hid (fun u hu q hq => by
            rcases List.mem_append.1 hu with hu | hu
            · have := HUN.out.2 u hu q hq; omega
            · simp at hu; subst hu; cases hq)⟩
        have HNV2 : Hid (∀ q, (Value.slice A2 ((splitL ls (0)).length + 1) c2).ownBlock = some q → q ≠ wr.heap.size) := Lib.hid (fun q hq => by
          rcases hat2 with h | h
          · have := HUN.out.1 q (h.symm.trans hq); omega
          · rw [h] at hq; injection hq with hq; simp at hq; have := HX1.out.1; omega)
        have hw2 : Below w.heap.size w w2 := (hw1.alloc hw1.size _).grown hg2 (by simp; omega) (fun q hq => (HGR.out.lt q hq).1)
        have HX2 := Lib.hid ((HX1.out.kept (World.grownBy_alloc w1 _ none) (by simp)).kept hg2 (fun e => by have := HUN.out.1 _ e.symm; omega))
        clear own2 hg2 hnil2 hat2
        obtain ⟨m, hm⟩ : ∃ m, (splitL ls (0)).length = m := ⟨_, rfl⟩
        have HRL : Hid ((splitL ls (0) ++ [[]]).length = m + 1) := Lib.hid (by simp [hm])
        have HRA : Hid (allN (splitL ls (0) ++ [[]]) ≤ ls.length) := Lib.hid (by rw [allN_append, (HSF.out (0) hk).2.1]; simp [allN]; try omega)
        have HNX : Hid (splitL ls (0 + 1) = addAt (splitL ls (0) ++ [[]]) m l) := Lib.hid (by rw [HN.out, hm])
        generalize splitL ls (0) ++ [[]] = rr at HG2 HRL HRA HNX
        rw [hm] at HG2 HNV2 hle ⊢
        have HLN : Hid ((splitL ls (0 + 1)).length = m + 1) := Lib.hid (by rw [HNX.out, addAt_len, HRL.out])
        have hzq : w.heap.size ≤ w2.heap.size := hw2.size
        obtain ⟨g, Ai, ci, r, rfl, hgz, hr2, hv2, ho2, hcc, hff⟩ := HG2.out.row (i := m) (by rw [HRL.out]; omega)
        obtain ⟨hxz, d0, d1, d2⟩ := HX2.out
        have HO2 := Lib.hid ho2
        have HV2 := Lib.hid hv2
        have HR2 := Lib.hid hr2
        have hra := allN_mem (List.mem_of_getElem? hr2)
        have hrb : r.length ≤ 1048576 := by have := HRA.out; omega
        have m0 : (0 : Int) ≤ (m : Int) := by omega
        have m1 : (m : Int) < (m : Int) + 1 := by omega
        have hwr1 : IntKind.i64.wrap ((m : Int) + 1 - 1) = (m : Int) := by rw [show (m : Int) + 1 - 1 = (m : Int) by omega]; exact IntWalk.i64_in _ (by omega)
        have hwr3 : IntKind.i64.wrap (((m + 1 : Nat) : Int) - 1) = (m : Int) := by rw [show ((m + 1 : Nat) : Int) - 1 = (m : Int) by omega]; exact IntWalk.i64_in _ (by omega)
        have hwr2 : IntKind.i64.wrap (m : Int) = (m : Int) := IntWalk.i64_in _ (by omega)
        have HNB := Lib.hid (show some wr.heap.size ≠ Value.ownBlock (.slice Ai r.length ci) from fun e => HNI2.out _ (List.mem_of_getElem? hv2) _ e.symm rfl)
        have HNG := Lib.hid (show some g ≠ Value.ownBlock (.slice Ai r.length ci) from fun e => HG2.out.off m _ g hv2 e.symm rfl)
        have hgb : w.heap.size ≤ g := HG2.out.over.1 g rfl
        clear hr2 hv2 ho2 hra
        have HG3 := Lib.hid (HG2.out.alloc (.cells #[.int .i64 l.f, .int .i64 l.o, .int .i64 l.t] 34)).drew
        have hcc' : (w2.alloc (.cells #[.int .i64 l.f, .int .i64 l.o, .int .i64 l.t] 34)).cell? ⟨g, m, none⟩ = some (.slice Ai r.length ci) := by rw [World.cell?_alloc_lt _ _ _ hgz]; exact hcc
        have hbg : wr.heap.size ≠ g := fun e => HNV2.out g rfl e.symm
        go_wp2_with fail
        go_region_law ((refine step_append_own _ (by rfl) (.tmp 39) (.tmp 41) 24 (by rfl) w.heap.size 34 i0 _ 3 24 Try.underlying24 hi hz0 hz1 hz2 rfl (by decide) _ _ _ (by rfl) (by exact World.ownsRow.drew (World.ownsRow.alloc HO2.out _)) ⟨w2.heap.size, 0, none⟩ 1 1 (lnC l) (by rfl) rfl (by exact cell_three_new _ _ _ _ _ rfl rfl rfl) (by intro u hu; simp [lnC] at hu; rcases hu with rfl | rfl | rfl <;> rfl) (by unfold maxLen; omega) (by omega) (by simp; omega) ?_; intro v4 w4 own4 hg4 hat4; obtain ⟨A4, c4, hv4⟩ := own_value own4; subst hv4; have e0 := held_cell hg4 hgz HNG.out hcc; have e1 := held_cell hg4 hxz HNB.out d0; have e2 := held_cell hg4 hxz HNB.out d1; have e3 := held_cell hg4 hxz HNB.out d2; have e4 := held_frozen hg4 hgz HNG.out hff; have HO4 := Lib.hid own4; have HG4 := Lib.hid hg4; have HT4 := Lib.hid hat4; clear own4 hg4 hat4))
        all_goals
          have HG5 := Lib.hid (HG3.out.add HV2.out HR2.out (l := l) HO4.out HG4.out HT4.out)
          have hw5 := ((((hw2.alloc hw2.size (.cells #[.int .i64 l.f, .int .i64 l.o, .int .i64 l.t] 34)).drew).grown HG4.out (by show w.heap.size ≤ (w2.alloc _).heap.size; simp; omega) (fun q hq => (HO2.out.lt q hq).1)).setCell (show w.heap.size ≤ (⟨g, m, none⟩ : Addr).block from hgb) (.slice A4 (r.length + 1) c4))
          go_wp2
          go_roundw
          case rel => exact ⟨0 + 1, _, _, _, by omega, by go_num, by rw [HLN.out], by rw [HLN.out, HNX.out]; exact HG5.out, hw5⟩
          case measure => simp [intOf]; omega
      · obtain ⟨b, off, l, rfl, hbl, hl, h0, h1, h2⟩ := (hr.below hb).line hlt
        obtain ⟨b', off', l', hA, hbl', hl', h0', h1', h2'⟩ := (hr.below hb).line (show j < ls.length by omega)
        injection hA with hA
        injection hA with e1 e2
        subst e1 e2
        have H := Lib.hid (newSweep_pos (by omega) hl (show ls[j + 1 - 1]? = some l' from hl'))
        have n0 : ((j : Int) + 1 == 0) = false := by simp; omega
        have n1 : (((j + 1 : Nat) : Int) == 0) = false := by simp; omega
        have i0' : (0 : Int) ≤ (j : Int) := by omega
        have i1' : (j : Int) + 1 < (ls.length : Int) := by omega
        have i2' : (j : Int) < (ls.length : Int) := by omega
        have hbz : b < wr.heap.size := by omega
        have HX0 := Lib.hid (boxL_new wr l 34)
        have hwrj : IntKind.i64.wrap ((j : Int) + 1 - 1) = (j : Int) := by rw [show (j : Int) + 1 - 1 = (j : Int) by omega]; exact IntWalk.i64_in _ (by omega)
        have hwrj2 : IntKind.i64.wrap (j : Int) = (j : Int) := IntWalk.i64_in _ (by omega)
        rcases Bool.eq_false_or_eq_true (l'.t == l.f) with hq | hq
        · have HN := Lib.hid (splitL_old (show newSweep ls (j + 1) = false by rw [H.out]; simp at hq ⊢; exact hq.symm) hl)
          have hqn : (l'.t != l.f) = false := by simp at hq; simp [hq]
          clear hr hl hl' H
          have hc : ∀ (a : Addr) (p : Regrown) (W : World), a.block < W.heap.size → (grow (redrawn W p.d) p.os).cell? a = W.cell? a := fun a p W h => (below_regrown W p.d p.os).cell h
          go_wp2_with fail
          refine wp_region_quiet_below (by kernel_rfl) (by kernel_rfl) ?_
          repeat (go_big_quiet_step (fail))
          refine wpQuiet_nil ?_
          intro w1 hw1
          obtain ⟨p1, hp1⟩ := hw1
          have hb1 := of_rg hp1
          clear hp1 p1
          clear hc
          have HG1 := Lib.hid ((HG0.out.alloc (.cells #[.int .i64 l.f, .int .i64 l.o, .int .i64 l.t] 34)).next hb1)
          have hw1 : Below w.heap.size w w1 := below_step (hb.alloc hb.size _) hb1 (by simp; omega)
          have HX1 := Lib.hid (HX0.out.next hb1)
          clear hb1
          have hk0 := (HSF.out (j + 1) hk).2.2 (by omega)
          obtain ⟨m, hm⟩ : ∃ m, (splitL ls (j + 1)).length = m + 1 := ⟨(splitL ls (j + 1)).length - 1, by omega⟩
          have HRL : Hid ((splitL ls (j + 1)).length = m + 1) := Lib.hid hm
          have HRA : Hid (allN (splitL ls (j + 1)) ≤ ls.length) := Lib.hid (by rw [(HSF.out (j + 1) hk).2.1]; omega)
          have HNX : Hid (splitL ls (j + 1 + 1) = addAt (splitL ls (j + 1)) m l) := Lib.hid (by rw [HN.out, hm]; rfl)
          obtain ⟨A2, hA2⟩ : ∃ x, A' = x := ⟨_, rfl⟩
          obtain ⟨c2, hc2⟩ : ∃ x, c' = x := ⟨_, rfl⟩
          have HNI2 : Hid (∀ u ∈ vs, ∀ q, u.ownBlock = some q → q ≠ wr.heap.size) := Lib.hid (fun u hu q hq => by have := HUN.out.2 u hu q hq; omega)
          have HNV2 : Hid (∀ q, (Value.slice A' ((splitL ls (j + 1)).length) c').ownBlock = some q → q ≠ wr.heap.size) := Lib.hid (fun q hq => by have := HUN.out.1 q hq; omega)
          have HG2 := HG1
          have hw2 := hw1
          have HX2 := HX1
          obtain ⟨w2, hww⟩ : ∃ x, w1 = x := ⟨_, rfl⟩
          rw [hww] at HG2 hw2 HX2 ⊢
          clear HG1 hw1 HX1 hk0 hww
          generalize splitL ls (j + 1) = rr at HG2 HRL HRA HNX HNV2 hm hle ⊢
          rw [hm] at HG2 HNV2 hle ⊢
          rw [hA2, hc2] at HG2 HNV2 ⊢
          clear hA2 hc2
          have HLN : Hid ((splitL ls (j + 1 + 1)).length = m + 1) := Lib.hid (by rw [HNX.out, addAt_len, HRL.out])
          have hzq : w.heap.size ≤ w2.heap.size := hw2.size
          obtain ⟨g, Ai, ci, r, rfl, hgz, hr2, hv2, ho2, hcc, hff⟩ := HG2.out.row (i := m) (by rw [HRL.out]; omega)
          obtain ⟨hxz, d0, d1, d2⟩ := HX2.out
          have HO2 := Lib.hid ho2
          have HV2 := Lib.hid hv2
          have HR2 := Lib.hid hr2
          have hra := allN_mem (List.mem_of_getElem? hr2)
          have hrb : r.length ≤ 1048576 := by have := HRA.out; omega
          have m0 : (0 : Int) ≤ (m : Int) := by omega
          have m1 : (m : Int) < (m : Int) + 1 := by omega
          have hwr1 : IntKind.i64.wrap ((m : Int) + 1 - 1) = (m : Int) := by rw [show (m : Int) + 1 - 1 = (m : Int) by omega]; exact IntWalk.i64_in _ (by omega)
          have hwr3 : IntKind.i64.wrap (((m + 1 : Nat) : Int) - 1) = (m : Int) := by rw [show ((m + 1 : Nat) : Int) - 1 = (m : Int) by omega]; exact IntWalk.i64_in _ (by omega)
          have hwr2 : IntKind.i64.wrap (m : Int) = (m : Int) := IntWalk.i64_in _ (by omega)
          have HNB := Lib.hid (show some wr.heap.size ≠ Value.ownBlock (.slice Ai r.length ci) from fun e => HNI2.out _ (List.mem_of_getElem? hv2) _ e.symm rfl)
          have HNG := Lib.hid (show some g ≠ Value.ownBlock (.slice Ai r.length ci) from fun e => HG2.out.off m _ g hv2 e.symm rfl)
          have hgb : w.heap.size ≤ g := HG2.out.over.1 g rfl
          clear hr2 hv2 ho2 hra
          have HG3 := Lib.hid (HG2.out.alloc (.cells #[.int .i64 l.f, .int .i64 l.o, .int .i64 l.t] 34)).drew
          have hcc' : (w2.alloc (.cells #[.int .i64 l.f, .int .i64 l.o, .int .i64 l.t] 34)).cell? ⟨g, m, none⟩ = some (.slice Ai r.length ci) := by rw [World.cell?_alloc_lt _ _ _ hgz]; exact hcc
          have hbg : wr.heap.size ≠ g := fun e => HNV2.out g rfl e.symm
          go_wp2_with fail
          go_region_law ((refine step_append_own _ (by rfl) (.tmp 39) (.tmp 41) 24 (by rfl) w.heap.size 34 i0 _ 3 24 Try.underlying24 hi hz0 hz1 hz2 rfl (by decide) _ _ _ (by rfl) (by exact World.ownsRow.drew (World.ownsRow.alloc HO2.out _)) ⟨w2.heap.size, 0, none⟩ 1 1 (lnC l) (by rfl) rfl (by exact cell_three_new _ _ _ _ _ rfl rfl rfl) (by intro u hu; simp [lnC] at hu; rcases hu with rfl | rfl | rfl <;> rfl) (by unfold maxLen; omega) (by omega) (by simp; omega) ?_; intro v4 w4 own4 hg4 hat4; obtain ⟨A4, c4, hv4⟩ := own_value own4; subst hv4; have e0 := held_cell hg4 hgz HNG.out hcc; have e1 := held_cell hg4 hxz HNB.out d0; have e2 := held_cell hg4 hxz HNB.out d1; have e3 := held_cell hg4 hxz HNB.out d2; have e4 := held_frozen hg4 hgz HNG.out hff; have HO4 := Lib.hid own4; have HG4 := Lib.hid hg4; have HT4 := Lib.hid hat4; clear own4 hg4 hat4))
          all_goals
            have HG5 := Lib.hid (HG3.out.add HV2.out HR2.out (l := l) HO4.out HG4.out HT4.out)
            have hw5 := ((((hw2.alloc hw2.size (.cells #[.int .i64 l.f, .int .i64 l.o, .int .i64 l.t] 34)).drew).grown HG4.out (by show w.heap.size ≤ (w2.alloc _).heap.size; simp; omega) (fun q hq => (HO2.out.lt q hq).1)).setCell (show w.heap.size ≤ (⟨g, m, none⟩ : Addr).block from hgb) (.slice A4 (r.length + 1) c4))
            go_wp2
            go_roundw
            case rel => exact ⟨j + 1 + 1, _, _, _, by omega, by go_num, by rw [HLN.out], by rw [HLN.out, HNX.out]; exact HG5.out, hw5⟩
            case measure => simp [intOf]; omega
        · have HN := Lib.hid (splitL_new (show newSweep ls (j + 1) = true by rw [H.out]; simp at hq ⊢; exact fun h => hq h.symm) hl)
          have hqn : (l'.t != l.f) = true := by simpa using hq
          clear hr hl hl' H
          have hc : ∀ (a : Addr) (p : Regrown) (W : World), a.block < W.heap.size → (grow (redrawn W p.d) p.os).cell? a = W.cell? a := fun a p W h => (below_regrown W p.d p.os).cell h
          go_wp2_with fail
          refine wp_region_quiet_below (by kernel_rfl) (by kernel_rfl) ?_
          repeat (go_big_quiet_step (fail))
          refine wpQuiet_nil ?_
          intro w1 hw1
          obtain ⟨p1, hp1⟩ := hw1
          have hb1 := of_rg hp1
          clear hp1 p1
          clear hc
          have HG1 := Lib.hid ((HG0.out.alloc (.cells #[.int .i64 l.f, .int .i64 l.o, .int .i64 l.t] 34)).next hb1)
          have hw1 : Below w.heap.size w w1 := below_step (hb.alloc hb.size _) hb1 (by simp; omega)
          have HX1 := Lib.hid (HX0.out.next hb1)
          clear hb1
          have HGR := Lib.hid HG1.out.own
          have hzw1 : w.heap.size ≤ w1.heap.size := hw1.size
          go_wp2_with (first | (at_builtin; refine wpList_append_own_at _ rfl (.tmp 27) (.tmp 28) 30 rfl w.heap.size 24 i1 (.slice none 0 0) 1 24 Try.underlying30 hj hy0 hy1 hy2 rfl (by decide) _ _ _ rfl (HGR.out.alloc _) ⟨w1.heap.size, 0, none⟩ 1 1 [.slice none 0 0] rfl rfl (cell_one_new _ _ _) (by intro u hu; simp at hu; subst hu; rfl) (by unfold maxLen; omega) (by omega) (by simp; omega) ?_; intro v2 w2 own2 hg2 hnil2 hat2))
          obtain ⟨A2, c2, hv2e⟩ := own_value own2
          subst hv2e
          obtain ⟨vs2, HG2, HNI2⟩ : ∃ vs2, Hid (Grid w2 w.heap.size 24 34 3 (.slice A2 ((splitL ls (j + 1)).length + 1) c2) vs2 (flats (splitL ls (j + 1) ++ [[]]))) ∧ Hid (∀ u ∈ vs2, ∀ q, u.ownBlock = some q → q ≠ wr.heap.size) :=
            ⟨_, Lib.hid ((HG1.out.alloc (.cells #[.slice none 0 0] 24)).room (World.ownsRow_nil _ _ _ _) (fun g hg => by cases hg) (by rw [grid_len HG1.out]) own2 hg2 hat2), Lib.hid (fun u hu q hq => by
              rcases List.mem_append.1 hu with hu | hu
              · have := HUN.out.2 u hu q hq; omega
              · simp at hu; subst hu; cases hq)⟩
          have HNV2 : Hid (∀ q, (Value.slice A2 ((splitL ls (j + 1)).length + 1) c2).ownBlock = some q → q ≠ wr.heap.size) := Lib.hid (fun q hq => by
            rcases hat2 with h | h
            · have := HUN.out.1 q (h.symm.trans hq); omega
            · rw [h] at hq; injection hq with hq; simp at hq; have := HX1.out.1; omega)
          have hw2 : Below w.heap.size w w2 := (hw1.alloc hw1.size _).grown hg2 (by simp; omega) (fun q hq => (HGR.out.lt q hq).1)
          have HX2 := Lib.hid ((HX1.out.kept (World.grownBy_alloc w1 _ none) (by simp)).kept hg2 (fun e => by have := HUN.out.1 _ e.symm; omega))
          clear own2 hg2 hnil2 hat2
          obtain ⟨m, hm⟩ : ∃ m, (splitL ls (j + 1)).length = m := ⟨_, rfl⟩
          have HRL : Hid ((splitL ls (j + 1) ++ [[]]).length = m + 1) := Lib.hid (by simp [hm])
          have HRA : Hid (allN (splitL ls (j + 1) ++ [[]]) ≤ ls.length) := Lib.hid (by rw [allN_append, (HSF.out (j + 1) hk).2.1]; simp [allN]; try omega)
          have HNX : Hid (splitL ls (j + 1 + 1) = addAt (splitL ls (j + 1) ++ [[]]) m l) := Lib.hid (by rw [HN.out, hm])
          generalize splitL ls (j + 1) ++ [[]] = rr at HG2 HRL HRA HNX
          rw [hm] at HG2 HNV2 hle ⊢
          have HLN : Hid ((splitL ls (j + 1 + 1)).length = m + 1) := Lib.hid (by rw [HNX.out, addAt_len, HRL.out])
          have hzq : w.heap.size ≤ w2.heap.size := hw2.size
          obtain ⟨g, Ai, ci, r, rfl, hgz, hr2, hv2, ho2, hcc, hff⟩ := HG2.out.row (i := m) (by rw [HRL.out]; omega)
          obtain ⟨hxz, d0, d1, d2⟩ := HX2.out
          have HO2 := Lib.hid ho2
          have HV2 := Lib.hid hv2
          have HR2 := Lib.hid hr2
          have hra := allN_mem (List.mem_of_getElem? hr2)
          have hrb : r.length ≤ 1048576 := by have := HRA.out; omega
          have m0 : (0 : Int) ≤ (m : Int) := by omega
          have m1 : (m : Int) < (m : Int) + 1 := by omega
          have hwr1 : IntKind.i64.wrap ((m : Int) + 1 - 1) = (m : Int) := by rw [show (m : Int) + 1 - 1 = (m : Int) by omega]; exact IntWalk.i64_in _ (by omega)
          have hwr3 : IntKind.i64.wrap (((m + 1 : Nat) : Int) - 1) = (m : Int) := by rw [show ((m + 1 : Nat) : Int) - 1 = (m : Int) by omega]; exact IntWalk.i64_in _ (by omega)
          have hwr2 : IntKind.i64.wrap (m : Int) = (m : Int) := IntWalk.i64_in _ (by omega)
          have HNB := Lib.hid (show some wr.heap.size ≠ Value.ownBlock (.slice Ai r.length ci) from fun e => HNI2.out _ (List.mem_of_getElem? hv2) _ e.symm rfl)
          have HNG := Lib.hid (show some g ≠ Value.ownBlock (.slice Ai r.length ci) from fun e => HG2.out.off m _ g hv2 e.symm rfl)
          have hgb : w.heap.size ≤ g := HG2.out.over.1 g rfl
          clear hr2 hv2 ho2 hra
          have HG3 := Lib.hid (HG2.out.alloc (.cells #[.int .i64 l.f, .int .i64 l.o, .int .i64 l.t] 34)).drew
          have hcc' : (w2.alloc (.cells #[.int .i64 l.f, .int .i64 l.o, .int .i64 l.t] 34)).cell? ⟨g, m, none⟩ = some (.slice Ai r.length ci) := by rw [World.cell?_alloc_lt _ _ _ hgz]; exact hcc
          have hbg : wr.heap.size ≠ g := fun e => HNV2.out g rfl e.symm
          go_wp2_with fail
          go_region_law ((refine step_append_own _ (by rfl) (.tmp 39) (.tmp 41) 24 (by rfl) w.heap.size 34 i0 _ 3 24 Try.underlying24 hi hz0 hz1 hz2 rfl (by decide) _ _ _ (by rfl) (by exact World.ownsRow.drew (World.ownsRow.alloc HO2.out _)) ⟨w2.heap.size, 0, none⟩ 1 1 (lnC l) (by rfl) rfl (by exact cell_three_new _ _ _ _ _ rfl rfl rfl) (by intro u hu; simp [lnC] at hu; rcases hu with rfl | rfl | rfl <;> rfl) (by unfold maxLen; omega) (by omega) (by simp; omega) ?_; intro v4 w4 own4 hg4 hat4; obtain ⟨A4, c4, hv4⟩ := own_value own4; subst hv4; have e0 := held_cell hg4 hgz HNG.out hcc; have e1 := held_cell hg4 hxz HNB.out d0; have e2 := held_cell hg4 hxz HNB.out d1; have e3 := held_cell hg4 hxz HNB.out d2; have e4 := held_frozen hg4 hgz HNG.out hff; have HO4 := Lib.hid own4; have HG4 := Lib.hid hg4; have HT4 := Lib.hid hat4; clear own4 hg4 hat4))
          all_goals
            have HG5 := Lib.hid (HG3.out.add HV2.out HR2.out (l := l) HO4.out HG4.out HT4.out)
            have hw5 := ((((hw2.alloc hw2.size (.cells #[.int .i64 l.f, .int .i64 l.o, .int .i64 l.t] 34)).drew).grown HG4.out (by show w.heap.size ≤ (w2.alloc _).heap.size; simp; omega) (fun q hq => (HO2.out.lt q hq).1)).setCell (show w.heap.size ≤ (⟨g, m, none⟩ : Addr).block from hgb) (.slice A4 (r.length + 1) c4))
            go_wp2
            go_roundw
            case rel => exact ⟨j + 1 + 1, _, _, _, by omega, by go_num, by rw [HLN.out], by rw [HLN.out, HNX.out]; exact HG5.out, hw5⟩
            case measure => simp [intOf]; omega
    · go_wp2
      go_ret
      have e : k = ls.length := by omega
      subst e
      exact ⟨_, _, _, rfl, HG0.out, hb⟩
end Go.Proofs.Ytbefkagmgpcfdaa

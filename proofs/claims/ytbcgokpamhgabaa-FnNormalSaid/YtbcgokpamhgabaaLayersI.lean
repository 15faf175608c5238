/- The contract of the program's LayersOf. -/
import Derived.Test.YtbcgokpamhgabaaChecked
import Derived.Test.YtbcgokpamhgabaaMem
import Derived.Tactics
import Derived.Tactics2
import Derived.WalkKit
import Derived.WalkSpells
import Derived.WalkLawsBesides
import Derived.Deep.QuietTactic
import Derived.BigQuiet
import Derived.BigGuardPart
import Derived.Lib.QuietBelow
import Derived.OwnWalk
import Derived.KernelRfl
import Derived.Deep.RegionLaw
import Derived.Test.YtbcgokpamhgabaaGridL
import Derived.Test.YtbcgokpamhgabaaSlab
import Derived.Test.YtbcgokpamhgabaaHelp
import Derived.Test.YtbcgokpamhgabaaLayersQ
import Derived.Test.YtbcgokpamhgabaaSplit
import Derived.Test.YtbcgokpamhgabaaMust
import Derived.Test.YtbcgokpamhgabaaStruct
set_option linter.unusedVariables false
set_option maxRecDepth 20000
namespace Go.Proofs.Ytbcgokpamhgabaa
open Go.RowKit Go.Sort

set_option maxHeartbeats 8000000 in
theorem iLayersOf_ (ls : List Ln) (A : Option Addr) (c : Nat) (w : World) (hr : Rd w w.heap.size A (flat ls)) (hn : ls.length ≤ 1048576) :
    Calls Try.prog 17 #[.slice A ls.length c] w (GivesRows w 24 34 (layersL ls)) := by
  obtain ⟨i0, hi, hz0, hz1, hz2⟩ := info_parts infoLine
  obtain ⟨i1, hj, hy0, hy1, hy2⟩ := info_parts infoLL
  have HLF := Lib.hid (fun k => layersL_facts (ls.take k))
  go_enter Try.func17, Try.ntmps17
  go_wp2
  go_loopw [3, 10] (fun v i wr => ∃ (k : Nat) (A' : Option Addr) (c' : Nat) (vs : List Value), k ≤ ls.length ∧ i = .int .i64 k ∧ v = .slice A' (layersL (ls.take k)).length c' ∧ Grid wr w.heap.size 24 34 3 (.slice A' (layersL (ls.take k)).length c') vs (flats (layersL (ls.take k))) ∧ Below w.heap.size w wr) (fun _ i _ => ls.length - (intOf i).toNat)
  case atStart => exact ⟨0, _, _, [], Nat.zero_le _, rfl, rfl, Grid.lit w _ _ _ _ (Nat.le_refl _), (Below.refl _ _).alloc (Nat.le_refl _) _⟩
  case round =>
    obtain ⟨k, A', c', vs, hk, rfl, rfl, hg, hb⟩ := hrel
    have HUN := Lib.hid hg.under
    have HG0 := Lib.hid hg
    have hle : (layersL (ls.take k)).length ≤ k := by have := HLF.out k; have h2 := full_len this.1; rw [this.2, List.length_take] at h2; omega
    have hzb := hb.size
    clear hg
    by_cases hlt : k < ls.length
    · obtain ⟨b, off, l, rfl, hbl, hl, h0, h1, h2⟩ := (hr.below hb).line hlt
      have HNX0 := Lib.hid (layersL_put hl rfl)
      have HRN : Hid (allN (layersL (ls.take k)) = k) := Lib.hid (by have := (HLF.out k).2; rw [List.length_take] at this; omega)
      obtain ⟨R, hR⟩ : ∃ R, layersL (ls.take k) = R := ⟨_, rfl⟩
      rw [hR] at HUN HG0 hle HNX0 HRN ⊢
      have hbz : b < wr.heap.size := by omega
      obtain ⟨wo, hwo⟩ : ∃ x, x = wr := ⟨_, rfl⟩
      obtain ⟨wb, hwb⟩ : ∃ x, x = wr.alloc (.cells #[.int .i64 l.f, .int .i64 l.o, .int .i64 l.t] 34) := ⟨_, rfl⟩
      have HXB : Hid (BoxL wb wo.heap.size l) := Lib.hid (by rw [hwb, hwo]; exact boxL_new wr l 34)
      have HGB : Hid (Grid wb w.heap.size 24 34 3 (.slice A' R.length c') vs (flats R)) := Lib.hid (by rw [hwb]; exact HG0.out.alloc _)
      have hbb : Below w.heap.size w wb := by rw [hwb]; exact hb.alloc hb.size _
      have hob : wo.heap.size < wb.heap.size := HXB.out.1
      have HTL := Lib.hid (fun n => topI_le R l n)
      have k0 : (0 : Int) ≤ (k : Int) := by omega
      have k1 : (k : Int) < (ls.length : Int) := by omega
      have HWO := Lib.hid hwo
      rw [← hwo] at HUN HG0
      clear hr hl hR hwo
      go_wp2_with fail
      rw [← hwb, ← HWO.out]
      clear hwb
      go_loopw [6] (fun nv wx => ∃ n : Nat, n ≤ R.length ∧ nv = .int .i64 n ∧ topI R l R.length = topI R l n ∧ Below wb.heap.size wb wx) (fun nv _ => (intOf nv).toNat)
      case atStart => exact ⟨R.length, Nat.le_refl _, rfl, rfl, Below.refl _ _⟩
      case round =>
        obtain ⟨n, hnR, rfl, htop, hwx⟩ := hrel
        have HT0 := Lib.hid htop
        have HGX := Lib.hid (HGB.out.next hwx)
        have HXX := Lib.hid (HXB.out.next hwx)
        have hwX : Below w.heap.size w wr := hbb.trans (hwx.mono hbb.size)
        clear htop
        obtain ⟨hxz0, y0, y1, y2⟩ := HXX.out
        rcases n with _ | p
        · have HTOP : Hid (topI R l R.length = 0) := Lib.hid (by rw [HT0.out]; rfl)
          have hc : ∀ (a : Addr) (p : Regrown) (W : World), a.block < W.heap.size → (grow (redrawn W p.d) p.os).cell? a = W.cell? a := fun a p W h => (below_regrown W p.d p.os).cell h
          go_wp2_with fail
          refine wp_region_quiet_below (by kernel_rfl) (by kernel_rfl) ?_
          repeat (go_big_quiet_step (fail))
          refine wpQuiet_nil ?_
          intro w1 hw1
          obtain ⟨p1, hp1⟩ := hw1
          have hb1 := of_rg hp1
          clear hp1 p1
          clear hc
          have HG1 := Lib.hid (HGX.out.next hb1)
          have HX1 := Lib.hid (HXX.out.next hb1)
          have hw1 : Below w.heap.size w w1 := below_next hwX hb1
          clear hb1 y0 y1 y2
          rcases Bool.eq_false_or_eq_true ((0 : Int) == (R.length : Int)) with he | he
          · have he' : 0 = R.length := by simp at he; omega
            have HE := Lib.hid he'
            clear he'
            have HGR := Lib.hid HG1.out.own
            have hzw1 : w.heap.size ≤ w1.heap.size := hw1.size
            go_wp2_with (first | (at_builtin; refine wpList_append_own_at _ rfl (.tmp 34) (.tmp 35) 30 rfl w.heap.size 24 i1 (.slice none 0 0) 1 24 Try.underlying30 hj hy0 hy1 hy2 rfl (by decide) _ _ _ rfl (HGR.out.alloc _) ⟨w1.heap.size, 0, none⟩ 1 1 [.slice none 0 0] rfl rfl (cell_one_new _ _ _) (by intro u hu; simp at hu; subst hu; rfl) (by unfold maxLen; omega) (by omega) (by simp; omega) ?_; intro v2 w2 own2 hg2 hnil2 hat2))
            obtain ⟨A2, c2, hv2e⟩ := own_value own2
            subst hv2e
            obtain ⟨vs2, HG2, HNI2⟩ : ∃ vs2, Hid (Grid w2 w.heap.size 24 34 3 (.slice A2 (R.length + 1) c2) vs2 (flats (R ++ [[]]))) ∧ Hid (∀ u ∈ vs2, ∀ q, u.ownBlock = some q → q ≠ wo.heap.size) :=
              ⟨_, Lib.hid ((HG1.out.alloc (.cells #[.slice none 0 0] 24)).room (World.ownsRow_nil _ _ _ _) (fun g hg => by cases hg) (by rw [grid_len HG1.out]) own2 hg2 hat2), Lib.hid (fun u hu q hq => by
                rcases List.mem_append.1 hu with hu | hu
                · have := HUN.out.2 u hu q hq; omega
                · simp at hu; subst hu; cases hq)⟩
            have HNV2 : Hid (∀ q, (Value.slice A2 (R.length + 1) c2).ownBlock = some q → q ≠ wo.heap.size) := Lib.hid (fun q hq => by
              rcases hat2 with h | h
              · have := HUN.out.1 q (h.symm.trans hq); omega
              · rw [h] at hq; injection hq with hq; simp at hq; have := HX1.out.1; omega)
            have hw2 : Below w.heap.size w w2 := (hw1.alloc hw1.size _).grown hg2 (by simp; omega) (fun q hq => (HGR.out.lt q hq).1)
            have HX2 := Lib.hid ((HX1.out.kept (World.grownBy_alloc w1 _ none) (by simp)).kept hg2 (fun e => by have := HUN.out.1 _ e.symm; omega))
            clear own2 hg2 hnil2 hat2
            have HRL : Hid ((R ++ [[]]).length = R.length + 1) := Lib.hid (by simp)
            have HRA : Hid (allN (R ++ [[]]) ≤ ls.length) := Lib.hid (by rw [allN_append, HRN.out]; simp [allN]; omega)
            have HNX : Hid (layersL (ls.take (k + 1)) = addAt (R ++ [[]]) (0) l) := Lib.hid (by rw [HNX0.out, HTOP.out, roomed_new HE.out])
            generalize R ++ [[]] = rr at HG2 HRL HRA HNX
            have HLN : Hid ((layersL (ls.take (k + 1))).length = R.length + 1) := Lib.hid (by rw [HNX.out, addAt_len, HRL.out])
            have hzq : w.heap.size ≤ w2.heap.size := hw2.size
            obtain ⟨g, Ai, ci, r, rfl, hgz, hr2, hv2, ho2, hcc, hff⟩ := HG2.out.row (i := 0) (by rw [HRL.out]; have := HE.out; have := HTL.out R.length; rw [HTOP.out] at this; omega)
            obtain ⟨hxz, d0, d1, d2⟩ := HX2.out
            have HO2 := Lib.hid ho2
            have HV2 := Lib.hid hv2
            have HR2 := Lib.hid hr2
            have hra := allN_mem (List.mem_of_getElem? hr2)
            have hrb : r.length ≤ 1048576 := by have := HRA.out; omega
            have m0 : (0 : Int) ≤ (0 : Int) := by omega
            have m1n : 0 < R.length + 1 := by have := HE.out; have := HTL.out R.length; rw [HTOP.out] at this; omega
            have m1 : (0 : Int) < (R.length : Int) + 1 := by have := HE.out; have := HTL.out R.length; rw [HTOP.out] at this; omega
            have HNB := Lib.hid (show some wo.heap.size ≠ Value.ownBlock (.slice Ai r.length ci) from fun e => HNI2.out _ (List.mem_of_getElem? hv2) _ e.symm rfl)
            have HNG := Lib.hid (show some g ≠ Value.ownBlock (.slice Ai r.length ci) from fun e => HG2.out.off (0) _ g hv2 e.symm rfl)
            have hgb : w.heap.size ≤ g := HG2.out.over.1 g rfl
            clear hr2 hv2 ho2 hra
            have HG3 := Lib.hid (HG2.out.alloc (.cells #[.int .i64 l.f, .int .i64 l.o, .int .i64 l.t] 34)).drew
            have hcc' : (w2.alloc (.cells #[.int .i64 l.f, .int .i64 l.o, .int .i64 l.t] 34)).cell? ⟨g, 0, none⟩ = some (.slice Ai r.length ci) := by rw [World.cell?_alloc_lt _ _ _ hgz]; exact hcc
            have hbg : wo.heap.size ≠ g := fun e => HNV2.out g rfl e.symm
            go_wp2_with fail
            go_region_law ((refine step_append_own _ (by rfl) (.tmp 42) (.tmp 44) 24 (by rfl) w.heap.size 34 i0 _ 3 24 Try.underlying24 hi hz0 hz1 hz2 rfl (by decide) _ _ _ (by rfl) (by exact World.ownsRow.drew (World.ownsRow.alloc HO2.out _)) ⟨w2.heap.size, 0, none⟩ 1 1 (lnC l) (by rfl) rfl (by exact cell_three_new _ _ _ _ _ rfl rfl rfl) (by intro u hu; simp [lnC] at hu; rcases hu with rfl | rfl | rfl <;> rfl) (by unfold maxLen; omega) (by omega) (by simp; omega) ?_; intro v4 w4 own4 hg4 hat4; obtain ⟨A4, c4, hv4⟩ := own_value own4; subst hv4; have e0 := held_cell hg4 hgz HNG.out hcc; have e1 := held_cell hg4 hxz HNB.out d0; have e2 := held_cell hg4 hxz HNB.out d1; have e3 := held_cell hg4 hxz HNB.out d2; have e4 := held_frozen hg4 hgz HNG.out hff; have HO4 := Lib.hid own4; have HG4 := Lib.hid hg4; have HT4 := Lib.hid hat4; clear own4 hg4 hat4))
            all_goals
              have HG5 := Lib.hid (HG3.out.add HV2.out HR2.out (l := l) HO4.out HG4.out HT4.out)
              have hw5 := ((((hw2.alloc hw2.size (.cells #[.int .i64 l.f, .int .i64 l.o, .int .i64 l.t] 34)).drew).grown HG4.out (by show w.heap.size ≤ (w2.alloc _).heap.size; simp; omega) (fun q hq => (HO2.out.lt q hq).1)).setCell (show w.heap.size ≤ (⟨g, 0, none⟩ : Addr).block from hgb) (.slice A4 (r.length + 1) c4))
              go_wp2
              go_roundw
              case rel => exact ⟨k + 1, _, _, _, by omega, by go_num, by rw [HLN.out], by rw [HLN.out, HNX.out]; exact HG5.out, hw5⟩
              case measure => simp [intOf]; omega
          · have he' : 0 ≠ R.length := by simp at he; omega
            have HE := Lib.hid he'
            clear he'
            have HRL : Hid (R.length = R.length) := Lib.hid rfl
            have HRA : Hid (allN R ≤ ls.length) := Lib.hid (by rw [HRN.out]; omega)
            have HNX : Hid (layersL (ls.take (k + 1)) = addAt R (0) l) := Lib.hid (by rw [HNX0.out, HTOP.out, roomed_old HE.out])
            obtain ⟨A2, hA2⟩ : ∃ x, A' = x := ⟨_, rfl⟩
            obtain ⟨c2, hc2⟩ : ∃ x, c' = x := ⟨_, rfl⟩
            have HNI2 : Hid (∀ u ∈ vs, ∀ q, u.ownBlock = some q → q ≠ wo.heap.size) := Lib.hid (fun u hu q hq => by have := HUN.out.2 u hu q hq; omega)
            have HNV2 : Hid (∀ q, (Value.slice A' R.length c').ownBlock = some q → q ≠ wo.heap.size) := Lib.hid (fun q hq => by have := HUN.out.1 q hq; omega)
            have HG2 := HG1
            have hw2 := hw1
            have HX2 := HX1
            obtain ⟨w2, hww⟩ : ∃ x, w1 = x := ⟨_, rfl⟩
            rw [hww] at HG2 hw2 HX2 ⊢
            clear HG1 hw1 HX1 hww
            rw [hA2, hc2] at HG2 HNV2 ⊢
            clear hA2 hc2
            have HLN : Hid ((layersL (ls.take (k + 1))).length = R.length) := Lib.hid (by rw [HNX.out, addAt_len, HRL.out])
            have hzq : w.heap.size ≤ w2.heap.size := hw2.size
            obtain ⟨g, Ai, ci, r, rfl, hgz, hr2, hv2, ho2, hcc, hff⟩ := HG2.out.row (i := 0) (by rw [HRL.out]; have := HE.out; have := HTL.out R.length; rw [HTOP.out] at this; omega)
            obtain ⟨hxz, d0, d1, d2⟩ := HX2.out
            have HO2 := Lib.hid ho2
            have HV2 := Lib.hid hv2
            have HR2 := Lib.hid hr2
            have hra := allN_mem (List.mem_of_getElem? hr2)
            have hrb : r.length ≤ 1048576 := by have := HRA.out; omega
            have m0 : (0 : Int) ≤ (0 : Int) := by omega
            have m1n : 0 < R.length := by have := HE.out; have := HTL.out R.length; rw [HTOP.out] at this; omega
            have m1 : (0 : Int) < (R.length : Int) := by have := HE.out; have := HTL.out R.length; rw [HTOP.out] at this; omega
            have HNB := Lib.hid (show some wo.heap.size ≠ Value.ownBlock (.slice Ai r.length ci) from fun e => HNI2.out _ (List.mem_of_getElem? hv2) _ e.symm rfl)
            have HNG := Lib.hid (show some g ≠ Value.ownBlock (.slice Ai r.length ci) from fun e => HG2.out.off (0) _ g hv2 e.symm rfl)
            have hgb : w.heap.size ≤ g := HG2.out.over.1 g rfl
            clear hr2 hv2 ho2 hra
            have HG3 := Lib.hid (HG2.out.alloc (.cells #[.int .i64 l.f, .int .i64 l.o, .int .i64 l.t] 34)).drew
            have hcc' : (w2.alloc (.cells #[.int .i64 l.f, .int .i64 l.o, .int .i64 l.t] 34)).cell? ⟨g, 0, none⟩ = some (.slice Ai r.length ci) := by rw [World.cell?_alloc_lt _ _ _ hgz]; exact hcc
            have hbg : wo.heap.size ≠ g := fun e => HNV2.out g rfl e.symm
            go_wp2_with fail
            go_region_law ((refine step_append_own _ (by rfl) (.tmp 42) (.tmp 44) 24 (by rfl) w.heap.size 34 i0 _ 3 24 Try.underlying24 hi hz0 hz1 hz2 rfl (by decide) _ _ _ (by rfl) (by exact World.ownsRow.drew (World.ownsRow.alloc HO2.out _)) ⟨w2.heap.size, 0, none⟩ 1 1 (lnC l) (by rfl) rfl (by exact cell_three_new _ _ _ _ _ rfl rfl rfl) (by intro u hu; simp [lnC] at hu; rcases hu with rfl | rfl | rfl <;> rfl) (by unfold maxLen; omega) (by omega) (by simp; omega) ?_; intro v4 w4 own4 hg4 hat4; obtain ⟨A4, c4, hv4⟩ := own_value own4; subst hv4; have e0 := held_cell hg4 hgz HNG.out hcc; have e1 := held_cell hg4 hxz HNB.out d0; have e2 := held_cell hg4 hxz HNB.out d1; have e3 := held_cell hg4 hxz HNB.out d2; have e4 := held_frozen hg4 hgz HNG.out hff; have HO4 := Lib.hid own4; have HG4 := Lib.hid hg4; have HT4 := Lib.hid hat4; clear own4 hg4 hat4))
            all_goals
              have HG5 := Lib.hid (HG3.out.add HV2.out HR2.out (l := l) HO4.out HG4.out HT4.out)
              have hw5 := ((((hw2.alloc hw2.size (.cells #[.int .i64 l.f, .int .i64 l.o, .int .i64 l.t] 34)).drew).grown HG4.out (by show w.heap.size ≤ (w2.alloc _).heap.size; simp; omega) (fun q hq => (HO2.out.lt q hq).1)).setCell (show w.heap.size ≤ (⟨g, 0, none⟩ : Addr).block from hgb) (.slice A4 (r.length + 1) c4))
              go_wp2
              go_roundw
              case rel => exact ⟨k + 1, _, _, _, by omega, by go_num, by rw [HLN.out], by rw [HLN.out, HNX.out]; exact HG5.out, hw5⟩
              case measure => simp [intOf]; omega
        · have p0 : (0 : Int) ≤ (p : Int) := by omega
          have p1 : (p : Int) < (R.length : Int) := by omega
          have p2 : (0 : Int) < (p : Int) + 1 := by omega
          have p3 : decide ((0 : Int) < (p : Int) + 1) = true := decide_eq_true p2
          have hwrj : IntKind.i64.wrap ((p : Int) + 1 - 1) = (p : Int) := by rw [show (p : Int) + 1 - 1 = (p : Int) by omega]; exact IntWalk.i64_in _ (by omega)
          have hwrj2 : IntKind.i64.wrap (p : Int) = (p : Int) := IntWalk.i64_in _ (by omega)
          obtain ⟨g, Ai, ci, r, rfl, hgz, hr2, hv2, ho2, hcc, hff⟩ := HGX.out.row (i := p) (by omega)
          have HRD := Lib.hid (rd_of_own ho2)
          have hrb : r.length ≤ 9223372036854775807 := by have := allN_mem (List.mem_of_getElem? hr2); rw [HRN.out] at this; omega
          have HTY := Lib.hid (topI_yes (l := l) hr2)
          have HTN := Lib.hid (topI_no (l := l) hr2)
          clear hr2 hv2 ho2 hff
          rcases Bool.eq_false_or_eq_true (anyD l r) with hd | hd
          · have HTOP : Hid (topI R l R.length = p + 1) := Lib.hid (by rw [HT0.out, HTY.out hd])
            have hc : ∀ (a : Addr) (p : Regrown) (W : World), a.block < W.heap.size → (grow (redrawn W p.d) p.os).cell? a = W.cell? a := fun a p W h => (below_regrown W p.d p.os).cell h
            go_wp2_with fail
            refine wp_region_quiet_below (by kernel_rfl) (by kernel_rfl) ?_
            repeat (go_big_quiet_step (first | (go_at_call 96; exact Calls.regrown_of (is_ (disturbsOne_ l r Ai r.length ci _ rfl (HRD.out.next (below_regrown _ _ _)) hrb) hd))))
            refine wpQuiet_nil ?_
            intro w1 hw1
            obtain ⟨p1, hp1⟩ := hw1
            have hb1 := of_rg hp1
            clear hp1 p1
            clear hc
            have HG1 := Lib.hid (HGX.out.next hb1)
            have HX1 := Lib.hid (HXX.out.next hb1)
            have hw1 : Below w.heap.size w w1 := below_next hwX hb1
            clear hb1 y0 y1 y2 hcc hrb
            rcases Bool.eq_false_or_eq_true (((p : Int) + 1) == (R.length : Int)) with he | he
            · have he' : p + 1 = R.length := by simp at he; omega
              have HE := Lib.hid he'
              clear he'
              have HGR := Lib.hid HG1.out.own
              have hzw1 : w.heap.size ≤ w1.heap.size := hw1.size
              go_wp2_with (first | (at_builtin; refine wpList_append_own_at _ rfl (.tmp 34) (.tmp 35) 30 rfl w.heap.size 24 i1 (.slice none 0 0) 1 24 Try.underlying30 hj hy0 hy1 hy2 rfl (by decide) _ _ _ rfl (HGR.out.alloc _) ⟨w1.heap.size, 0, none⟩ 1 1 [.slice none 0 0] rfl rfl (cell_one_new _ _ _) (by intro u hu; simp at hu; subst hu; rfl) (by unfold maxLen; omega) (by omega) (by simp; omega) ?_; intro v2 w2 own2 hg2 hnil2 hat2))
              obtain ⟨A2, c2, hv2e⟩ := own_value own2
              subst hv2e
              obtain ⟨vs2, HG2, HNI2⟩ : ∃ vs2, Hid (Grid w2 w.heap.size 24 34 3 (.slice A2 (R.length + 1) c2) vs2 (flats (R ++ [[]]))) ∧ Hid (∀ u ∈ vs2, ∀ q, u.ownBlock = some q → q ≠ wo.heap.size) :=
                ⟨_, Lib.hid ((HG1.out.alloc (.cells #[.slice none 0 0] 24)).room (World.ownsRow_nil _ _ _ _) (fun g hg => by cases hg) (by rw [grid_len HG1.out]) own2 hg2 hat2), Lib.hid (fun u hu q hq => by
                  rcases List.mem_append.1 hu with hu | hu
                  · have := HUN.out.2 u hu q hq; omega
                  · simp at hu; subst hu; cases hq)⟩
              have HNV2 : Hid (∀ q, (Value.slice A2 (R.length + 1) c2).ownBlock = some q → q ≠ wo.heap.size) := Lib.hid (fun q hq => by
                rcases hat2 with h | h
                · have := HUN.out.1 q (h.symm.trans hq); omega
                · rw [h] at hq; injection hq with hq; simp at hq; have := HX1.out.1; omega)
              have hw2 : Below w.heap.size w w2 := (hw1.alloc hw1.size _).grown hg2 (by simp; omega) (fun q hq => (HGR.out.lt q hq).1)
              have HX2 := Lib.hid ((HX1.out.kept (World.grownBy_alloc w1 _ none) (by simp)).kept hg2 (fun e => by have := HUN.out.1 _ e.symm; omega))
              clear own2 hg2 hnil2 hat2
              have HRL : Hid ((R ++ [[]]).length = R.length + 1) := Lib.hid (by simp)
              have HRA : Hid (allN (R ++ [[]]) ≤ ls.length) := Lib.hid (by rw [allN_append, HRN.out]; simp [allN]; omega)
              have HNX : Hid (layersL (ls.take (k + 1)) = addAt (R ++ [[]]) (p + 1) l) := Lib.hid (by rw [HNX0.out, HTOP.out, roomed_new HE.out])
              generalize R ++ [[]] = rr at HG2 HRL HRA HNX
              have HLN : Hid ((layersL (ls.take (k + 1))).length = R.length + 1) := Lib.hid (by rw [HNX.out, addAt_len, HRL.out])
              have hzq : w.heap.size ≤ w2.heap.size := hw2.size
              obtain ⟨g, Ai, ci, r, rfl, hgz, hr2, hv2, ho2, hcc, hff⟩ := HG2.out.row (i := p + 1) (by rw [HRL.out]; have := HE.out; have := HTL.out R.length; rw [HTOP.out] at this; omega)
              obtain ⟨hxz, d0, d1, d2⟩ := HX2.out
              have HO2 := Lib.hid ho2
              have HV2 := Lib.hid hv2
              have HR2 := Lib.hid hr2
              have hra := allN_mem (List.mem_of_getElem? hr2)
              have hrb : r.length ≤ 1048576 := by have := HRA.out; omega
              have m0 : (0 : Int) ≤ ((p : Int) + 1) := by omega
              have m1n : p + 1 < R.length + 1 := by have := HE.out; have := HTL.out R.length; rw [HTOP.out] at this; omega
              have m1 : ((p : Int) + 1) < (R.length : Int) + 1 := by have := HE.out; have := HTL.out R.length; rw [HTOP.out] at this; omega
              have HNB := Lib.hid (show some wo.heap.size ≠ Value.ownBlock (.slice Ai r.length ci) from fun e => HNI2.out _ (List.mem_of_getElem? hv2) _ e.symm rfl)
              have HNG := Lib.hid (show some g ≠ Value.ownBlock (.slice Ai r.length ci) from fun e => HG2.out.off (p + 1) _ g hv2 e.symm rfl)
              have hgb : w.heap.size ≤ g := HG2.out.over.1 g rfl
              clear hr2 hv2 ho2 hra
              have HG3 := Lib.hid (HG2.out.alloc (.cells #[.int .i64 l.f, .int .i64 l.o, .int .i64 l.t] 34)).drew
              have hcc' : (w2.alloc (.cells #[.int .i64 l.f, .int .i64 l.o, .int .i64 l.t] 34)).cell? ⟨g, p + 1, none⟩ = some (.slice Ai r.length ci) := by rw [World.cell?_alloc_lt _ _ _ hgz]; exact hcc
              have hbg : wo.heap.size ≠ g := fun e => HNV2.out g rfl e.symm
              go_wp2_with fail
              go_region_law ((refine step_append_own _ (by rfl) (.tmp 42) (.tmp 44) 24 (by rfl) w.heap.size 34 i0 _ 3 24 Try.underlying24 hi hz0 hz1 hz2 rfl (by decide) _ _ _ (by rfl) (by exact World.ownsRow.drew (World.ownsRow.alloc HO2.out _)) ⟨w2.heap.size, 0, none⟩ 1 1 (lnC l) (by rfl) rfl (by exact cell_three_new _ _ _ _ _ rfl rfl rfl) (by intro u hu; simp [lnC] at hu; rcases hu with rfl | rfl | rfl <;> rfl) (by unfold maxLen; omega) (by omega) (by simp; omega) ?_; intro v4 w4 own4 hg4 hat4; obtain ⟨A4, c4, hv4⟩ := own_value own4; subst hv4; have e0 := held_cell hg4 hgz HNG.out hcc; have e1 := held_cell hg4 hxz HNB.out d0; have e2 := held_cell hg4 hxz HNB.out d1; have e3 := held_cell hg4 hxz HNB.out d2; have e4 := held_frozen hg4 hgz HNG.out hff; have HO4 := Lib.hid own4; have HG4 := Lib.hid hg4; have HT4 := Lib.hid hat4; clear own4 hg4 hat4))
              all_goals
                have HG5 := Lib.hid (HG3.out.add HV2.out HR2.out (l := l) HO4.out HG4.out HT4.out)
                have hw5 := ((((hw2.alloc hw2.size (.cells #[.int .i64 l.f, .int .i64 l.o, .int .i64 l.t] 34)).drew).grown HG4.out (by show w.heap.size ≤ (w2.alloc _).heap.size; simp; omega) (fun q hq => (HO2.out.lt q hq).1)).setCell (show w.heap.size ≤ (⟨g, p + 1, none⟩ : Addr).block from hgb) (.slice A4 (r.length + 1) c4))
                go_wp2
                go_roundw
                case rel => exact ⟨k + 1, _, _, _, by omega, by go_num, by rw [HLN.out], by rw [HLN.out, HNX.out]; exact HG5.out, hw5⟩
                case measure => simp [intOf]; omega
            · have he' : p + 1 ≠ R.length := by simp at he; omega
              have HE := Lib.hid he'
              clear he'
              have HRL : Hid (R.length = R.length) := Lib.hid rfl
              have HRA : Hid (allN R ≤ ls.length) := Lib.hid (by rw [HRN.out]; omega)
              have HNX : Hid (layersL (ls.take (k + 1)) = addAt R (p + 1) l) := Lib.hid (by rw [HNX0.out, HTOP.out, roomed_old HE.out])
              obtain ⟨A2, hA2⟩ : ∃ x, (some (⟨g, 0, none⟩ : Addr)) = x := ⟨_, rfl⟩
              obtain ⟨c2, hc2⟩ : ∃ x, c' = x := ⟨_, rfl⟩
              have HNI2 : Hid (∀ u ∈ vs, ∀ q, u.ownBlock = some q → q ≠ wo.heap.size) := Lib.hid (fun u hu q hq => by have := HUN.out.2 u hu q hq; omega)
              have HNV2 : Hid (∀ q, (Value.slice (some (⟨g, 0, none⟩ : Addr)) R.length c').ownBlock = some q → q ≠ wo.heap.size) := Lib.hid (fun q hq => by have := HUN.out.1 q hq; omega)
              have HG2 := HG1
              have hw2 := hw1
              have HX2 := HX1
              obtain ⟨w2, hww⟩ : ∃ x, w1 = x := ⟨_, rfl⟩
              rw [hww] at HG2 hw2 HX2 ⊢
              clear HG1 hw1 HX1 hww
              rw [hA2, hc2] at HG2 HNV2 ⊢
              clear hA2 hc2
              have HLN : Hid ((layersL (ls.take (k + 1))).length = R.length) := Lib.hid (by rw [HNX.out, addAt_len, HRL.out])
              have hzq : w.heap.size ≤ w2.heap.size := hw2.size
              obtain ⟨g, Ai, ci, r, rfl, hgz, hr2, hv2, ho2, hcc, hff⟩ := HG2.out.row (i := p + 1) (by rw [HRL.out]; have := HE.out; have := HTL.out R.length; rw [HTOP.out] at this; omega)
              obtain ⟨hxz, d0, d1, d2⟩ := HX2.out
              have HO2 := Lib.hid ho2
              have HV2 := Lib.hid hv2
              have HR2 := Lib.hid hr2
              have hra := allN_mem (List.mem_of_getElem? hr2)
              have hrb : r.length ≤ 1048576 := by have := HRA.out; omega
              have m0 : (0 : Int) ≤ ((p : Int) + 1) := by omega
              have m1n : p + 1 < R.length := by have := HE.out; have := HTL.out R.length; rw [HTOP.out] at this; omega
              have m1 : ((p : Int) + 1) < (R.length : Int) := by have := HE.out; have := HTL.out R.length; rw [HTOP.out] at this; omega
              have HNB := Lib.hid (show some wo.heap.size ≠ Value.ownBlock (.slice Ai r.length ci) from fun e => HNI2.out _ (List.mem_of_getElem? hv2) _ e.symm rfl)
              have HNG := Lib.hid (show some g ≠ Value.ownBlock (.slice Ai r.length ci) from fun e => HG2.out.off (p + 1) _ g hv2 e.symm rfl)
              have hgb : w.heap.size ≤ g := HG2.out.over.1 g rfl
              clear hr2 hv2 ho2 hra
              have HG3 := Lib.hid (HG2.out.alloc (.cells #[.int .i64 l.f, .int .i64 l.o, .int .i64 l.t] 34)).drew
              have hcc' : (w2.alloc (.cells #[.int .i64 l.f, .int .i64 l.o, .int .i64 l.t] 34)).cell? ⟨g, p + 1, none⟩ = some (.slice Ai r.length ci) := by rw [World.cell?_alloc_lt _ _ _ hgz]; exact hcc
              have hbg : wo.heap.size ≠ g := fun e => HNV2.out g rfl e.symm
              go_wp2_with fail
              go_region_law ((refine step_append_own _ (by rfl) (.tmp 42) (.tmp 44) 24 (by rfl) w.heap.size 34 i0 _ 3 24 Try.underlying24 hi hz0 hz1 hz2 rfl (by decide) _ _ _ (by rfl) (by exact World.ownsRow.drew (World.ownsRow.alloc HO2.out _)) ⟨w2.heap.size, 0, none⟩ 1 1 (lnC l) (by rfl) rfl (by exact cell_three_new _ _ _ _ _ rfl rfl rfl) (by intro u hu; simp [lnC] at hu; rcases hu with rfl | rfl | rfl <;> rfl) (by unfold maxLen; omega) (by omega) (by simp; omega) ?_; intro v4 w4 own4 hg4 hat4; obtain ⟨A4, c4, hv4⟩ := own_value own4; subst hv4; have e0 := held_cell hg4 hgz HNG.out hcc; have e1 := held_cell hg4 hxz HNB.out d0; have e2 := held_cell hg4 hxz HNB.out d1; have e3 := held_cell hg4 hxz HNB.out d2; have e4 := held_frozen hg4 hgz HNG.out hff; have HO4 := Lib.hid own4; have HG4 := Lib.hid hg4; have HT4 := Lib.hid hat4; clear own4 hg4 hat4))
              all_goals
                have HG5 := Lib.hid (HG3.out.add HV2.out HR2.out (l := l) HO4.out HG4.out HT4.out)
                have hw5 := ((((hw2.alloc hw2.size (.cells #[.int .i64 l.f, .int .i64 l.o, .int .i64 l.t] 34)).drew).grown HG4.out (by show w.heap.size ≤ (w2.alloc _).heap.size; simp; omega) (fun q hq => (HO2.out.lt q hq).1)).setCell (show w.heap.size ≤ (⟨g, p + 1, none⟩ : Addr).block from hgb) (.slice A4 (r.length + 1) c4))
                go_wp2
                go_roundw
                case rel => exact ⟨k + 1, _, _, _, by omega, by go_num, by rw [HLN.out], by rw [HLN.out, HNX.out]; exact HG5.out, hw5⟩
                case measure => simp [intOf]; omega
          · have HTP : Hid (topI R l R.length = topI R l p) := Lib.hid (by rw [HT0.out, HTN.out hd])
            have hc : ∀ (a : Addr) (p : Regrown) (W : World), a.block < W.heap.size → (grow (redrawn W p.d) p.os).cell? a = W.cell? a := fun a p W h => (below_regrown W p.d p.os).cell h
            go_wp2_with fail
            refine wp_region_quiet_below (by kernel_rfl) (by kernel_rfl) ?_
            repeat (go_big_quiet_step (first | (go_at_call 96; exact Calls.regrown_of (is_ (disturbsOne_ l r Ai r.length ci _ rfl (HRD.out.next (below_regrown _ _ _)) hrb) hd))))
            refine wpQuiet_nil ?_
            intro w1 hw1
            obtain ⟨p1, hp1⟩ := hw1
            have hb1 := of_rg hp1
            clear hp1 p1
            clear hc
            have hw1 : Below wb.heap.size wb w1 := below_next hwx hb1
            clear hb1
            go_wp2
            go_roundw
            case rel => exact ⟨p, by omega, by go_num, HTP.out, hw1⟩
            case measure => simp [intOf]
    · go_wp2
      go_ret
      have e : k = ls.length := by omega
      subst e
      rw [List.take_length] at HG0 ⊢
      exact ⟨_, _, _, rfl, HG0.out, hb⟩
end Go.Proofs.Ytbcgokpamhgabaa

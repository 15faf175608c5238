/- The contract of the reference's LayersOf. -/
import Derived.Test.YtbefkagmgpcfdaaChecked
import Derived.Test.YtbefkagmgpcfdaaMem
import Derived.Tactics
import Derived.Tactics2
import Derived.WalkKit
import Derived.WalkSpells
import Derived.WalkLawsBesides
import Derived.Deep.QuietTactic
import Derived.BigQuiet
import Derived.BigGuardPart
import Derived.Lib.QuietBelow
import Derived.OwnWalk
import Derived.KernelRfl
import Derived.Deep.RegionLaw
import Derived.Test.YtbefkagmgpcfdaaGridL
import Derived.Test.YtbefkagmgpcfdaaSlab
import Derived.Test.YtbefkagmgpcfdaaHelp
import Derived.Test.YtbefkagmgpcfdaaLayersQ
import Derived.Test.YtbefkagmgpcfdaaSplit
import Derived.Test.YtbefkagmgpcfdaaMust
import Derived.Test.YtbefkagmgpcfdaaStruct
set_option linter.unusedVariables false
set_option maxRecDepth 20000
namespace Go.Proofs.Ytbefkagmgpcfdaa
open Go.RowKit Go.Sort

set_option maxHeartbeats 8000000 in
theorem sLayersOf_ (ls : List Ln) (A : Option Addr) (c : Nat) (w : World) (hr : Rd w w.heap.size A (flat ls)) (hn : ls.length ≤ 1048576) :
    Calls Try.prog 43 #[.slice A ls.length c] w (GivesRows w 24 34 (layersL ls)) := by
  obtain ⟨i0, hi, hz0, hz1, hz2⟩ := info_parts infoLine
  obtain ⟨i1, hj, hy0, hy1, hy2⟩ := info_parts infoLL
  have HLF := Lib.hid (fun k => layersL_facts (ls.take k))
  go_enter Try.func43, Try.ntmps43
  go_wp2
  go_loopw [3, 4] (fun v i wr => ∃ (k : Nat) (A' : Option Addr) (c' : Nat) (vs : List Value), k ≤ ls.length ∧ i = .int .i64 k ∧ v = .slice A' (layersL (ls.take k)).length c' ∧ Grid wr w.heap.size 24 34 3 (.slice A' (layersL (ls.take k)).length c') vs (flats (layersL (ls.take k))) ∧ Below w.heap.size w wr) (fun _ i _ => ls.length - (intOf i).toNat)
  case atStart => exact ⟨0, _, _, [], Nat.zero_le _, rfl, rfl, Grid.lit w _ _ _ _ (Nat.le_refl _), (Below.refl _ _).alloc (Nat.le_refl _) _⟩
  case round =>
    obtain ⟨k, A', c', vs, hk, rfl, rfl, hg, hb⟩ := hrel
    have HG0 := Lib.hid hg
    have hle : (layersL (ls.take k)).length ≤ k := by have := HLF.out k; have h2 := full_len this.1; rw [this.2, List.length_take] at h2; omega
    have hzb := hb.size
    clear hg
    by_cases hlt : k < ls.length
    · obtain ⟨b, off, l, rfl, hbl, hl, a0, a1, a2⟩ := hr.line hlt
      have HNX0 := Lib.hid (layersL_put hl rfl)
      have HRN : Hid (allN (layersL (ls.take k)) = k) := Lib.hid (by have := (HLF.out k).2; rw [List.length_take] at this; omega)
      obtain ⟨R, hR⟩ : ∃ R, layersL (ls.take k) = R := ⟨_, rfl⟩
      rw [hR] at HG0 hle HNX0 HRN ⊢
      obtain ⟨wb, hwb⟩ : ∃ x, x = wr := ⟨_, rfl⟩
      have HGB : Hid (Grid wb w.heap.size 24 34 3 (.slice A' R.length c') vs (flats R)) := Lib.hid (by rw [hwb]; exact HG0.out)
      have hbb : Below w.heap.size w wb := by rw [hwb]; exact hb
      have HTL := Lib.hid (fun n => topI_le R l n)
      have hRn : R.length ≤ 1048576 := by omega
      have HLB : Hid (∀ r ∈ R, r.length ≤ 1048576) := Lib.hid (fun r hr => by have := allN_mem hr; rw [HRN.out] at this; omega)
      have k0 : (0 : Int) ≤ (k : Int) := by omega
      have k1 : (k : Int) < (ls.length : Int) := by omega
      have HWB := Lib.hid hwb
      clear hr hl hR hwb HG0
      go_wp2_with fail
      rw [← HWB.out]
      go_loopw [5, 6] (fun tv iv wx => ∃ i : Nat, i ≤ R.length ∧ iv = .int .i64 i ∧ tv = .int .i64 (topI R l i) ∧ Below wb.heap.size wb wx) (fun _ iv _ => R.length - (intOf iv).toNat)
      case atStart => exact ⟨0, Nat.zero_le _, rfl, rfl, Below.refl _ _⟩
      case round =>
        obtain ⟨i, hiR, rfl, rfl, hwx⟩ := hrel
        by_cases hlti : i < R.length
        · have htl := HTL.out i
          have i0' : (0 : Int) ≤ (i : Int) := by omega
          have i1' : (i : Int) < (R.length : Int) := by omega
          obtain ⟨g, Ai, ci, r, hAg, hgz, hr2, hv2, ho2, hcc, hff⟩ := HGB.out.row hlti
          subst hAg
          have HEND := Lib.hid (atI_end (l := l) hr2)
          have HZ := Lib.hid (atI_zero R l i r)
          have HY := Lib.hid (fun (m : Nat) (x : Ln) (hx : r[m]? = some x) (h : disturbB x l = true) => atI_yes (rs := R) (i := i) hx h)
          have HN := Lib.hid (fun (m : Nat) (x : Ln) (hx : r[m]? = some x) (h : disturbB x l = false) => atI_no (rs := R) (i := i) hx h)
          have HAL := Lib.hid (fun m => atI_le R l i r m)
          have hrl := HLB.out r (List.mem_of_getElem? hr2)
          have HRD := Lib.hid (rd_of_own ho2)
          obtain ⟨tv0, htv0⟩ : ∃ x, topI R l i = x := ⟨_, rfl⟩
          rw [htv0] at HZ htl ⊢
          clear hr2 hv2 ho2 hff htv0
          go_wp2_with fail
          go_loopw [5, 7] (fun tv mv wy => ∃ m : Nat, m ≤ r.length ∧ mv = .int .i64 m ∧ tv = .int .i64 (atI R l i r m) ∧ Below wb.heap.size wb wy) (fun _ mv _ => r.length - (intOf mv).toNat)
          case atStart => exact ⟨0, Nat.zero_le _, rfl, by rw [HZ.out], hwx⟩
          case round =>
            obtain ⟨m, hm, rfl, rfl, hwy⟩ := hrel
            have hcy := (hwy.cell (p := ⟨g, i, none⟩) hgz).trans hcc
            have hgy : g < wr.heap.size := by have := hwy.size; omega
            have hal := HAL.out m
            by_cases hltm : m < r.length
            · obtain ⟨rb, ro, x, rfl, hrb, hx, x0, x1, x2⟩ := (HRD.out.next hwy).line hltm
              have HYY := Lib.hid (HY.out m x hx)
              have HNN := Lib.hid (HN.out m x hx)
              have m0' : (0 : Int) ≤ (m : Int) := by omega
              have m1' : (m : Int) < (r.length : Int) := by omega
              have hww : Below w.heap.size w wr := hbb.trans (hwy.mono hbb.size)
              have d0 := (hww.cell (p := ⟨b, off + k * 3, none⟩) hbl).trans a0
              have d1 := (hww.cell (p := ⟨b, off + k * 3 + 1, none⟩) hbl).trans a1
              have d2 := (hww.cell (p := ⟨b, off + k * 3 + 2, none⟩) hbl).trans a2
              have hbz : b < wr.heap.size := by have := hww.size; omega
              obtain ⟨av, hav⟩ : ∃ v, atI R l i r m = v := ⟨_, rfl⟩
              rw [hav] at HNN hal ⊢
              clear hx hav
              rcases Bool.eq_false_or_eq_true (disturbB x l) with hd | hd
              · have hc : ∀ (a : Addr) (p : Regrown) (W : World), a.block < W.heap.size → (grow (redrawn W p.d) p.os).cell? a = W.cell? a := fun a p W h => (below_regrown W p.d p.os).cell h
                go_wp2_with fail
                refine wp_region_quiet_below (by kernel_rfl) (by kernel_rfl) ?_
                repeat (go_big_quiet_step (first | (go_at_call 20; exact Calls.regrown_of (is_ (sDoDisturb_ x l _) hd))))
                refine wpQuiet_nil ?_
                intro w1 hw1
                obtain ⟨p1, hp1⟩ := hw1
                have hb1 := of_rg hp1
                clear hp1 p1
                clear hc
                have hw1 : Below wb.heap.size wb w1 := below_next hwy hb1
                clear hb1
                go_wp2
                go_roundw
                case rel => exact ⟨m + 1, by omega, by go_num, by rw [HYY.out hd]; go_num, hw1⟩
                case measure => simp [intOf]; omega
              · have hc : ∀ (a : Addr) (p : Regrown) (W : World), a.block < W.heap.size → (grow (redrawn W p.d) p.os).cell? a = W.cell? a := fun a p W h => (below_regrown W p.d p.os).cell h
                go_wp2_with fail
                refine wp_region_quiet_below (by kernel_rfl) (by kernel_rfl) ?_
                repeat (go_big_quiet_step (first | (go_at_call 20; exact Calls.regrown_of (is_ (sDoDisturb_ x l _) hd))))
                refine wpQuiet_nil ?_
                intro w1 hw1
                obtain ⟨p1, hp1⟩ := hw1
                have hb1 := of_rg hp1
                clear hp1 p1
                clear hc
                have hw1 : Below wb.heap.size wb w1 := below_next hwy hb1
                clear hb1
                go_wp2
                go_roundw
                case rel => exact ⟨m + 1, by omega, by go_num, by rw [HNN.out hd], hw1⟩
                case measure => simp [intOf]; omega
            · have e : m = r.length := by omega
              subst e
              have HEE := Lib.hid (congrArg (fun n : Nat => Value.int .i64 (n : Int)) HEND.out)
              go_wp2
              go_roundw
              case rel => exact ⟨i + 1, by omega, by go_num, HEE.out, hwy⟩
              case measure => simp [intOf]; omega
        · have e : i = R.length := by omega
          subst e
          have hw1 : Below w.heap.size w wr := hbb.trans (hwx.mono hbb.size)
          have HG1 := Lib.hid (HGB.out.next hwx)
          obtain ⟨n, hn'⟩ : ∃ n, topI R l R.length = n := ⟨_, rfl⟩
          have HTOP := Lib.hid hn'
          have hnl : n ≤ R.length := by have := HTL.out R.length; omega
          rw [hn']
          obtain ⟨w1, hww⟩ : ∃ x, wr = x := ⟨_, rfl⟩
          rw [hww] at HG1 hw1 ⊢
          clear hn' hwx hww
          rcases Bool.eq_false_or_eq_true ((n : Int) == (R.length : Int)) with he | he
          · have he' : n = R.length := by simp at he; omega
            have HE := Lib.hid he'
            clear he'
            have hzw1 : w.heap.size ≤ w1.heap.size := hw1.size
            have HG1' := Lib.hid (HG1.out.alloc (.cells #[] 34))
            have HGR := Lib.hid HG1'.out.own
            have HLI := Lib.hid (World.ownsRow_lit (base := w.heap.size) (e := 34) (size := 3) w1 #[] 0 hzw1 (by simp [maxLen]) rfl)
            go_wp2_with (first | (at_builtin; refine wpList_append_own_at _ rfl (.tmp 48) (.tmp 50) 30 rfl w.heap.size 24 i1 (.slice none 0 0) 1 24 Try.underlying30 hj hy0 hy1 hy2 rfl (by decide) _ _ _ rfl (HGR.out.alloc _) ⟨w1.heap.size + 1, 0, none⟩ 1 1 [.slice (some ⟨w1.heap.size, 0, none⟩) 0 0] (by first | rfl | simp [Act.eval, Act.put]) rfl (by have := cell_one_new (w1.alloc (.cells #[] 34)) (.slice (some ⟨w1.heap.size, 0, none⟩) 0 0) 24; simpa using this) (by intro u hu; simp at hu; subst hu; rfl) (by unfold maxLen; omega) (by omega) (by simp; omega) ?_; intro v2 w2 own2 hg2 hnil2 hat2))
            obtain ⟨A2, c2, hv2e⟩ := own_value own2
            subst hv2e
            obtain ⟨vs2, HG2⟩ : ∃ vs2, Hid (Grid w2 w.heap.size 24 34 3 (.slice A2 (R.length + 1) c2) vs2 (flats (R ++ [[]]))) :=
              ⟨_, Lib.hid ((HG1'.out.alloc (.cells #[.slice (some ⟨w1.heap.size, 0, none⟩) 0 0] 24)).room (HLI.out.alloc _) (fun g hg => by
                injection hg with hg
                have hh : w1.heap.size = g := hg
                have hu := HG1.out.under
                exact ⟨fun e => by have := hu.1 g e; omega, fun x hx e => by have := hu.2 x hx g e; omega⟩) (by rw [grid_len HG1.out]) own2 hg2 hat2)⟩
            have hw2 : Below w.heap.size w w2 := ((hw1.alloc hw1.size _).alloc (by simp; omega) _).grown hg2 (by simp; omega) (fun q hq => (HGR.out.lt q hq).1)
            clear own2 hg2 hnil2 hat2
            have HRL : Hid ((R ++ [[]]).length = R.length + 1) := Lib.hid (by simp)
            have HRA : Hid (allN (R ++ [[]]) ≤ ls.length) := Lib.hid (by rw [allN_append, HRN.out]; simp [allN]; omega)
            have HNX : Hid (layersL (ls.take (k + 1)) = addAt (R ++ [[]]) (n) l) := Lib.hid (by rw [HNX0.out, HTOP.out, roomed_new HE.out])
            generalize R ++ [[]] = rr at HG2 HRL HRA HNX
            have HLN : Hid ((layersL (ls.take (k + 1))).length = R.length + 1) := Lib.hid (by rw [HNX.out, addAt_len, HRL.out])
            have hzq : w.heap.size ≤ w2.heap.size := hw2.size
            obtain ⟨g, Ai, ci, r, rfl, hgz, hr2, hv2, ho2, hcc, hff⟩ := HG2.out.row (i := n) (by rw [HRL.out]; have := HE.out; have := HTL.out R.length; rw [HTOP.out] at this; omega)
            have hxz : b < w2.heap.size := by omega
            have d0 := (hw2.cell (p := ⟨b, off + k * 3, none⟩) hbl).trans a0
            have d1 := (hw2.cell (p := ⟨b, off + k * 3 + 1, none⟩) hbl).trans a1
            have d2 := (hw2.cell (p := ⟨b, off + k * 3 + 2, none⟩) hbl).trans a2
            have HO2 := Lib.hid ho2
            have HV2 := Lib.hid hv2
            have HR2 := Lib.hid hr2
            have hra := allN_mem (List.mem_of_getElem? hr2)
            have hrb : r.length ≤ 1048576 := by have := HRA.out; omega
            have m0 : (0 : Int) ≤ (n : Int) := by omega
            have m1n : n < R.length + 1 := by have := HE.out; have := HTL.out R.length; rw [HTOP.out] at this; omega
            have m1 : (n : Int) < (R.length : Int) + 1 := by have := HE.out; have := HTL.out R.length; rw [HTOP.out] at this; omega
            have HNB := Lib.hid (show some b ≠ Value.ownBlock (.slice Ai r.length ci) from fun e => by have := (ho2.lt b e.symm).1; omega)
            have HNG := Lib.hid (show some g ≠ Value.ownBlock (.slice Ai r.length ci) from fun e => HG2.out.off (n) _ g hv2 e.symm rfl)
            have hgb : w.heap.size ≤ g := HG2.out.over.1 g rfl
            clear hr2 hv2 ho2 hra
            have HG3 := Lib.hid (HG2.out.alloc (.cells #[.int .i64 l.f, .int .i64 l.o, .int .i64 l.t] 34)).drew
            have hcc' : (w2.alloc (.cells #[.int .i64 l.f, .int .i64 l.o, .int .i64 l.t] 34)).cell? ⟨g, n, none⟩ = some (.slice Ai r.length ci) := by rw [World.cell?_alloc_lt _ _ _ hgz]; exact hcc
            have hbg : b ≠ g := by omega
            go_wp2_with fail
            go_region_law ((refine step_append_own _ (by rfl) (.tmp 57) (.tmp 62) 24 (by rfl) w.heap.size 34 i0 _ 3 24 Try.underlying24 hi hz0 hz1 hz2 rfl (by decide) _ _ _ (by rfl) (by exact World.ownsRow.drew (World.ownsRow.alloc HO2.out _)) ⟨w2.heap.size, 0, none⟩ 1 1 (lnC l) (by rfl) rfl (by exact cell_three_new _ _ _ _ _ rfl rfl rfl) (by intro u hu; simp [lnC] at hu; rcases hu with rfl | rfl | rfl <;> rfl) (by unfold maxLen; omega) (by omega) (by simp; omega) ?_; intro v4 w4 own4 hg4 hat4; obtain ⟨A4, c4, hv4⟩ := own_value own4; subst hv4; have e0 := held_cell hg4 hgz HNG.out hcc; have e1 := held_cell hg4 hxz HNB.out d0; have e2 := held_cell hg4 hxz HNB.out d1; have e3 := held_cell hg4 hxz HNB.out d2; have e4 := held_frozen hg4 hgz HNG.out hff; have HO4 := Lib.hid own4; have HG4 := Lib.hid hg4; have HT4 := Lib.hid hat4; clear own4 hg4 hat4))
            all_goals
              have HG5 := Lib.hid (HG3.out.add HV2.out HR2.out (l := l) HO4.out HG4.out HT4.out)
              have hw5 := ((((hw2.alloc hw2.size (.cells #[.int .i64 l.f, .int .i64 l.o, .int .i64 l.t] 34)).drew).grown HG4.out (by show w.heap.size ≤ (w2.alloc _).heap.size; simp; omega) (fun q hq => (HO2.out.lt q hq).1)).setCell (show w.heap.size ≤ (⟨g, n, none⟩ : Addr).block from hgb) (.slice A4 (r.length + 1) c4))
              go_wp2
              go_roundw
              case rel => exact ⟨k + 1, _, _, _, by omega, by go_num, by rw [HLN.out], by rw [HLN.out, HNX.out]; exact HG5.out, hw5⟩
              case measure => simp [intOf]; omega
          · have he' : n ≠ R.length := by simp at he; omega
            have HE := Lib.hid he'
            clear he'
            have HRL : Hid (R.length = R.length) := Lib.hid rfl
            have HRA : Hid (allN R ≤ ls.length) := Lib.hid (by rw [HRN.out]; omega)
            have HNX : Hid (layersL (ls.take (k + 1)) = addAt R (n) l) := Lib.hid (by rw [HNX0.out, HTOP.out, roomed_old HE.out])
            have HG2 := HG1
            have hw2 := hw1
            obtain ⟨w2, hww⟩ : ∃ x, w1 = x := ⟨_, rfl⟩
            rw [hww] at HG2 hw2 ⊢
            clear HG1 hw1 hww
            have HLN : Hid ((layersL (ls.take (k + 1))).length = R.length) := Lib.hid (by rw [HNX.out, addAt_len, HRL.out])
            have hzq : w.heap.size ≤ w2.heap.size := hw2.size
            obtain ⟨g, Ai, ci, r, rfl, hgz, hr2, hv2, ho2, hcc, hff⟩ := HG2.out.row (i := n) (by rw [HRL.out]; have := HE.out; have := HTL.out R.length; rw [HTOP.out] at this; omega)
            have hxz : b < w2.heap.size := by omega
            have d0 := (hw2.cell (p := ⟨b, off + k * 3, none⟩) hbl).trans a0
            have d1 := (hw2.cell (p := ⟨b, off + k * 3 + 1, none⟩) hbl).trans a1
            have d2 := (hw2.cell (p := ⟨b, off + k * 3 + 2, none⟩) hbl).trans a2
            have HO2 := Lib.hid ho2
            have HV2 := Lib.hid hv2
            have HR2 := Lib.hid hr2
            have hra := allN_mem (List.mem_of_getElem? hr2)
            have hrb : r.length ≤ 1048576 := by have := HRA.out; omega
            have m0 : (0 : Int) ≤ (n : Int) := by omega
            have m1n : n < R.length := by have := HE.out; have := HTL.out R.length; rw [HTOP.out] at this; omega
            have m1 : (n : Int) < (R.length : Int) := by have := HE.out; have := HTL.out R.length; rw [HTOP.out] at this; omega
            have HNB := Lib.hid (show some b ≠ Value.ownBlock (.slice Ai r.length ci) from fun e => by have := (ho2.lt b e.symm).1; omega)
            have HNG := Lib.hid (show some g ≠ Value.ownBlock (.slice Ai r.length ci) from fun e => HG2.out.off (n) _ g hv2 e.symm rfl)
            have hgb : w.heap.size ≤ g := HG2.out.over.1 g rfl
            clear hr2 hv2 ho2 hra
            have HG3 := Lib.hid (HG2.out.alloc (.cells #[.int .i64 l.f, .int .i64 l.o, .int .i64 l.t] 34)).drew
            have hcc' : (w2.alloc (.cells #[.int .i64 l.f, .int .i64 l.o, .int .i64 l.t] 34)).cell? ⟨g, n, none⟩ = some (.slice Ai r.length ci) := by rw [World.cell?_alloc_lt _ _ _ hgz]; exact hcc
            have hbg : b ≠ g := by omega
            go_wp2_with fail
            go_region_law ((refine step_append_own _ (by rfl) (.tmp 57) (.tmp 62) 24 (by rfl) w.heap.size 34 i0 _ 3 24 Try.underlying24 hi hz0 hz1 hz2 rfl (by decide) _ _ _ (by rfl) (by exact World.ownsRow.drew (World.ownsRow.alloc HO2.out _)) ⟨w2.heap.size, 0, none⟩ 1 1 (lnC l) (by rfl) rfl (by exact cell_three_new _ _ _ _ _ rfl rfl rfl) (by intro u hu; simp [lnC] at hu; rcases hu with rfl | rfl | rfl <;> rfl) (by unfold maxLen; omega) (by omega) (by simp; omega) ?_; intro v4 w4 own4 hg4 hat4; obtain ⟨A4, c4, hv4⟩ := own_value own4; subst hv4; have e0 := held_cell hg4 hgz HNG.out hcc; have e1 := held_cell hg4 hxz HNB.out d0; have e2 := held_cell hg4 hxz HNB.out d1; have e3 := held_cell hg4 hxz HNB.out d2; have e4 := held_frozen hg4 hgz HNG.out hff; have HO4 := Lib.hid own4; have HG4 := Lib.hid hg4; have HT4 := Lib.hid hat4; clear own4 hg4 hat4))
            all_goals
              have HG5 := Lib.hid (HG3.out.add HV2.out HR2.out (l := l) HO4.out HG4.out HT4.out)
              have hw5 := ((((hw2.alloc hw2.size (.cells #[.int .i64 l.f, .int .i64 l.o, .int .i64 l.t] 34)).drew).grown HG4.out (by show w.heap.size ≤ (w2.alloc _).heap.size; simp; omega) (fun q hq => (HO2.out.lt q hq).1)).setCell (show w.heap.size ≤ (⟨g, n, none⟩ : Addr).block from hgb) (.slice A4 (r.length + 1) c4))
              go_wp2
              go_roundw
              case rel => exact ⟨k + 1, _, _, _, by omega, by go_num, by rw [HLN.out], by rw [HLN.out, HNX.out]; exact HG5.out, hw5⟩
              case measure => simp [intOf]; omega
    · go_wp2
      go_ret
      have e : k = ls.length := by omega
      subst e
      rw [List.take_length] at HG0 ⊢
      exact ⟨_, _, _, rfl, HG0.out, hb⟩
end Go.Proofs.Ytbefkagmgpcfdaa

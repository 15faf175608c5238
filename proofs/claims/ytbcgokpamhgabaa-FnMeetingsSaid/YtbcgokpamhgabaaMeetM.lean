/- The contract of the program's nextLayer. The contract of the reference's l17Next. The contracts of LayerOf and BackLayer. The contracts of WidestLayer. The contracts of MeetingOf. -/
import Derived.Test.YtbcgokpamhgabaaChecked
import Derived.Test.YtbcgokpamhgabaaMem
import Derived.Tactics
import Derived.Tactics2
import Derived.WalkKit
import Derived.WalkSpells
import Derived.WalkLawsBesides
import Derived.Deep.QuietTactic
import Derived.BigQuiet
import Derived.BigGuardPart
import Derived.Lib.QuietBelow
import Derived.OwnWalk
import Derived.KernelRfl
import Derived.Test.YtbcgokpamhgabaaStuckG
import Derived.Test.YtbcgokpamhgabaaSortL
import Derived.Test.YtbcgokpamhgabaaPopP
import Derived.IntWalk
import Derived.Deep.RegionHeld3
import Derived.Test.YtbcgokpamhgabaaComM
set_option linter.unusedVariables false
set_option maxRecDepth 20000
namespace Go.Proofs.Ytbcgokpamhgabaa
open Go.RowKit Go.Sort Go.Lib

theorem sortN_ (zs : List Int) (n base g c : Nat) (w : World) (hn : zs.length = n) (hown : w.ownsRow base 3 1 (.slice (some ⟨g, 0, none⟩) n c) n (ints zs)) (hbase : base ≤ w.heap.size) (hsz : n < 4611686018427387904) :
    Calls Try.prog 169 #[.slice (some ⟨g, 0, none⟩) n c] w fun e w' =>
      e = .returned (.tuple #[]) ∧ w'.ownsRow base 3 1 (.slice (some ⟨g, 0, none⟩) n c) n (ints (srt zs)) ∧ Below base w w' := by
  subst hn
  exact sort_ zs base g c w hown hbase hsz
theorem compactN_ (zs : List Int) (rs : List Nat) (n base g c : Nat) (w : World) (hn : zs.length = n) (hr : compactUpTo zs.toArray n = natL rs) (hown : w.ownsRow base 3 1 (.slice (some ⟨g, 0, none⟩) n c) n (ints zs)) (hbase : base ≤ w.heap.size) (hsz : n ≤ 9223372036854775807) :
    Calls Try.prog 170 #[.slice (some ⟨g, 0, none⟩) n c] w fun e w' =>
      e = .returned (.slice (some ⟨g, 0, none⟩) rs.length c) ∧ w'.ownsRow base 3 1 (.slice (some ⟨g, 0, none⟩) rs.length c) rs.length (ints (natL rs)) ∧ Below base w w' := by
  subst hn
  have h := compact_ zs base g c w hown hbase hsz
  rw [hr, natL_length] at h
  exact h
/-- Lines of a small board, at any rate: three different holes below 49. -/
def LsFo (ls : List Ln) : Prop := ∀ l ∈ ls, ∃ f o t : Nat, l = ⟨f, o, t⟩ ∧ f < 49 ∧ o < 49 ∧ t < 49 ∧ f ≠ t ∧ o ≠ t ∧ f ≠ o

set_option maxHeartbeats 4000000 in
theorem nextLayer_ (back : Bool) (N : Nat) (ls : List Ln) (ps : List Nat) (AL AP : Option Addr) (cL cP : Nat) (hN : N ≤ 65536) (hm : ls.length ≤ 196) (hst : Stays N ls) (hls : LsFo ls) (hps : ∀ p ∈ ps, p < N) (hpl : ps.length ≤ 65536) (W : World)
    (rdL : Rd W W.heap.size AL (flat ls)) (rdP : Rd W W.heap.size AP (ints (natL ps))) :
    Calls Try.prog 161 #[.slice AL ls.length cL, .slice AP ps.length cP, .bool back] W (GivesSlice W 3 1 (nextL back ls N ps).length (ints (natL (nextL back ls N ps)))) := by
  obtain ⟨i0, hi, hz0, hz1, hz2⟩ := info_parts infoInt
  have HST := Lib.hid hst
  have HLS := Lib.hid hls
  have HPS := Lib.hid hps
  clear hst hls hps
  cases back with
  | false =>
    go_enter Try.func161, Try.ntmps161
    go_wp2_with fail
    go_loopw [7, 17] (fun v iv wr => ∃ (k g c : Nat), k ≤ ps.length ∧ iv = .int .i64 k ∧ v = .slice (some ⟨g, 0, none⟩) (colC false ls (ps.take k)).length c ∧ wr.ownsRow W.heap.size 3 1 (.slice (some ⟨g, 0, none⟩) (colC false ls (ps.take k)).length c) (colC false ls (ps.take k)).length (ints (natL (colC false ls (ps.take k)))) ∧ Below W.heap.size W wr) (fun _ iv _ => ps.length - (intOf iv).toNat)
    case atStart => exact ⟨0, W.heap.size, 0, Nat.zero_le _, rfl, rfl, by simpa [colC, natL, ints] using World.ownsRow_lit (base := W.heap.size) (e := 3) (size := 1) W #[] 0 (Nat.le_refl _) (by simp [maxLen]) rfl, (Below.refl _ _).alloc (Nat.le_refl _) _⟩
    case round =>
      obtain ⟨k, g0, c0, hk, rfl, rfl, hown, hw⟩ := hrel
      have hsz := hw.size
      have hal : (colC false ls (ps.take k)).length ≤ 12845056 := Nat.le_trans (colC_len false ls (ps.take k)) (Nat.le_trans (Nat.mul_le_mul (show (ps.take k).length ≤ 65536 by rw [List.length_take]; omega) hm) (Nat.le_refl _))
      by_cases hlt : k < ps.length
      · have hx : ps[k]? = some ps[k] := List.getElem?_eq_getElem hlt
        have xl := HPS.out _ (List.getElem_mem hlt)
        generalize ps[k] = x at hx xl
        obtain ⟨pb, poff, rfl, hpb, px0⟩ := rd_nat (rdP.below hw) hx
        have HNX := Lib.hid (show colC false ls (ps.take (k + 1)) = rowC false ls x (colC false ls (ps.take k)) from fold_take hx)
        generalize colC false ls (ps.take k) = a at hown hal HNX ⊢
        have HO := Lib.hid hown
        have k0' : (0 : Int) ≤ (k : Int) := by omega
        have k1' : (k : Int) < (ps.length : Int) := by omega
        have x63 : B63 x := by unfold B63; omega
        have hpz : pb < wr.heap.size := by omega
        clear hx hown
        go_wp2_with fail
        go_loopw [7, 23] (fun v iv wx => ∃ (i g c : Nat), i ≤ ls.length ∧ iv = .int .i64 i ∧ v = .slice (some ⟨g, 0, none⟩) (rowC false (ls.take i) x a).length c ∧ wx.ownsRow W.heap.size 3 1 (.slice (some ⟨g, 0, none⟩) (rowC false (ls.take i) x a).length c) (rowC false (ls.take i) x a).length (ints (natL (rowC false (ls.take i) x a))) ∧ Below W.heap.size W wx) (fun _ iv _ => ls.length - (intOf iv).toNat)
        case atStart => exact ⟨0, g0, c0, Nat.zero_le _, rfl, rfl, HO.out, hw⟩
        case round =>
          obtain ⟨i, g', c', hi0, rfl, rfl, hown, hwx⟩ := hrel
          have hszx := hwx.size
          have hrl : (rowC false (ls.take i) x a).length ≤ 12845252 := Nat.le_trans (rowC_len false x (ls.take i) a) (by rw [List.length_take]; omega)
          have HO1 := Lib.hid hown
          clear hown
          by_cases hil : i < ls.length
          · obtain ⟨bb, off, l, rfl, hbl, hxl, x0, x1, x2⟩ := (rdL.below hwx).line hil
            obtain ⟨f, o, t, rfl, f1, o1, t1, hft, hot, hfo⟩ := HLS.out l (List.mem_of_getElem? hxl)
            have HRT := Lib.hid (show rowC false (ls.take (i + 1)) x a = stepC false x (rowC false (ls.take i) x a) ⟨f, o, t⟩ from fold_take hxl)
            generalize rowC false (ls.take i) x a = ai at HO1 hrl HRT ⊢
            have HF := Lib.hid hft
            have HT := Lib.hid hot
            have HFO := Lib.hid hfo
            have i0' : (0 : Int) ≤ (i : Int) := by omega
            have i1' : (i : Int) < (ls.length : Int) := by omega
            have hbz : bb < wr.heap.size := by omega
            clear hxl hft hot hfo
            rcases Bool.eq_false_or_eq_true (canD false x ⟨f, o, t⟩) with hd | hd
            · have hd' : canJ x ⟨f, o, t⟩ = true := hd
              have HY := Lib.hid (show rowC false (ls.take (i + 1)) x a = ai ++ [flip x ⟨f, o, t⟩] by rw [HRT.out, stepC_yes hd])
              generalize hQe : flip x ⟨f, o, t⟩ = Q at HY
              have HQE := Lib.hid hQe
              have HD := Lib.hid hd'
              clear hQe hd hd'
              go_wp2_with fail
              refine (is2' (jumpFrom_ x f o t x63 (by omega) (by omega) (by omega) HF.out HT.out _) (by rw [HD.out, if_pos rfl, HQE.out]) HD.out).mono ?_
              rintro e w3 ⟨rfl, hb3⟩
              have hn3 : Below wr.heap.size wr w3 := below_step ((Below.refl _ _).alloc (Nat.le_refl _) _) hb3 (by simp)
              have hs1 : Slab w3 W.heap.size none 3 1 (.slice (some ⟨g', 0, none⟩) ai.length c') ai.length (ints (natL ai)) := .inl (own_next HO1.out hn3)
              have hw3 := below_next hwx hn3
              have hw3s : W.heap.size ≤ w3.heap.size := hw3.size
              go_wp2_with (first | (at_builtin; refine wpList_append_slab _ rfl (.tmp 41) (.tmp 43) 69 rfl W.heap.size none 3 i0 (.int .i64 0) 1 8 Try.underlying69 hi hz0 hz1 hz2 rfl (by decide) _ _ _ rfl (hs1.alloc _) ⟨w3.heap.size, 0, none⟩ 1 1 [.int .i64 Q] rfl rfl (cell_one_new _ _ _) (by intro u hu; simp at hu; subst hu; rfl) (by omega) (by unfold maxLen; omega) (by omega) (by have := hw3s; simp; omega) ?_; intro g cap wA ownA hbA))
              have HOA := Lib.hid ownA
              have hwA : Below W.heap.size W wA := (hw3.alloc hw3s _).trans hbA
              clear hs1 ownA
              go_wp2
              go_roundw
              case rel => exact ⟨i + 1, g, cap, by omega, by go_num, by rw [HY.out]; simp, by rw [HY.out]; simpa [natL, ints] using HOA.out, hwA⟩
              case measure => simp [intOf]; omega
            · have hd' : canJ x ⟨f, o, t⟩ = false := hd
              have HY := Lib.hid (show rowC false (ls.take (i + 1)) x a = ai by rw [HRT.out, stepC_no hd])
              have HD := Lib.hid hd'
              clear hd hd'
              go_wp2_with fail
              refine (is2' (jumpFrom_ x f o t x63 (by omega) (by omega) (by omega) HF.out HT.out _) (by rw [HD.out, if_neg (by simp)]) HD.out).mono ?_
              rintro e w3 ⟨rfl, hb3⟩
              have hn3 : Below wr.heap.size wr w3 := below_step ((Below.refl _ _).alloc (Nat.le_refl _) _) hb3 (by simp)
              have HO3 := Lib.hid (own_next HO1.out hn3)
              have hw3 := below_next hwx hn3
              go_wp2
              go_roundw
              case rel => exact ⟨i + 1, g', c', by omega, by go_num, by rw [HY.out], by rw [HY.out]; exact HO3.out, hw3⟩
              case measure => simp [intOf]; omega
          · have e : i = ls.length := by omega
            subst e
            have ho2 := HO1.out
            rw [List.take_length] at ho2 hrl ⊢
            have HO2 := Lib.hid ho2
            generalize rowC false ls x a = an at HNX HO2 hrl ⊢
            clear ho2
            go_wp2
            go_roundw
            case rel => exact ⟨k + 1, g', c', by omega, by go_num, by rw [HNX.out], by rw [HNX.out]; exact HO2.out, hwx⟩
            case measure => simp [intOf]; omega
      · have e : k = ps.length := by omega
        subst e
        rw [List.take_length] at hown hal ⊢
        have HR := Lib.hid (nextL_is (back := false) HST.out HPS.out)
        have HLN : Hid ((srt (natL (colC false ls ps))).length = (colC false ls ps).length) := Lib.hid (by rw [srt_len, natL_length])
        generalize colC false ls ps = a at hown hal HR HLN ⊢
        have HO := Lib.hid hown
        clear hown
        go_wp2_with fail
        refine (sortN_ (natL a) a.length W.heap.size g0 c0 _ (natL_length a) HO.out hsz (by omega)).mono ?_
        rintro e w4 ⟨rfl, own4, hb4⟩
        have hw4 := hw.trans hb4
        have hsz4 := hw4.size
        have HO4 := Lib.hid own4
        clear own4
        go_wp2_with fail
        refine (compactN_ (srt (natL a)) (nextL false ls N ps) a.length W.heap.size g0 c0 _ HLN.out HR.out HO4.out hsz4 (by omega)).mono ?_
        rintro e w5 ⟨rfl, own5, hb5⟩
        go_wp2
        go_ret
        exact ⟨_, _, rfl, own5, hw4.trans hb5⟩
  | true =>
    go_enter Try.func161, Try.ntmps161
    go_wp2_with fail
    go_loopw [7, 17] (fun v iv wr => ∃ (k g c : Nat), k ≤ ps.length ∧ iv = .int .i64 k ∧ v = .slice (some ⟨g, 0, none⟩) (colC true ls (ps.take k)).length c ∧ wr.ownsRow W.heap.size 3 1 (.slice (some ⟨g, 0, none⟩) (colC true ls (ps.take k)).length c) (colC true ls (ps.take k)).length (ints (natL (colC true ls (ps.take k)))) ∧ Below W.heap.size W wr) (fun _ iv _ => ps.length - (intOf iv).toNat)
    case atStart => exact ⟨0, W.heap.size, 0, Nat.zero_le _, rfl, rfl, by simpa [colC, natL, ints] using World.ownsRow_lit (base := W.heap.size) (e := 3) (size := 1) W #[] 0 (Nat.le_refl _) (by simp [maxLen]) rfl, (Below.refl _ _).alloc (Nat.le_refl _) _⟩
    case round =>
      obtain ⟨k, g0, c0, hk, rfl, rfl, hown, hw⟩ := hrel
      have hsz := hw.size
      have hal : (colC true ls (ps.take k)).length ≤ 12845056 := Nat.le_trans (colC_len true ls (ps.take k)) (Nat.le_trans (Nat.mul_le_mul (show (ps.take k).length ≤ 65536 by rw [List.length_take]; omega) hm) (Nat.le_refl _))
      by_cases hlt : k < ps.length
      · have hx : ps[k]? = some ps[k] := List.getElem?_eq_getElem hlt
        have xl := HPS.out _ (List.getElem_mem hlt)
        generalize ps[k] = x at hx xl
        obtain ⟨pb, poff, rfl, hpb, px0⟩ := rd_nat (rdP.below hw) hx
        have HNX := Lib.hid (show colC true ls (ps.take (k + 1)) = rowC true ls x (colC true ls (ps.take k)) from fold_take hx)
        generalize colC true ls (ps.take k) = a at hown hal HNX ⊢
        have HO := Lib.hid hown
        have k0' : (0 : Int) ≤ (k : Int) := by omega
        have k1' : (k : Int) < (ps.length : Int) := by omega
        have x63 : B63 x := by unfold B63; omega
        have hpz : pb < wr.heap.size := by omega
        clear hx hown
        go_wp2_with fail
        go_loopw [7, 23] (fun v iv wx => ∃ (i g c : Nat), i ≤ ls.length ∧ iv = .int .i64 i ∧ v = .slice (some ⟨g, 0, none⟩) (rowC true (ls.take i) x a).length c ∧ wx.ownsRow W.heap.size 3 1 (.slice (some ⟨g, 0, none⟩) (rowC true (ls.take i) x a).length c) (rowC true (ls.take i) x a).length (ints (natL (rowC true (ls.take i) x a))) ∧ Below W.heap.size W wx) (fun _ iv _ => ls.length - (intOf iv).toNat)
        case atStart => exact ⟨0, g0, c0, Nat.zero_le _, rfl, rfl, HO.out, hw⟩
        case round =>
          obtain ⟨i, g', c', hi0, rfl, rfl, hown, hwx⟩ := hrel
          have hszx := hwx.size
          have hrl : (rowC true (ls.take i) x a).length ≤ 12845252 := Nat.le_trans (rowC_len true x (ls.take i) a) (by rw [List.length_take]; omega)
          have HO1 := Lib.hid hown
          clear hown
          by_cases hil : i < ls.length
          · obtain ⟨bb, off, l, rfl, hbl, hxl, x0, x1, x2⟩ := (rdL.below hwx).line hil
            obtain ⟨f, o, t, rfl, f1, o1, t1, hft, hot, hfo⟩ := HLS.out l (List.mem_of_getElem? hxl)
            have HRT := Lib.hid (show rowC true (ls.take (i + 1)) x a = stepC true x (rowC true (ls.take i) x a) ⟨f, o, t⟩ from fold_take hxl)
            generalize rowC true (ls.take i) x a = ai at HO1 hrl HRT ⊢
            have HF := Lib.hid hft
            have HT := Lib.hid hot
            have HFO := Lib.hid hfo
            have i0' : (0 : Int) ≤ (i : Int) := by omega
            have i1' : (i : Int) < (ls.length : Int) := by omega
            have hbz : bb < wr.heap.size := by omega
            clear hxl hft hot hfo
            rcases Bool.eq_false_or_eq_true (canD true x ⟨f, o, t⟩) with hd | hd
            · have hd' : canU x ⟨f, o, t⟩ = true := hd
              have HY := Lib.hid (show rowC true (ls.take (i + 1)) x a = ai ++ [flip x ⟨f, o, t⟩] by rw [HRT.out, stepC_yes hd])
              generalize hQe : flip x ⟨f, o, t⟩ = Q at HY
              have HQE := Lib.hid hQe
              have HD := Lib.hid hd'
              clear hQe hd hd'
              obtain ⟨y5, hy5⟩ : ∃ y : Int, ((if canJ x ⟨f, o, t⟩ then flip x ⟨f, o, t⟩ else x : Nat) : Int) = y := ⟨_, rfl⟩
              obtain ⟨b5, hz5⟩ : ∃ y : Bool, canJ x ⟨f, o, t⟩ = y := ⟨_, rfl⟩
              have HY5 := Lib.hid hy5
              have HZ5 := Lib.hid hz5
              clear hy5 hz5
              go_wp2_with fail
              refine (is2' (jumpFrom_ x f o t x63 (by omega) (by omega) (by omega) HF.out HT.out _) HY5.out HZ5.out).mono ?_
              rintro e w5 ⟨rfl, hb5⟩
              have hn5 : Below wr.heap.size wr w5 := below_step ((Below.refl _ _).alloc (Nat.le_refl _) _) hb5 (by simp)
              have l0 : w5.cell? ⟨wr.heap.size, 0, none⟩ = some (.int .i64 f) := by rw [hb5.cell (p := ⟨wr.heap.size, 0, none⟩) (by simp)]; simp [go_sem]
              have l1 : w5.cell? ⟨wr.heap.size, 1, none⟩ = some (.int .i64 o) := by rw [hb5.cell (p := ⟨wr.heap.size, 1, none⟩) (by simp)]; simp [go_sem]
              have l2 : w5.cell? ⟨wr.heap.size, 2, none⟩ = some (.int .i64 t) := by rw [hb5.cell (p := ⟨wr.heap.size, 2, none⟩) (by simp)]; simp [go_sem]
              have zl5 : wr.heap.size < w5.heap.size := by have := hb5.size; simp at this; omega
              go_wp2_with fail
              refine (is2' (undoFrom_ x f o t x63 (by omega) (by omega) (by omega) HF.out HT.out HFO.out _) (by rw [HD.out, if_pos rfl, HQE.out]) HD.out).mono ?_
              rintro e w3 ⟨rfl, hb3⟩
              have hn3 : Below wr.heap.size wr w3 := below_next hn5 hb3
              clear l0 l1 l2
              have hs1 : Slab w3 W.heap.size none 3 1 (.slice (some ⟨g', 0, none⟩) ai.length c') ai.length (ints (natL ai)) := .inl (own_next HO1.out hn3)
              have hw3 := below_next hwx hn3
              have hw3s : W.heap.size ≤ w3.heap.size := hw3.size
              go_wp2_with (first | (at_builtin; refine wpList_append_slab _ rfl (.tmp 41) (.tmp 43) 69 rfl W.heap.size none 3 i0 (.int .i64 0) 1 8 Try.underlying69 hi hz0 hz1 hz2 rfl (by decide) _ _ _ rfl (hs1.alloc _) ⟨w3.heap.size, 0, none⟩ 1 1 [.int .i64 Q] rfl rfl (cell_one_new _ _ _) (by intro u hu; simp at hu; subst hu; rfl) (by omega) (by unfold maxLen; omega) (by omega) (by have := hw3s; simp; omega) ?_; intro g cap wA ownA hbA))
              have HOA := Lib.hid ownA
              have hwA : Below W.heap.size W wA := (hw3.alloc hw3s _).trans hbA
              clear hs1 ownA
              go_wp2
              go_roundw
              case rel => exact ⟨i + 1, g, cap, by omega, by go_num, by rw [HY.out]; simp, by rw [HY.out]; simpa [natL, ints] using HOA.out, hwA⟩
              case measure => simp [intOf]; omega
            · have hd' : canU x ⟨f, o, t⟩ = false := hd
              have HY := Lib.hid (show rowC true (ls.take (i + 1)) x a = ai by rw [HRT.out, stepC_no hd])
              have HD := Lib.hid hd'
              clear hd hd'
              obtain ⟨y5, hy5⟩ : ∃ y : Int, ((if canJ x ⟨f, o, t⟩ then flip x ⟨f, o, t⟩ else x : Nat) : Int) = y := ⟨_, rfl⟩
              obtain ⟨b5, hz5⟩ : ∃ y : Bool, canJ x ⟨f, o, t⟩ = y := ⟨_, rfl⟩
              have HY5 := Lib.hid hy5
              have HZ5 := Lib.hid hz5
              clear hy5 hz5
              go_wp2_with fail
              refine (is2' (jumpFrom_ x f o t x63 (by omega) (by omega) (by omega) HF.out HT.out _) HY5.out HZ5.out).mono ?_
              rintro e w5 ⟨rfl, hb5⟩
              have hn5 : Below wr.heap.size wr w5 := below_step ((Below.refl _ _).alloc (Nat.le_refl _) _) hb5 (by simp)
              have l0 : w5.cell? ⟨wr.heap.size, 0, none⟩ = some (.int .i64 f) := by rw [hb5.cell (p := ⟨wr.heap.size, 0, none⟩) (by simp)]; simp [go_sem]
              have l1 : w5.cell? ⟨wr.heap.size, 1, none⟩ = some (.int .i64 o) := by rw [hb5.cell (p := ⟨wr.heap.size, 1, none⟩) (by simp)]; simp [go_sem]
              have l2 : w5.cell? ⟨wr.heap.size, 2, none⟩ = some (.int .i64 t) := by rw [hb5.cell (p := ⟨wr.heap.size, 2, none⟩) (by simp)]; simp [go_sem]
              have zl5 : wr.heap.size < w5.heap.size := by have := hb5.size; simp at this; omega
              go_wp2_with fail
              refine (is2' (undoFrom_ x f o t x63 (by omega) (by omega) (by omega) HF.out HT.out HFO.out _) (by rw [HD.out, if_neg (by simp)]) HD.out).mono ?_
              rintro e w3 ⟨rfl, hb3⟩
              have hn3 : Below wr.heap.size wr w3 := below_next hn5 hb3
              clear l0 l1 l2
              have HO3 := Lib.hid (own_next HO1.out hn3)
              have hw3 := below_next hwx hn3
              go_wp2
              go_roundw
              case rel => exact ⟨i + 1, g', c', by omega, by go_num, by rw [HY.out], by rw [HY.out]; exact HO3.out, hw3⟩
              case measure => simp [intOf]; omega
          · have e : i = ls.length := by omega
            subst e
            have ho2 := HO1.out
            rw [List.take_length] at ho2 hrl ⊢
            have HO2 := Lib.hid ho2
            generalize rowC true ls x a = an at HNX HO2 hrl ⊢
            clear ho2
            go_wp2
            go_roundw
            case rel => exact ⟨k + 1, g', c', by omega, by go_num, by rw [HNX.out], by rw [HNX.out]; exact HO2.out, hwx⟩
            case measure => simp [intOf]; omega
      · have e : k = ps.length := by omega
        subst e
        rw [List.take_length] at hown hal ⊢
        have HR := Lib.hid (nextL_is (back := true) HST.out HPS.out)
        have HLN : Hid ((srt (natL (colC true ls ps))).length = (colC true ls ps).length) := Lib.hid (by rw [srt_len, natL_length])
        generalize colC true ls ps = a at hown hal HR HLN ⊢
        have HO := Lib.hid hown
        clear hown
        go_wp2_with fail
        refine (sortN_ (natL a) a.length W.heap.size g0 c0 _ (natL_length a) HO.out hsz (by omega)).mono ?_
        rintro e w4 ⟨rfl, own4, hb4⟩
        have hw4 := hw.trans hb4
        have hsz4 := hw4.size
        have HO4 := Lib.hid own4
        clear own4
        go_wp2_with fail
        refine (compactN_ (srt (natL a)) (nextL true ls N ps) a.length W.heap.size g0 c0 _ HLN.out HR.out HO4.out hsz4 (by omega)).mono ?_
        rintro e w5 ⟨rfl, own5, hb5⟩
        go_wp2
        go_ret
        exact ⟨_, _, rfl, own5, hw4.trans hb5⟩

theorem rowM_len (back : Bool) (p : Nat) (ls : List Ln) : ∀ s : List Bool, (rowM back ls p s).length = s.length := by
  induction ls with
  | nil => intro s; rfl
  | cons x ls ih =>
    intro s
    have h := ih (stepM back p s x)
    simp only [rowM, List.foldl_cons] at h ⊢
    rw [h]; unfold stepM; split <;> simp
theorem colM_len (back : Bool) (ls : List Ln) (n : Nat) (ps : List Nat) : (colM back ls n ps).length = n := by
  unfold colM
  suffices h : ∀ s : List Bool, (ps.foldl (fun s p => rowM back ls p s) s).length = s.length by rw [h]; simp
  induction ps with
  | nil => intro s; rfl
  | cons x ps ih => intro s; rw [List.foldl_cons, ih, rowM_len]

theorem layerL_le (b : Ln) (p m : Int) (back : Bool) : (layerL b p m back).length ≤ 65536 := by
  rcases Bool.eq_false_or_eq_true (smallB b && posB b p && decide (0 ≤ m)) with h | h
  · simp only [Bool.and_eq_true, decide_eq_true_eq] at h
    obtain ⟨⟨hS, hP⟩, hm⟩ := h
    obtain ⟨w, h, s, rfl, hb, h16, s16⟩ := smallB_nat hS
    obtain ⟨q, rfl, hq⟩ := posB_nat hP
    obtain ⟨m, rfl⟩ := Int.eq_ofNat_of_zero_le hm
    rw [layerL_yes hS hP]
    exact Nat.le_trans (layL_le (posB_lt hb hq) m) (Nat.pow_le_pow_right (n := 2) (j := 16) (by omega) h16)
  · rw [layerL_no h]; simp
/-- What is laid ahead of the loops: the size of the board, its lines. -/
structure LayCtx (w h s q N : Nat) (ls : List Ln) : Prop where
  hb : BdOk w h s
  h16 : w * h ≤ 16
  hN : N = 2 ^ (w * h)
  hq : q < N
  hl : linesL ⟨w, h, s⟩ = ls
theorem LayCtx.st {w h s q N : Nat} {ls : List Ln} (k : LayCtx w h s q N ls) : Stays N ls := by rw [k.hN, ← k.hl]; exact stays_of k.hb
theorem LayCtx.fo {w h s q N : Nat} {ls : List Ln} (k : LayCtx w h s q N ls) : LsFo ls := by rw [← k.hl]; exact lsFo_of k.hb
theorem LayCtx.n16 {w h s q N : Nat} {ls : List Ln} (k : LayCtx w h s q N ls) : N ≤ 65536 := by rw [k.hN]; exact Nat.pow_le_pow_right (n := 2) (j := 16) (by omega) k.h16
theorem LayCtx.m196 {w h s q N : Nat} {ls : List Ln} (k : LayCtx w h s q N ls) : ls.length ≤ 196 := by rw [← k.hl]; exact linesL_le _
theorem LayCtx.ps {w h s q N : Nat} {ls : List Ln} (k : LayCtx w h s q N ls) (back : Bool) (j : Nat) : ∀ p ∈ layL back ls N q j, p < N := layL_lt k.hq j
theorem LayCtx.pl {w h s q N : Nat} {ls : List Ln} (k : LayCtx w h s q N ls) (back : Bool) (j : Nat) : (layL back ls N q j).length ≤ 65536 := Nat.le_trans (layL_le k.hq j) k.n16

set_option maxHeartbeats 1000000 in
theorem layerOf_ (b : Ln) (p m : Int) (back : Bool) (hp : I64 p) (hm : I64 m) (W : World) :
    Calls Try.prog 143 #[.agg #[.int .i64 b.f, .int .i64 b.o, .int .i64 b.t], .int .i64 p, .int .i64 m, .bool back] W (GivesSlice W 3 1 (layerL b p m back).length (ints (natL (layerL b p m back)))) := by
  rcases Bool.eq_false_or_eq_true (smallB b) with hS | hS
  · rcases Bool.eq_false_or_eq_true (posB b p) with hP | hP
    · obtain ⟨w, h, s, rfl, hb, h16, s16⟩ := smallB_nat hS
      obtain ⟨q, rfl, hq⟩ := posB_nat hP
      by_cases h0 : m < 0
      · have HR := Lib.hid (layerL_no (b := ⟨w, h, s⟩) (p := q) (m := m) (back := back) (by simp; intro _ _; omega))
        go_enter Try.func143, Try.ntmps143
        go_wp2_with fail
        refine (is_ (iIsSmall_ ⟨w, h, s⟩ _) hS).mono ?_
        rintro e w1 ⟨rfl, hb1⟩
        obtain ⟨hc, hf⟩ := bcell hb1
        have z0 : W.heap.size < w1.heap.size := by have := hb1.size; (try simp at this); omega
        have hw1 : Below W.heap.size W w1 := below_step ((Below.refl _ _).alloc (Nat.le_refl _) _) hb1 (by (try simp))
        have c0 : w1.cell? ⟨W.heap.size, 0, none⟩ = some (.int .i64 w) := by rw [hc _ _ (by simp)]; simp [go_sem]
        have c1 : w1.cell? ⟨W.heap.size, 1, none⟩ = some (.int .i64 h) := by rw [hc _ _ (by simp)]; simp [go_sem]
        have c2 : w1.cell? ⟨W.heap.size, 2, none⟩ = some (.int .i64 s) := by rw [hc _ _ (by simp)]; simp [go_sem]
        clear hc hf hb1
        go_wp2_with fail
        refine (is_ (iPositionOk_ ⟨w, h, s⟩ q hp _) hP).mono ?_
        rintro e w2 ⟨rfl, hb2⟩
        have d0 := (hb2.cell (p := ⟨W.heap.size, 0, none⟩) z0).trans c0
        have d1 := (hb2.cell (p := ⟨W.heap.size, 1, none⟩) z0).trans c1
        have d2 := (hb2.cell (p := ⟨W.heap.size, 2, none⟩) z0).trans c2
        have hw2 := below_next hw1 hb2
        have z2 : W.heap.size < w2.heap.size := by have := hb2.size; omega
        clear c0 c1 c2 hb2
        go_wp2
        go_ret
        exact ⟨_, _, ret_slice (by rw [HR.out]; rfl), by rw [HR.out]; exact World.ownsRow_nil _ _ _ _, hw2⟩
      · obtain ⟨m, rfl⟩ := Int.eq_ofNat_of_zero_le (show 0 ≤ m by omega)
        have HR := Lib.hid (layerL_yes (m := m) (back := back) hS hP)
        obtain ⟨N, hN⟩ : ∃ N, N = 2 ^ (w * h) := ⟨_, rfl⟩
        obtain ⟨ls, hl⟩ : ∃ ls, linesL ⟨w, h, s⟩ = ls := ⟨_, rfl⟩
        have hx : LayCtx w h s q N ls := ⟨hb, h16, hN, by rw [hN]; exact posB_lt hb hq, hl⟩
        have HR : Hid (layerL ⟨w, h, s⟩ q m back = layL back ls N q m) := Lib.hid (by rw [HR.out, hl, hN])
        have HL := Lib.hid hl
        have m0 : (0 : Int) ≤ (m : Int) := by omega
        have m1 : (m : Int) ≤ 9223372036854775807 := hm.2
        clear hN hl hq h0 hm
        go_enter Try.func143, Try.ntmps143
        go_wp2_with fail
        refine (is_ (iIsSmall_ ⟨w, h, s⟩ _) hS).mono ?_
        rintro e w1 ⟨rfl, hb1⟩
        obtain ⟨hc, hf⟩ := bcell hb1
        have z0 : W.heap.size < w1.heap.size := by have := hb1.size; (try simp at this); omega
        have hw1 : Below W.heap.size W w1 := below_step ((Below.refl _ _).alloc (Nat.le_refl _) _) hb1 (by (try simp))
        have c0 : w1.cell? ⟨W.heap.size, 0, none⟩ = some (.int .i64 w) := by rw [hc _ _ (by simp)]; simp [go_sem]
        have c1 : w1.cell? ⟨W.heap.size, 1, none⟩ = some (.int .i64 h) := by rw [hc _ _ (by simp)]; simp [go_sem]
        have c2 : w1.cell? ⟨W.heap.size, 2, none⟩ = some (.int .i64 s) := by rw [hc _ _ (by simp)]; simp [go_sem]
        clear hc hf hb1
        go_wp2_with fail
        refine (is_ (iPositionOk_ ⟨w, h, s⟩ q hp _) hP).mono ?_
        rintro e w2 ⟨rfl, hb2⟩
        have d0 := (hb2.cell (p := ⟨W.heap.size, 0, none⟩) z0).trans c0
        have d1 := (hb2.cell (p := ⟨W.heap.size, 1, none⟩) z0).trans c1
        have d2 := (hb2.cell (p := ⟨W.heap.size, 2, none⟩) z0).trans c2
        have hw2 := below_next hw1 hb2
        have z2 : W.heap.size < w2.heap.size := by have := hb2.size; omega
        clear c0 c1 c2 hb2
        go_wp2_with fail
        refine (iLinesOf_ ⟨w, h, s⟩ _).mono ?_
        rintro e W1 ⟨A1, k1, rfl, rd1, hb3⟩
        rw [HL.out] at rd1 ⊢
        have hW1 := below_next hw2 hb3
        have hT0 : (W1.alloc (.cells #[.int .i64 q] 3)).ownsRow W1.heap.size 3 1 (.slice (some ⟨W1.heap.size, 0, none⟩) (layL back ls N q 0).length 1) (layL back ls N q 0).length (ints (natL (layL back ls N q 0))) := by
          have := World.ownsRow_lit (base := W1.heap.size) (e := 3) (size := 1) W1 #[.int .i64 q] 1 (Nat.le_refl _) (by simp [maxLen]) rfl
          simpa [layL, natL, ints] using this
        have HT0 := Lib.hid hT0
        clear d0 d1 d2 hb3 hT0
        go_wp2_with fail
        go_loopw [10, 11] (fun lv iv wr => ∃ (k : Nat) (A : Option Addr) (c : Nat), k ≤ m ∧ iv = .int .i64 k ∧ lv = .slice A (layL back ls N q k).length c ∧ wr.ownsRow W1.heap.size 3 1 (.slice A (layL back ls N q k).length c) (layL back ls N q k).length (ints (natL (layL back ls N q k))) ∧ Below W1.heap.size W1 wr) (fun _ iv _ => m - (intOf iv).toNat)
        case atStart => exact ⟨0, _, 1, Nat.zero_le _, rfl, by simp [layL], HT0.out, (Below.refl _ _).alloc (Nat.le_refl _) _⟩
        case round =>
          obtain ⟨k, A, c, hk, rfl, rfl, hown, hw⟩ := hrel
          have HPS := Lib.hid (hx.ps back k)
          have hpl := hx.pl back k
          have HNX : Hid (layL back ls N q (k + 1) = nextL back ls N (layL back ls N q k)) := Lib.hid rfl
          have HSTOP := Lib.hid (fun h => layL_stop (back := back) (ls := ls) (n := N) (p := q) (k := k) h (m - k))
          have hsz := hw.size
          by_cases hlt : k < m
          · generalize layL back ls N q k = cur at hown HPS hpl HNX HSTOP ⊢
            have HO := Lib.hid hown
            have k0' : (0 : Int) ≤ (k : Int) := by omega
            have k1' : (k : Int) < (m : Int) := by omega
            have rdP := rd_of_own hown
            have rdL := rd1.next hw
            have HRP := Lib.hid rdP
            have HRL := Lib.hid rdL
            clear hown rdP rdL
            by_cases hcl : 0 < cur.length
            · go_wp2_with fail
              refine (nextLayer_ back N ls cur A1 A k1 c hx.n16 hx.m196 hx.st hx.fo HPS.out hpl _ HRL.out HRP.out).mono ?_
              rintro e w4 ⟨A4, c4, rfl, own4, hb4⟩
              rw [← HNX.out] at own4 ⊢
              have HO4 := Lib.hid (own_base own4 hsz)
              have hw4 := hw.trans (hb4.mono hsz)
              clear own4
              go_wp2
              go_roundw
              case rel => exact ⟨k + 1, A4, c4, by omega, by go_num, rfl, HO4.out, hw4⟩
              case measure => simp [intOf]; omega
            · have hc0 : cur.length ≤ 0 := by omega
              have he : cur = [] := List.length_eq_zero_iff.1 (by omega)
              have HFIN : Hid (layL back ls N q m = cur) := Lib.hid (by have := HSTOP.out he; rw [show k + (m - k) = m by omega] at this; rw [this, he])
              clear he
              go_wp2
              go_ret
              exact ⟨_, _, ret_slice (by rw [HR.out, HFIN.out]), by rw [HR.out, HFIN.out]; exact own_base HO.out hW1.size, below_next hW1 hw⟩
          · have e : k = m := by omega
            subst e
            have HO := Lib.hid hown
            clear hown
            go_wp2
            go_ret
            exact ⟨_, _, ret_slice (by rw [HR.out]), by rw [HR.out]; exact own_base HO.out hW1.size, below_next hW1 hw⟩
    · have HR := Lib.hid (layerL_no (b := b) (p := p) (m := m) (back := back) (by simp [hP]))
      go_enter Try.func143, Try.ntmps143
      go_wp2_with fail
      refine (is_ (iIsSmall_ b _) hS).mono ?_
      rintro e w1 ⟨rfl, hb1⟩
      obtain ⟨hc, hf⟩ := bcell hb1
      have z0 : W.heap.size < w1.heap.size := by have := hb1.size; (try simp at this); omega
      have hw1 : Below W.heap.size W w1 := below_step ((Below.refl _ _).alloc (Nat.le_refl _) _) hb1 (by (try simp))
      have c0 : w1.cell? ⟨W.heap.size, 0, none⟩ = some (.int .i64 b.f) := by rw [hc _ _ (by simp)]; simp [go_sem]
      have c1 : w1.cell? ⟨W.heap.size, 1, none⟩ = some (.int .i64 b.o) := by rw [hc _ _ (by simp)]; simp [go_sem]
      have c2 : w1.cell? ⟨W.heap.size, 2, none⟩ = some (.int .i64 b.t) := by rw [hc _ _ (by simp)]; simp [go_sem]
      clear hc hf hb1
      go_wp2_with fail
      refine (is_ (iPositionOk_ b p hp _) hP).mono ?_
      rintro e w2 ⟨rfl, hb2⟩
      have d0 := (hb2.cell (p := ⟨W.heap.size, 0, none⟩) z0).trans c0
      have d1 := (hb2.cell (p := ⟨W.heap.size, 1, none⟩) z0).trans c1
      have d2 := (hb2.cell (p := ⟨W.heap.size, 2, none⟩) z0).trans c2
      have hw2 := below_next hw1 hb2
      have z2 : W.heap.size < w2.heap.size := by have := hb2.size; omega
      clear c0 c1 c2 hb2
      go_wp2
      go_ret
      exact ⟨_, _, ret_slice (by rw [HR.out]; rfl), by rw [HR.out]; exact World.ownsRow_nil _ _ _ _, hw2⟩
  · have HR := Lib.hid (layerL_no (b := b) (p := p) (m := m) (back := back) (by simp [hS]))
    go_enter Try.func143, Try.ntmps143
    go_wp2_with fail
    refine (is_ (iIsSmall_ b _) hS).mono ?_
    rintro e w1 ⟨rfl, hb1⟩
    obtain ⟨hc, hf⟩ := bcell hb1
    have z0 : W.heap.size < w1.heap.size := by have := hb1.size; (try simp at this); omega
    have hw1 : Below W.heap.size W w1 := below_step ((Below.refl _ _).alloc (Nat.le_refl _) _) hb1 (by (try simp))
    have c0 : w1.cell? ⟨W.heap.size, 0, none⟩ = some (.int .i64 b.f) := by rw [hc _ _ (by simp)]; simp [go_sem]
    have c1 : w1.cell? ⟨W.heap.size, 1, none⟩ = some (.int .i64 b.o) := by rw [hc _ _ (by simp)]; simp [go_sem]
    have c2 : w1.cell? ⟨W.heap.size, 2, none⟩ = some (.int .i64 b.t) := by rw [hc _ _ (by simp)]; simp [go_sem]
    clear hc hf hb1
    go_wp2
    go_ret
    exact ⟨_, _, ret_slice (by rw [HR.out]; rfl), by rw [HR.out]; exact World.ownsRow_nil _ _ _ _, hw1⟩
theorem iLayerOf_ (b : Ln) (p m : Int) (hp : I64 p) (hm : I64 m) (W : World) :
    Calls Try.prog 80 #[.agg #[.int .i64 b.f, .int .i64 b.o, .int .i64 b.t], .int .i64 p, .int .i64 m] W (GivesSlice W 3 1 (layerL b p m false).length (ints (natL (layerL b p m false)))) := by
  go_enter Try.func80, Try.ntmps80
  go_wp2_with fail
  refine (layerOf_ b p m false hp hm _).mono ?_
  rintro e w1 ⟨A, c, rfl, own1, hb1⟩
  have HO := Lib.hid (own_base own1 (show W.heap.size ≤ _ by simp))
  have hw1 : Below W.heap.size W w1 := below_step ((Below.refl _ _).alloc (Nat.le_refl _) _) hb1 (by (try simp))
  clear own1
  go_wp2
  go_ret
  exact ⟨_, _, rfl, HO.out, hw1⟩
theorem iBackLayer_ (b : Ln) (p m : Int) (hp : I64 p) (hm : I64 m) (W : World) :
    Calls Try.prog 82 #[.agg #[.int .i64 b.f, .int .i64 b.o, .int .i64 b.t], .int .i64 p, .int .i64 m] W (GivesSlice W 3 1 (layerL b p m true).length (ints (natL (layerL b p m true)))) := by
  go_enter Try.func82, Try.ntmps82
  go_wp2_with fail
  refine (layerOf_ b p m true hp hm _).mono ?_
  rintro e w1 ⟨A, c, rfl, own1, hb1⟩
  have HO := Lib.hid (own_base own1 (show W.heap.size ≤ _ by simp))
  have hw1 : Below W.heap.size W w1 := below_step ((Below.refl _ _).alloc (Nat.le_refl _) _) hb1 (by (try simp))
  clear own1
  go_wp2
  go_ret
  exact ⟨_, _, rfl, HO.out, hw1⟩

/-- How many positions the layers of a position have. -/
def lenL (b : Ln) (p : Int) (k : Nat) : Nat := (layerL b p k false).length
def wideI (b : Ln) (p : Int) : Int := if smallB b && posB b p then ((wstL (lenL b p) 16).1 : Nat) else -1
theorem lenL_le (b : Ln) (p : Int) (k : Nat) : lenL b p k ≤ 65536 := layerL_le _ _ _ _
theorem lenL_none {b : Ln} {p : Int} {k : Nat} (hk : 16 < k) : lenL b p k = 0 := by
  unfold lenL
  rcases Bool.eq_false_or_eq_true (smallB b && posB b p && decide (0 ≤ (k : Int))) with h | h
  · simp only [Bool.and_eq_true] at h
    obtain ⟨⟨hS, hP⟩, _⟩ := h
    obtain ⟨w, h, s, rfl, hb, h16, s16⟩ := smallB_nat hS
    obtain ⟨q, rfl, hq⟩ := posB_nat hP
    rw [layerL_yes hS hP, layL_none (stays_of hb) (lsFo_of hb) (posB_lt hb hq)]
    · rfl
    · have := popc_le q (posB_lt hb hq) hb.area.2
      omega
  · rw [layerL_no h]; rfl
theorem wide_stop (b : Ln) (p : Int) (d : Nat) : wstL (lenL b p) (16 + d) = wstL (lenL b p) 16 := wstL_stop (fun j hj => lenL_none hj) d
set_option maxHeartbeats 1000000 in
theorem iWidestLayer_ (b : Ln) (p : Int) (hp : I64 p) (W : World) :
    Calls Try.prog 79 #[.agg #[.int .i64 b.f, .int .i64 b.o, .int .i64 b.t], .int .i64 p] W fun e w' => e = .returned (.int .i64 (wideI b p)) ∧ Below W.heap.size W w' := by
  rcases Bool.eq_false_or_eq_true (smallB b) with hS | hS
  · rcases Bool.eq_false_or_eq_true (posB b p) with hP | hP
    · have HR : Hid (wideI b p = ((wstL (lenL b p) 16).1 : Nat)) := Lib.hid (by rw [wideI, hS, hP]; rfl)
      go_enter Try.func79, Try.ntmps79
      go_wp2_with fail
      refine (is_ (iIsSmall_ b _) hS).mono ?_
      rintro e w1 ⟨rfl, hb1⟩
      obtain ⟨hc, hf⟩ := bcell hb1
      have z0 : W.heap.size < w1.heap.size := by have := hb1.size; (try simp at this); omega
      have hw1 : Below W.heap.size W w1 := below_step ((Below.refl _ _).alloc (Nat.le_refl _) _) hb1 (by (try simp))
      have c0 : w1.cell? ⟨W.heap.size, 0, none⟩ = some (.int .i64 b.f) := by rw [hc _ _ (by simp)]; simp [go_sem]
      have c1 : w1.cell? ⟨W.heap.size, 1, none⟩ = some (.int .i64 b.o) := by rw [hc _ _ (by simp)]; simp [go_sem]
      have c2 : w1.cell? ⟨W.heap.size, 2, none⟩ = some (.int .i64 b.t) := by rw [hc _ _ (by simp)]; simp [go_sem]
      clear hc hf hb1
      go_wp2_with fail
      refine (is_ (iPositionOk_ b p hp _) hP).mono ?_
      rintro e w2 ⟨rfl, hb2⟩
      have d0 := (hb2.cell (p := ⟨W.heap.size, 0, none⟩) z0).trans c0
      have d1 := (hb2.cell (p := ⟨W.heap.size, 1, none⟩) z0).trans c1
      have d2 := (hb2.cell (p := ⟨W.heap.size, 2, none⟩) z0).trans c2
      have hw2 := below_next hw1 hb2
      have z2 : W.heap.size < w2.heap.size := by have := hb2.size; omega
      clear c0 c1 c2 hb2
      go_wp2_with fail
      go_loopw [5, 6, 7] (fun bv mv nv wr => ∃ k : Nat, k ≤ 16 ∧ nv = .int .i64 ((k + 1 : Nat) : Int) ∧ bv = .int .i64 ((wstL (lenL b p) k).1 : Nat) ∧ mv = .int .i64 ((wstL (lenL b p) k).2 : Nat) ∧ Below w2.heap.size w2 wr) (fun _ _ nv _ => 17 - (intOf nv).toNat)
      case atStart => exact ⟨0, by omega, rfl, rfl, rfl, Below.refl _ _⟩
      case round =>
        obtain ⟨k, hk, rfl, rfl, rfl, hw⟩ := hrel
        obtain ⟨hle1, hle2⟩ := wstL_le (lenL b p) (lenL_le b p) (by omega) k
        have hnl := lenL_le b p (k + 1)
        by_cases hlt : k < 16
        · have e0 := (hw.cell (p := ⟨W.heap.size, 0, none⟩) z2).trans d0
          have e1 := (hw.cell (p := ⟨W.heap.size, 1, none⟩) z2).trans d1
          have e2 := (hw.cell (p := ⟨W.heap.size, 2, none⟩) z2).trans d2
          have z3 : W.heap.size < wr.heap.size := by have := hw.size; omega
          have hsz := hw.size
          have HK : Hid ((layerL b p ((k + 1 : Nat) : Int) false).length = lenL b p (k + 1)) := Lib.hid rfl
          have H64 : I64 ((k + 1 : Nat) : Int) := by unfold I64; omega
          have n1 : ((k + 1 : Nat) : Int) ≤ 16 := by omega
          have n0 : (0 : Int) ≤ ((k + 1 : Nat) : Int) := by omega
          by_cases hgt : (wstL (lenL b p) k).2 < lenL b p (k + 1)
          · have HY := Lib.hid (wstL_yes hgt)
            have hgt' : (((wstL (lenL b p) k).2 : Nat) : Int) < ((lenL b p (k + 1) : Nat) : Int) := by omega
            generalize wstL (lenL b p) k = st at hle1 hle2 hgt hgt' ⊢
            generalize lenL b p (k + 1) = nl at HK HY hnl hgt hgt'
            generalize hkk : ((k + 1 : Nat) : Int) = kk at HK H64 n1 n0 ⊢
            have HKK := Lib.hid hkk
            clear hkk
            go_wp2_with fail
            refine (iLayerOf_ b p kk hp H64 _).mono ?_
            rintro e w4 ⟨A4, c4, rfl, own4, hb4⟩
            rw [HK.out]
            have hw4 := hw.trans (hb4.mono hsz)
            clear own4 e0 e1 e2
            go_wp2
            go_roundw
            case rel => exact ⟨k + 1, by omega, by rw [← HKK.out]; go_num, by rw [HY.out, ← HKK.out], by rw [HY.out], hw4⟩
            case measure => simp [intOf]; have := HKK.out; omega
          · have HY := Lib.hid (wstL_no hgt)
            have hgt' : ((lenL b p (k + 1) : Nat) : Int) ≤ (((wstL (lenL b p) k).2 : Nat) : Int) := by omega
            generalize wstL (lenL b p) k = st at hle1 hle2 hgt hgt' HY ⊢
            generalize lenL b p (k + 1) = nl at HK hnl hgt hgt'
            generalize hkk : ((k + 1 : Nat) : Int) = kk at HK H64 n1 n0 ⊢
            have HKK := Lib.hid hkk
            clear hkk
            go_wp2_with fail
            refine (iLayerOf_ b p kk hp H64 _).mono ?_
            rintro e w4 ⟨A4, c4, rfl, own4, hb4⟩
            rw [HK.out]
            have hw4 := hw.trans (hb4.mono hsz)
            clear own4 e0 e1 e2
            go_wp2
            go_roundw
            case rel => exact ⟨k + 1, by omega, by rw [← HKK.out]; go_num, by rw [HY.out], by rw [HY.out], hw4⟩
            case measure => simp [intOf]; have := HKK.out; omega
        · obtain rfl : k = 16 := by omega
          go_wp2
          go_ret
          exact ⟨by rw [HR.out]; rfl, below_next hw2 hw⟩
    · have HR : Hid (wideI b p = -1) := Lib.hid (by rw [wideI, hP, Bool.and_false]; rfl)
      go_enter Try.func79, Try.ntmps79
      go_wp2_with fail
      refine (is_ (iIsSmall_ b _) hS).mono ?_
      rintro e w1 ⟨rfl, hb1⟩
      obtain ⟨hc, hf⟩ := bcell hb1
      have z0 : W.heap.size < w1.heap.size := by have := hb1.size; (try simp at this); omega
      have hw1 : Below W.heap.size W w1 := below_step ((Below.refl _ _).alloc (Nat.le_refl _) _) hb1 (by (try simp))
      have c0 : w1.cell? ⟨W.heap.size, 0, none⟩ = some (.int .i64 b.f) := by rw [hc _ _ (by simp)]; simp [go_sem]
      have c1 : w1.cell? ⟨W.heap.size, 1, none⟩ = some (.int .i64 b.o) := by rw [hc _ _ (by simp)]; simp [go_sem]
      have c2 : w1.cell? ⟨W.heap.size, 2, none⟩ = some (.int .i64 b.t) := by rw [hc _ _ (by simp)]; simp [go_sem]
      clear hc hf hb1
      go_wp2_with fail
      refine (is_ (iPositionOk_ b p hp _) hP).mono ?_
      rintro e w2 ⟨rfl, hb2⟩
      have d0 := (hb2.cell (p := ⟨W.heap.size, 0, none⟩) z0).trans c0
      have d1 := (hb2.cell (p := ⟨W.heap.size, 1, none⟩) z0).trans c1
      have d2 := (hb2.cell (p := ⟨W.heap.size, 2, none⟩) z0).trans c2
      have hw2 := below_next hw1 hb2
      have z2 : W.heap.size < w2.heap.size := by have := hb2.size; omega
      clear c0 c1 c2 hb2
      go_wp2
      go_ret
      exact ⟨by rw [HR.out]; rfl, hw2⟩
  · have HR : Hid (wideI b p = -1) := Lib.hid (by rw [wideI, hS, Bool.false_and]; rfl)
    go_enter Try.func79, Try.ntmps79
    go_wp2_with fail
    refine (is_ (iIsSmall_ b _) hS).mono ?_
    rintro e w1 ⟨rfl, hb1⟩
    obtain ⟨hc, hf⟩ := bcell hb1
    have z0 : W.heap.size < w1.heap.size := by have := hb1.size; (try simp at this); omega
    have hw1 : Below W.heap.size W w1 := below_step ((Below.refl _ _).alloc (Nat.le_refl _) _) hb1 (by (try simp))
    have c0 : w1.cell? ⟨W.heap.size, 0, none⟩ = some (.int .i64 b.f) := by rw [hc _ _ (by simp)]; simp [go_sem]
    have c1 : w1.cell? ⟨W.heap.size, 1, none⟩ = some (.int .i64 b.o) := by rw [hc _ _ (by simp)]; simp [go_sem]
    have c2 : w1.cell? ⟨W.heap.size, 2, none⟩ = some (.int .i64 b.t) := by rw [hc _ _ (by simp)]; simp [go_sem]
    clear hc hf hb1
    go_wp2
    go_ret
    exact ⟨by rw [HR.out]; rfl, hw1⟩

/-- Two positions of a small board. -/
def pairM (b : Ln) (p g : Int) : Bool := smallB b && posB b p && posB b g
def awayI (b : Ln) (p g : Int) : Int := pegsB b p - pegsB b g
def meetL (b : Ln) (p g n : Int) : List Int :=
  if pairM b p g && inB n 0 (awayI b p g) then common (natL (layerL b p n false)) (natL (layerL b g (awayI b p g - n) true)) else []
theorem meetL_no {b : Ln} {p g n : Int} (h : (pairM b p g && inB n 0 (awayI b p g)) = false) : meetL b p g n = [] := by simp [meetL, h]
theorem pegsB_bd (b : Ln) (p : Int) : -1 ≤ pegsB b p ∧ pegsB b p ≤ 49 := by
  have h : popc p.toNat ≤ 49 := by
    unfold popc bitsOf
    exact Nat.le_trans (List.length_filter_le _ _) (by simp)
  unfold pegsB
  split <;> omega
theorem pegsB_yes {w h s q : Nat} (hP : posB ⟨w, h, s⟩ q = true) : pegsB ⟨w, h, s⟩ q = (popc q : Nat) := by simp [pegsB, hP]
theorem natL_le {xs : List Nat} {n : Nat} (h : xs.length ≤ n) : (natL xs).length ≤ n := by rw [natL_length]; exact h
theorem common_le' (a c : List Int) : ∀ (n i k : Nat) (acc : List Int), (comF a c n i k acc).length ≤ acc.length + n := by
  intro n
  induction n with
  | zero => intro i k acc; simp [comF]
  | succ n ih =>
    intro i k acc
    rw [comF]
    split
    · split
      · have := ih (i + 1) k acc; omega
      · split
        · have := ih i (k + 1) acc; omega
        · have h1 := ih (i + 1) (k + 1) (addNew acc (a.getD i 0))
          have h2 : (addNew acc (a.getD i 0)).length ≤ acc.length + 1 := by unfold addNew; split <;> simp
          omega
    · omega
theorem meetL_le (b : Ln) (p g n : Int) : (meetL b p g n).length ≤ 131072 := by
  unfold meetL
  split
  · have h := common_le' (natL (layerL b p n false)) (natL (layerL b g (awayI b p g - n) true)) ((natL (layerL b p n false)).length + (natL (layerL b g (awayI b p g - n) true)).length) 0 0 []
    have h1 := natL_le (layerL_le b p n false)
    have h2 := natL_le (layerL_le b g (awayI b p g - n) true)
    unfold common
    simp only [List.length_nil] at h
    omega
  · simp
theorem iCommonN_ (xs ys : List Nat) (A B : Option Addr) (ca cb : Nat) (w : World) (ha : Rd w w.heap.size A (ints (natL xs))) (hb : Rd w w.heap.size B (ints (natL ys))) (hna : xs.length ≤ 1048576) (hnb : ys.length ≤ 1048576) :
    Calls Try.prog 84 #[.slice A xs.length ca, .slice B ys.length cb] w (GivesSlice w 3 1 (common (natL xs) (natL ys)).length (ints (common (natL xs) (natL ys)))) := by
  have h := iCommonOf_ (natL xs) (natL ys) A B ca cb w ha hb (natL_le hna) (natL_le hnb)
  simp only [natL_length] at h
  exact h
set_option maxHeartbeats 1000000 in
theorem iMeetingOf_ (b : Ln) (p g n : Int) (hp : I64 p) (hg : I64 g) (hn : I64 n) (W : World) :
    Calls Try.prog 78 #[.agg #[.int .i64 b.f, .int .i64 b.o, .int .i64 b.t], .int .i64 p, .int .i64 g, .int .i64 n] W (GivesSlice W 3 1 (meetL b p g n).length (ints (meetL b p g n))) := by
  rcases Bool.eq_false_or_eq_true (smallB b) with hS | hS
  · rcases Bool.eq_false_or_eq_true (posB b p) with hP | hP
    · rcases Bool.eq_false_or_eq_true (posB b g) with hG | hG
      · have HA : awayI b p g = pegsB b p - pegsB b g := rfl
        have hPI : pairM b p g = true := by simp [pairM, hS, hP, hG]
        obtain ⟨w, h, s, rfl, hb, h16, s16⟩ := smallB_nat hS
        obtain ⟨q, rfl, hq⟩ := posB_nat hP
        obtain ⟨r, rfl, hr⟩ := posB_nat hG
        have q16 : q < 65536 := Nat.lt_of_lt_of_le (posB_lt hb hq) (Nat.pow_le_pow_right (n := 2) (j := 16) (by omega) h16)
        have r16 : r < 65536 := Nat.lt_of_lt_of_le (posB_lt hb hr) (Nat.pow_le_pow_right (n := 2) (j := 16) (by omega) h16)
        have hbd1 := pegsB_bd ⟨w, h, s⟩ q
        have hbd2 := pegsB_bd ⟨w, h, s⟩ r
        rw [pegsB_yes hP] at HA hbd1
        rw [pegsB_yes hG] at HA hbd2
        have hlL := layerL_le ⟨w, h, s⟩ q n false
        have hlB := layerL_le ⟨w, h, s⟩ r (awayI ⟨w, h, s⟩ q r - n) true
        rcases Bool.eq_false_or_eq_true (inB n 0 (awayI ⟨w, h, s⟩ q r)) with hI | hI
        · have HR : Hid (meetL ⟨w, h, s⟩ q r n = common (natL (layerL ⟨w, h, s⟩ q n false)) (natL (layerL ⟨w, h, s⟩ r (awayI ⟨w, h, s⟩ q r - n) true))) := Lib.hid (by rw [meetL, hPI, hI]; rfl)
          have hI' := inB_iff.1 hI
          rw [HA] at HR hlB hI hI'
          have hdn : I64 ((popc q : Int) - (popc r : Int) - n) := by unfold I64; omega
          have hsub : IntKind.i64.wrap ((popc q : Int) - (popc r : Int) - n) = (popc q : Int) - (popc r : Int) - n := IntWalk.i64_in _ hdn
          have hlL : (layerL ⟨w, h, s⟩ q n false).length ≤ 1048576 := by omega
          have hlB : (layerL ⟨w, h, s⟩ r ((popc q : Int) - (popc r : Int) - n) true).length ≤ 1048576 := by omega
          have HSUB := Lib.hid hsub
          clear HA hPI hq hr hsub
          go_enter Try.func78, Try.ntmps78
          go_wp2_with fail
          refine (is_ (iIsSmall_ ⟨w, h, s⟩ _) hS).mono ?_
          rintro e w1 ⟨rfl, hb1⟩
          obtain ⟨hc, hf⟩ := bcell hb1
          have z0 : W.heap.size < w1.heap.size := by have := hb1.size; (try simp at this); omega
          have hw1 : Below W.heap.size W w1 := below_step ((Below.refl _ _).alloc (Nat.le_refl _) _) hb1 (by (try simp))
          have c0 : w1.cell? ⟨W.heap.size, 0, none⟩ = some (.int .i64 w) := by rw [hc _ _ (by simp)]; simp [go_sem]
          have c1 : w1.cell? ⟨W.heap.size, 1, none⟩ = some (.int .i64 h) := by rw [hc _ _ (by simp)]; simp [go_sem]
          have c2 : w1.cell? ⟨W.heap.size, 2, none⟩ = some (.int .i64 s) := by rw [hc _ _ (by simp)]; simp [go_sem]
          clear hc hf hb1
          go_wp2_with fail
          refine (is_ (iPositionOk_ ⟨w, h, s⟩ q hp _) hP).mono ?_
          rintro e w2 ⟨rfl, hb2⟩
          replace c0 := (hb2.cell (p := ⟨W.heap.size, 0, none⟩) z0).trans c0
          replace c1 := (hb2.cell (p := ⟨W.heap.size, 1, none⟩) z0).trans c1
          replace c2 := (hb2.cell (p := ⟨W.heap.size, 2, none⟩) z0).trans c2
          have hw2 := below_next hw1 hb2
          have zw2 : W.heap.size < (w2).heap.size := by have := hb2.size; omega
          clear hb2
          go_wp2_with fail
          refine (is_ (iPositionOk_ ⟨w, h, s⟩ r hg _) hG).mono ?_
          rintro e w3 ⟨rfl, hb2⟩
          replace c0 := (hb2.cell (p := ⟨W.heap.size, 0, none⟩) zw2).trans c0
          replace c1 := (hb2.cell (p := ⟨W.heap.size, 1, none⟩) zw2).trans c1
          replace c2 := (hb2.cell (p := ⟨W.heap.size, 2, none⟩) zw2).trans c2
          have hw3 := below_next hw2 hb2
          have zw3 : W.heap.size < (w3).heap.size := by have := hb2.size; omega
          clear hb2
          go_wp2_with fail
          refine (pegsIn_ q q16 _).mono ?_
          rintro e w' ⟨rfl, rfl⟩
          go_wp2_with fail
          refine (pegsIn_ r r16 _).mono ?_
          rintro e w' ⟨rfl, rfl⟩
          go_wp2_with fail
          refine (is_ (within_ _ _ _ _) hI).mono ?_
          rintro e w' ⟨rfl, rfl⟩
          have hsub := HSUB.out
          go_wp2_with fail
          go_region_held3 (fun w' => w'.cell? ⟨W.heap.size, 0, none⟩ = some (.int .i64 w) ∧ w'.cell? ⟨W.heap.size, 1, none⟩ = some (.int .i64 h) ∧ w'.cell? ⟨W.heap.size, 2, none⟩ = some (.int .i64 s) ∧ Below w3.heap.size w3 w')
            (first | exact ⟨c0, c1, c2, (Below.refl _ _).drew⟩ | exact ⟨(hX.cell (p := ⟨W.heap.size, 0, none⟩) zw3).trans c0, (hX.cell (p := ⟨W.heap.size, 1, none⟩) zw3).trans c1, (hX.cell (p := ⟨W.heap.size, 2, none⟩) zw3).trans c2, hX⟩)
            (first
              | (go_at_call 80; refine (iLayerOf_ ⟨w, h, s⟩ q n hp hn _).mono ?_; rintro e wL ⟨AL, cL, rfl, ownL, hbL⟩; have hX : Below w3.heap.size w3 wL := below_next (by first | assumption | exact (Below.refl _ _).drew) hbL)
              | (go_at_call 82; refine (iBackLayer_ ⟨w, h, s⟩ r _ hg hdn _).mono ?_; rintro e wB ⟨AB, cB, rfl, ownB, hbB⟩; have hX : Below w3.heap.size w3 wB := below_next (by first | assumption | exact (Below.refl _ _).drew) hbB)
              | (go_at_call 84; refine (iCommonN_ (layerL ⟨w, h, s⟩ q n false) (layerL ⟨w, h, s⟩ r ((popc q : Int) - (popc r : Int) - n) true) AL AB cL cB _ (by first | exact rd_of_own ownL | exact (rd_of_own ownL).next hbB) (by first | exact rd_of_own ownB | exact (rd_of_own ownB).next hbL) hlL hlB).mono ?_; rintro e wC ⟨AC, cC, rfl, ownC, hbC⟩; have hX : Below w3.heap.size w3 wC := below_next (by first | assumption | exact (Below.refl _ _).drew) hbC; have hY : wC.ownsRow W.heap.size 3 1 (.slice AC (common _ _).length cC) _ (ints (common _ _)) := own_base ownC (Nat.le_trans (hw3).size (by first | exact (Nat.le_trans hbL.size hbB.size) | exact (Nat.le_trans hbB.size hbL.size) | (have := hbL.size; have := hbB.size; simp at *; omega))))
              )
          all_goals (have HY := Lib.hid hY; clear hY ownC; go_wp2; go_ret; exact ⟨_, _, ret_slice (by rw [HR.out]), by rw [HR.out]; exact HY.out, below_next hw3 hX⟩)
        · have HR := Lib.hid (meetL_no (b := ⟨w, h, s⟩) (p := q) (g := r) (n := n) (by rw [hI, Bool.and_false]))
          rw [HA] at hI
          clear HA hPI hq hr
          go_enter Try.func78, Try.ntmps78
          go_wp2_with fail
          refine (is_ (iIsSmall_ ⟨w, h, s⟩ _) hS).mono ?_
          rintro e w1 ⟨rfl, hb1⟩
          obtain ⟨hc, hf⟩ := bcell hb1
          have z0 : W.heap.size < w1.heap.size := by have := hb1.size; (try simp at this); omega
          have hw1 : Below W.heap.size W w1 := below_step ((Below.refl _ _).alloc (Nat.le_refl _) _) hb1 (by (try simp))
          have c0 : w1.cell? ⟨W.heap.size, 0, none⟩ = some (.int .i64 w) := by rw [hc _ _ (by simp)]; simp [go_sem]
          have c1 : w1.cell? ⟨W.heap.size, 1, none⟩ = some (.int .i64 h) := by rw [hc _ _ (by simp)]; simp [go_sem]
          have c2 : w1.cell? ⟨W.heap.size, 2, none⟩ = some (.int .i64 s) := by rw [hc _ _ (by simp)]; simp [go_sem]
          clear hc hf hb1
          go_wp2_with fail
          refine (is_ (iPositionOk_ ⟨w, h, s⟩ q hp _) hP).mono ?_
          rintro e w2 ⟨rfl, hb2⟩
          replace c0 := (hb2.cell (p := ⟨W.heap.size, 0, none⟩) z0).trans c0
          replace c1 := (hb2.cell (p := ⟨W.heap.size, 1, none⟩) z0).trans c1
          replace c2 := (hb2.cell (p := ⟨W.heap.size, 2, none⟩) z0).trans c2
          have hw2 := below_next hw1 hb2
          have zw2 : W.heap.size < (w2).heap.size := by have := hb2.size; omega
          clear hb2
          go_wp2_with fail
          refine (is_ (iPositionOk_ ⟨w, h, s⟩ r hg _) hG).mono ?_
          rintro e w3 ⟨rfl, hb2⟩
          replace c0 := (hb2.cell (p := ⟨W.heap.size, 0, none⟩) zw2).trans c0
          replace c1 := (hb2.cell (p := ⟨W.heap.size, 1, none⟩) zw2).trans c1
          replace c2 := (hb2.cell (p := ⟨W.heap.size, 2, none⟩) zw2).trans c2
          have hw3 := below_next hw2 hb2
          have zw3 : W.heap.size < (w3).heap.size := by have := hb2.size; omega
          clear hb2
          go_wp2_with fail
          refine (pegsIn_ q q16 _).mono ?_
          rintro e w' ⟨rfl, rfl⟩
          go_wp2_with fail
          refine (pegsIn_ r r16 _).mono ?_
          rintro e w' ⟨rfl, rfl⟩
          go_wp2_with fail
          refine (is_ (within_ _ _ _ _) hI).mono ?_
          rintro e w' ⟨rfl, rfl⟩
          go_wp2
          go_ret
          exact ⟨_, _, ret_slice (by rw [HR.out]; rfl), by rw [HR.out]; exact World.ownsRow_nil _ _ _ _, hw3⟩
      · have HR := Lib.hid (meetL_no (b := b) (p := p) (g := g) (n := n) (by simp [pairM, hG]))
        go_enter Try.func78, Try.ntmps78
        go_wp2_with fail
        refine (is_ (iIsSmall_ b _) hS).mono ?_
        rintro e w1 ⟨rfl, hb1⟩
        obtain ⟨hc, hf⟩ := bcell hb1
        have z0 : W.heap.size < w1.heap.size := by have := hb1.size; (try simp at this); omega
        have hw1 : Below W.heap.size W w1 := below_step ((Below.refl _ _).alloc (Nat.le_refl _) _) hb1 (by (try simp))
        have c0 : w1.cell? ⟨W.heap.size, 0, none⟩ = some (.int .i64 b.f) := by rw [hc _ _ (by simp)]; simp [go_sem]
        have c1 : w1.cell? ⟨W.heap.size, 1, none⟩ = some (.int .i64 b.o) := by rw [hc _ _ (by simp)]; simp [go_sem]
        have c2 : w1.cell? ⟨W.heap.size, 2, none⟩ = some (.int .i64 b.t) := by rw [hc _ _ (by simp)]; simp [go_sem]
        clear hc hf hb1
        go_wp2_with fail
        refine (is_ (iPositionOk_ b p hp _) hP).mono ?_
        rintro e w2 ⟨rfl, hb2⟩
        replace c0 := (hb2.cell (p := ⟨W.heap.size, 0, none⟩) z0).trans c0
        replace c1 := (hb2.cell (p := ⟨W.heap.size, 1, none⟩) z0).trans c1
        replace c2 := (hb2.cell (p := ⟨W.heap.size, 2, none⟩) z0).trans c2
        have hw2 := below_next hw1 hb2
        have zw2 : W.heap.size < (w2).heap.size := by have := hb2.size; omega
        clear hb2
        go_wp2_with fail
        refine (is_ (iPositionOk_ b g hg _) hG).mono ?_
        rintro e w3 ⟨rfl, hb2⟩
        replace c0 := (hb2.cell (p := ⟨W.heap.size, 0, none⟩) zw2).trans c0
        replace c1 := (hb2.cell (p := ⟨W.heap.size, 1, none⟩) zw2).trans c1
        replace c2 := (hb2.cell (p := ⟨W.heap.size, 2, none⟩) zw2).trans c2
        have hw3 := below_next hw2 hb2
        have zw3 : W.heap.size < (w3).heap.size := by have := hb2.size; omega
        clear hb2
        go_wp2
        go_ret
        exact ⟨_, _, ret_slice (by rw [HR.out]; rfl), by rw [HR.out]; exact World.ownsRow_nil _ _ _ _, hw3⟩
    · have HR := Lib.hid (meetL_no (b := b) (p := p) (g := g) (n := n) (by simp [pairM, hP]))
      go_enter Try.func78, Try.ntmps78
      go_wp2_with fail
      refine (is_ (iIsSmall_ b _) hS).mono ?_
      rintro e w1 ⟨rfl, hb1⟩
      obtain ⟨hc, hf⟩ := bcell hb1
      have z0 : W.heap.size < w1.heap.size := by have := hb1.size; (try simp at this); omega
      have hw1 : Below W.heap.size W w1 := below_step ((Below.refl _ _).alloc (Nat.le_refl _) _) hb1 (by (try simp))
      have c0 : w1.cell? ⟨W.heap.size, 0, none⟩ = some (.int .i64 b.f) := by rw [hc _ _ (by simp)]; simp [go_sem]
      have c1 : w1.cell? ⟨W.heap.size, 1, none⟩ = some (.int .i64 b.o) := by rw [hc _ _ (by simp)]; simp [go_sem]
      have c2 : w1.cell? ⟨W.heap.size, 2, none⟩ = some (.int .i64 b.t) := by rw [hc _ _ (by simp)]; simp [go_sem]
      clear hc hf hb1
      go_wp2_with fail
      refine (is_ (iPositionOk_ b p hp _) hP).mono ?_
      rintro e w2 ⟨rfl, hb2⟩
      replace c0 := (hb2.cell (p := ⟨W.heap.size, 0, none⟩) z0).trans c0
      replace c1 := (hb2.cell (p := ⟨W.heap.size, 1, none⟩) z0).trans c1
      replace c2 := (hb2.cell (p := ⟨W.heap.size, 2, none⟩) z0).trans c2
      have hw2 := below_next hw1 hb2
      have zw2 : W.heap.size < (w2).heap.size := by have := hb2.size; omega
      clear hb2
      go_wp2
      go_ret
      exact ⟨_, _, ret_slice (by rw [HR.out]; rfl), by rw [HR.out]; exact World.ownsRow_nil _ _ _ _, hw2⟩
  · have HR := Lib.hid (meetL_no (b := b) (p := p) (g := g) (n := n) (by simp [pairM, hS]))
    go_enter Try.func78, Try.ntmps78
    go_wp2_with fail
    refine (is_ (iIsSmall_ b _) hS).mono ?_
    rintro e w1 ⟨rfl, hb1⟩
    obtain ⟨hc, hf⟩ := bcell hb1
    have z0 : W.heap.size < w1.heap.size := by have := hb1.size; (try simp at this); omega
    have hw1 : Below W.heap.size W w1 := below_step ((Below.refl _ _).alloc (Nat.le_refl _) _) hb1 (by (try simp))
    have c0 : w1.cell? ⟨W.heap.size, 0, none⟩ = some (.int .i64 b.f) := by rw [hc _ _ (by simp)]; simp [go_sem]
    have c1 : w1.cell? ⟨W.heap.size, 1, none⟩ = some (.int .i64 b.o) := by rw [hc _ _ (by simp)]; simp [go_sem]
    have c2 : w1.cell? ⟨W.heap.size, 2, none⟩ = some (.int .i64 b.t) := by rw [hc _ _ (by simp)]; simp [go_sem]
    clear hc hf hb1
    go_wp2
    go_ret
    exact ⟨_, _, ret_slice (by rw [HR.out]; rfl), by rw [HR.out]; exact World.ownsRow_nil _ _ _ _, hw1⟩
end Go.Proofs.Ytbcgokpamhgabaa

/- The contract of the program's nextLayer. -/
import Derived.Test.YtbljoknlphaimaaChecked
import Derived.Test.YtbljoknlphaimaaMem
import Derived.Tactics
import Derived.Tactics2
import Derived.WalkKit
import Derived.WalkSpells
import Derived.WalkLawsBesides
import Derived.Deep.QuietTactic
import Derived.BigQuiet
import Derived.BigGuardPart
import Derived.Lib.QuietBelow
import Derived.OwnWalk
import Derived.KernelRfl
import Derived.Test.YtbljoknlphaimaaStuckG
import Derived.Test.YtbljoknlphaimaaSortL
set_option linter.unusedVariables false
set_option maxRecDepth 20000
namespace Go.Proofs.Ytbljoknlphaimaa
open Go.RowKit Go.Sort Go.Lib

theorem sortN_ (zs : List Int) (n base g c : Nat) (w : World) (hn : zs.length = n) (hown : w.ownsRow base 3 1 (.slice (some ⟨g, 0, none⟩) n c) n (ints zs)) (hbase : base ≤ w.heap.size) (hsz : n < 4611686018427387904) :
    Calls Try.prog 118 #[.slice (some ⟨g, 0, none⟩) n c] w fun e w' =>
      e = .returned (.tuple #[]) ∧ w'.ownsRow base 3 1 (.slice (some ⟨g, 0, none⟩) n c) n (ints (srt zs)) ∧ Below base w w' := by
  subst hn
  exact sort_ zs base g c w hown hbase hsz
theorem compactN_ (zs : List Int) (rs : List Nat) (n base g c : Nat) (w : World) (hn : zs.length = n) (hr : compactUpTo zs.toArray n = natL rs) (hown : w.ownsRow base 3 1 (.slice (some ⟨g, 0, none⟩) n c) n (ints zs)) (hbase : base ≤ w.heap.size) (hsz : n ≤ 9223372036854775807) :
    Calls Try.prog 119 #[.slice (some ⟨g, 0, none⟩) n c] w fun e w' =>
      e = .returned (.slice (some ⟨g, 0, none⟩) rs.length c) ∧ w'.ownsRow base 3 1 (.slice (some ⟨g, 0, none⟩) rs.length c) rs.length (ints (natL rs)) ∧ Below base w w' := by
  subst hn
  have h := compact_ zs base g c w hown hbase hsz
  rw [hr, natL_length] at h
  exact h
/-- Lines of a small board, at any rate: three different holes below 49. -/
def LsFo (ls : List Ln) : Prop := ∀ l ∈ ls, ∃ f o t : Nat, l = ⟨f, o, t⟩ ∧ f < 49 ∧ o < 49 ∧ t < 49 ∧ f ≠ t ∧ o ≠ t ∧ f ≠ o

set_option maxHeartbeats 4000000 in
theorem nextLayer_ (back : Bool) (N : Nat) (ls : List Ln) (ps : List Nat) (AL AP : Option Addr) (cL cP : Nat) (hN : N ≤ 65536) (hm : ls.length ≤ 196) (hst : Stays N ls) (hls : LsFo ls) (hps : ∀ p ∈ ps, p < N) (hpl : ps.length ≤ 65536) (W : World)
    (rdL : Rd W W.heap.size AL (flat ls)) (rdP : Rd W W.heap.size AP (ints (natL ps))) :
    Calls Try.prog 105 #[.slice AL ls.length cL, .slice AP ps.length cP, .bool back] W (GivesSlice W 3 1 (nextL back ls N ps).length (ints (natL (nextL back ls N ps)))) := by
  obtain ⟨i0, hi, hz0, hz1, hz2⟩ := info_parts infoInt
  have HST := Lib.hid hst
  have HLS := Lib.hid hls
  have HPS := Lib.hid hps
  clear hst hls hps
  cases back with
  | false =>
    go_enter Try.func105, Try.ntmps105
    go_wp2_with fail
    go_loopw [7, 17] (fun v iv wr => ∃ (k g c : Nat), k ≤ ps.length ∧ iv = .int .i64 k ∧ v = .slice (some ⟨g, 0, none⟩) (colC false ls (ps.take k)).length c ∧ wr.ownsRow W.heap.size 3 1 (.slice (some ⟨g, 0, none⟩) (colC false ls (ps.take k)).length c) (colC false ls (ps.take k)).length (ints (natL (colC false ls (ps.take k)))) ∧ Below W.heap.size W wr) (fun _ iv _ => ps.length - (intOf iv).toNat)
    case atStart => exact ⟨0, W.heap.size, 0, Nat.zero_le _, rfl, rfl, by simpa [colC, natL, ints] using World.ownsRow_lit (base := W.heap.size) (e := 3) (size := 1) W #[] 0 (Nat.le_refl _) (by simp [maxLen]) rfl, (Below.refl _ _).alloc (Nat.le_refl _) _⟩
    case round =>
      obtain ⟨k, g0, c0, hk, rfl, rfl, hown, hw⟩ := hrel
      have hsz := hw.size
      have hal : (colC false ls (ps.take k)).length ≤ 12845056 := Nat.le_trans (colC_len false ls (ps.take k)) (Nat.le_trans (Nat.mul_le_mul (show (ps.take k).length ≤ 65536 by rw [List.length_take]; omega) hm) (Nat.le_refl _))
      by_cases hlt : k < ps.length
      · have hx : ps[k]? = some ps[k] := List.getElem?_eq_getElem hlt
        have xl := HPS.out _ (List.getElem_mem hlt)
        generalize ps[k] = x at hx xl
        obtain ⟨pb, poff, rfl, hpb, px0⟩ := rd_nat (rdP.below hw) hx
        have HNX := Lib.hid (show colC false ls (ps.take (k + 1)) = rowC false ls x (colC false ls (ps.take k)) from fold_take hx)
        generalize colC false ls (ps.take k) = a at hown hal HNX ⊢
        have HO := Lib.hid hown
        have k0' : (0 : Int) ≤ (k : Int) := by omega
        have k1' : (k : Int) < (ps.length : Int) := by omega
        have x63 : B63 x := by unfold B63; omega
        have hpz : pb < wr.heap.size := by omega
        clear hx hown
        go_wp2_with fail
        go_loopw [7, 23] (fun v iv wx => ∃ (i g c : Nat), i ≤ ls.length ∧ iv = .int .i64 i ∧ v = .slice (some ⟨g, 0, none⟩) (rowC false (ls.take i) x a).length c ∧ wx.ownsRow W.heap.size 3 1 (.slice (some ⟨g, 0, none⟩) (rowC false (ls.take i) x a).length c) (rowC false (ls.take i) x a).length (ints (natL (rowC false (ls.take i) x a))) ∧ Below W.heap.size W wx) (fun _ iv _ => ls.length - (intOf iv).toNat)
        case atStart => exact ⟨0, g0, c0, Nat.zero_le _, rfl, rfl, HO.out, hw⟩
        case round =>
          obtain ⟨i, g', c', hi0, rfl, rfl, hown, hwx⟩ := hrel
          have hszx := hwx.size
          have hrl : (rowC false (ls.take i) x a).length ≤ 12845252 := Nat.le_trans (rowC_len false x (ls.take i) a) (by rw [List.length_take]; omega)
          have HO1 := Lib.hid hown
          clear hown
          by_cases hil : i < ls.length
          · obtain ⟨bb, off, l, rfl, hbl, hxl, x0, x1, x2⟩ := (rdL.below hwx).line hil
            obtain ⟨f, o, t, rfl, f1, o1, t1, hft, hot, hfo⟩ := HLS.out l (List.mem_of_getElem? hxl)
            have HRT := Lib.hid (show rowC false (ls.take (i + 1)) x a = stepC false x (rowC false (ls.take i) x a) ⟨f, o, t⟩ from fold_take hxl)
            generalize rowC false (ls.take i) x a = ai at HO1 hrl HRT ⊢
            have HF := Lib.hid hft
            have HT := Lib.hid hot
            have HFO := Lib.hid hfo
            have i0' : (0 : Int) ≤ (i : Int) := by omega
            have i1' : (i : Int) < (ls.length : Int) := by omega
            have hbz : bb < wr.heap.size := by omega
            clear hxl hft hot hfo
            rcases Bool.eq_false_or_eq_true (canD false x ⟨f, o, t⟩) with hd | hd
            · have hd' : canJ x ⟨f, o, t⟩ = true := hd
              have HY := Lib.hid (show rowC false (ls.take (i + 1)) x a = ai ++ [flip x ⟨f, o, t⟩] by rw [HRT.out, stepC_yes hd])
              generalize hQe : flip x ⟨f, o, t⟩ = Q at HY
              have HQE := Lib.hid hQe
              have HD := Lib.hid hd'
              clear hQe hd hd'
              go_wp2_with fail
              refine (is2' (jumpFrom_ x f o t x63 (by omega) (by omega) (by omega) HF.out HT.out _) (by rw [HD.out, if_pos rfl, HQE.out]) HD.out).mono ?_
              rintro e w3 ⟨rfl, hb3⟩
              have hn3 : Below wr.heap.size wr w3 := below_step ((Below.refl _ _).alloc (Nat.le_refl _) _) hb3 (by simp)
              have hs1 : Slab w3 W.heap.size none 3 1 (.slice (some ⟨g', 0, none⟩) ai.length c') ai.length (ints (natL ai)) := .inl (own_next HO1.out hn3)
              have hw3 := below_next hwx hn3
              have hw3s : W.heap.size ≤ w3.heap.size := hw3.size
              go_wp2_with (first | (at_builtin; refine wpList_append_slab _ rfl (.tmp 41) (.tmp 43) 30 rfl W.heap.size none 3 i0 (.int .i64 0) 1 8 Try.underlying30 hi hz0 hz1 hz2 rfl (by decide) _ _ _ rfl (hs1.alloc _) ⟨w3.heap.size, 0, none⟩ 1 1 [.int .i64 Q] rfl rfl (cell_one_new _ _ _) (by intro u hu; simp at hu; subst hu; rfl) (by omega) (by unfold maxLen; omega) (by omega) (by have := hw3s; simp; omega) ?_; intro g cap wA ownA hbA))
              have HOA := Lib.hid ownA
              have hwA : Below W.heap.size W wA := (hw3.alloc hw3s _).trans hbA
              clear hs1 ownA
              go_wp2
              go_roundw
              case rel => exact ⟨i + 1, g, cap, by omega, by go_num, by rw [HY.out]; simp, by rw [HY.out]; simpa [natL, ints] using HOA.out, hwA⟩
              case measure => simp [intOf]; omega
            · have hd' : canJ x ⟨f, o, t⟩ = false := hd
              have HY := Lib.hid (show rowC false (ls.take (i + 1)) x a = ai by rw [HRT.out, stepC_no hd])
              have HD := Lib.hid hd'
              clear hd hd'
              go_wp2_with fail
              refine (is2' (jumpFrom_ x f o t x63 (by omega) (by omega) (by omega) HF.out HT.out _) (by rw [HD.out, if_neg (by simp)]) HD.out).mono ?_
              rintro e w3 ⟨rfl, hb3⟩
              have hn3 : Below wr.heap.size wr w3 := below_step ((Below.refl _ _).alloc (Nat.le_refl _) _) hb3 (by simp)
              have HO3 := Lib.hid (own_next HO1.out hn3)
              have hw3 := below_next hwx hn3
              go_wp2
              go_roundw
              case rel => exact ⟨i + 1, g', c', by omega, by go_num, by rw [HY.out], by rw [HY.out]; exact HO3.out, hw3⟩
              case measure => simp [intOf]; omega
          · have e : i = ls.length := by omega
            subst e
            have ho2 := HO1.out
            rw [List.take_length] at ho2 hrl ⊢
            have HO2 := Lib.hid ho2
            generalize rowC false ls x a = an at HNX HO2 hrl ⊢
            clear ho2
            go_wp2
            go_roundw
            case rel => exact ⟨k + 1, g', c', by omega, by go_num, by rw [HNX.out], by rw [HNX.out]; exact HO2.out, hwx⟩
            case measure => simp [intOf]; omega
      · have e : k = ps.length := by omega
        subst e
        rw [List.take_length] at hown hal ⊢
        have HR := Lib.hid (nextL_is (back := false) HST.out HPS.out)
        have HLN : Hid ((srt (natL (colC false ls ps))).length = (colC false ls ps).length) := Lib.hid (by rw [srt_len, natL_length])
        generalize colC false ls ps = a at hown hal HR HLN ⊢
        have HO := Lib.hid hown
        clear hown
        go_wp2_with fail
        refine (sortN_ (natL a) a.length W.heap.size g0 c0 _ (natL_length a) HO.out hsz (by omega)).mono ?_
        rintro e w4 ⟨rfl, own4, hb4⟩
        have hw4 := hw.trans hb4
        have hsz4 := hw4.size
        have HO4 := Lib.hid own4
        clear own4
        go_wp2_with fail
        refine (compactN_ (srt (natL a)) (nextL false ls N ps) a.length W.heap.size g0 c0 _ HLN.out HR.out HO4.out hsz4 (by omega)).mono ?_
        rintro e w5 ⟨rfl, own5, hb5⟩
        go_wp2
        go_ret
        exact ⟨_, _, rfl, own5, hw4.trans hb5⟩
  | true =>
    go_enter Try.func105, Try.ntmps105
    go_wp2_with fail
    go_loopw [7, 17] (fun v iv wr => ∃ (k g c : Nat), k ≤ ps.length ∧ iv = .int .i64 k ∧ v = .slice (some ⟨g, 0, none⟩) (colC true ls (ps.take k)).length c ∧ wr.ownsRow W.heap.size 3 1 (.slice (some ⟨g, 0, none⟩) (colC true ls (ps.take k)).length c) (colC true ls (ps.take k)).length (ints (natL (colC true ls (ps.take k)))) ∧ Below W.heap.size W wr) (fun _ iv _ => ps.length - (intOf iv).toNat)
    case atStart => exact ⟨0, W.heap.size, 0, Nat.zero_le _, rfl, rfl, by simpa [colC, natL, ints] using World.ownsRow_lit (base := W.heap.size) (e := 3) (size := 1) W #[] 0 (Nat.le_refl _) (by simp [maxLen]) rfl, (Below.refl _ _).alloc (Nat.le_refl _) _⟩
    case round =>
      obtain ⟨k, g0, c0, hk, rfl, rfl, hown, hw⟩ := hrel
      have hsz := hw.size
      have hal : (colC true ls (ps.take k)).length ≤ 12845056 := Nat.le_trans (colC_len true ls (ps.take k)) (Nat.le_trans (Nat.mul_le_mul (show (ps.take k).length ≤ 65536 by rw [List.length_take]; omega) hm) (Nat.le_refl _))
      by_cases hlt : k < ps.length
      · have hx : ps[k]? = some ps[k] := List.getElem?_eq_getElem hlt
        have xl := HPS.out _ (List.getElem_mem hlt)
        generalize ps[k] = x at hx xl
        obtain ⟨pb, poff, rfl, hpb, px0⟩ := rd_nat (rdP.below hw) hx
        have HNX := Lib.hid (show colC true ls (ps.take (k + 1)) = rowC true ls x (colC true ls (ps.take k)) from fold_take hx)
        generalize colC true ls (ps.take k) = a at hown hal HNX ⊢
        have HO := Lib.hid hown
        have k0' : (0 : Int) ≤ (k : Int) := by omega
        have k1' : (k : Int) < (ps.length : Int) := by omega
        have x63 : B63 x := by unfold B63; omega
        have hpz : pb < wr.heap.size := by omega
        clear hx hown
        go_wp2_with fail
        go_loopw [7, 23] (fun v iv wx => ∃ (i g c : Nat), i ≤ ls.length ∧ iv = .int .i64 i ∧ v = .slice (some ⟨g, 0, none⟩) (rowC true (ls.take i) x a).length c ∧ wx.ownsRow W.heap.size 3 1 (.slice (some ⟨g, 0, none⟩) (rowC true (ls.take i) x a).length c) (rowC true (ls.take i) x a).length (ints (natL (rowC true (ls.take i) x a))) ∧ Below W.heap.size W wx) (fun _ iv _ => ls.length - (intOf iv).toNat)
        case atStart => exact ⟨0, g0, c0, Nat.zero_le _, rfl, rfl, HO.out, hw⟩
        case round =>
          obtain ⟨i, g', c', hi0, rfl, rfl, hown, hwx⟩ := hrel
          have hszx := hwx.size
          have hrl : (rowC true (ls.take i) x a).length ≤ 12845252 := Nat.le_trans (rowC_len true x (ls.take i) a) (by rw [List.length_take]; omega)
          have HO1 := Lib.hid hown
          clear hown
          by_cases hil : i < ls.length
          · obtain ⟨bb, off, l, rfl, hbl, hxl, x0, x1, x2⟩ := (rdL.below hwx).line hil
            obtain ⟨f, o, t, rfl, f1, o1, t1, hft, hot, hfo⟩ := HLS.out l (List.mem_of_getElem? hxl)
            have HRT := Lib.hid (show rowC true (ls.take (i + 1)) x a = stepC true x (rowC true (ls.take i) x a) ⟨f, o, t⟩ from fold_take hxl)
            generalize rowC true (ls.take i) x a = ai at HO1 hrl HRT ⊢
            have HF := Lib.hid hft
            have HT := Lib.hid hot
            have HFO := Lib.hid hfo
            have i0' : (0 : Int) ≤ (i : Int) := by omega
            have i1' : (i : Int) < (ls.length : Int) := by omega
            have hbz : bb < wr.heap.size := by omega
            clear hxl hft hot hfo
            rcases Bool.eq_false_or_eq_true (canD true x ⟨f, o, t⟩) with hd | hd
            · have hd' : canU x ⟨f, o, t⟩ = true := hd
              have HY := Lib.hid (show rowC true (ls.take (i + 1)) x a = ai ++ [flip x ⟨f, o, t⟩] by rw [HRT.out, stepC_yes hd])
              generalize hQe : flip x ⟨f, o, t⟩ = Q at HY
              have HQE := Lib.hid hQe
              have HD := Lib.hid hd'
              clear hQe hd hd'
              obtain ⟨y5, hy5⟩ : ∃ y : Int, ((if canJ x ⟨f, o, t⟩ then flip x ⟨f, o, t⟩ else x : Nat) : Int) = y := ⟨_, rfl⟩
              obtain ⟨b5, hz5⟩ : ∃ y : Bool, canJ x ⟨f, o, t⟩ = y := ⟨_, rfl⟩
              have HY5 := Lib.hid hy5
              have HZ5 := Lib.hid hz5
              clear hy5 hz5
              go_wp2_with fail
              refine (is2' (jumpFrom_ x f o t x63 (by omega) (by omega) (by omega) HF.out HT.out _) HY5.out HZ5.out).mono ?_
              rintro e w5 ⟨rfl, hb5⟩
              have hn5 : Below wr.heap.size wr w5 := below_step ((Below.refl _ _).alloc (Nat.le_refl _) _) hb5 (by simp)
              have l0 : w5.cell? ⟨wr.heap.size, 0, none⟩ = some (.int .i64 f) := by rw [hb5.cell (p := ⟨wr.heap.size, 0, none⟩) (by simp)]; simp [go_sem]
              have l1 : w5.cell? ⟨wr.heap.size, 1, none⟩ = some (.int .i64 o) := by rw [hb5.cell (p := ⟨wr.heap.size, 1, none⟩) (by simp)]; simp [go_sem]
              have l2 : w5.cell? ⟨wr.heap.size, 2, none⟩ = some (.int .i64 t) := by rw [hb5.cell (p := ⟨wr.heap.size, 2, none⟩) (by simp)]; simp [go_sem]
              have zl5 : wr.heap.size < w5.heap.size := by have := hb5.size; simp at this; omega
              go_wp2_with fail
              refine (is2' (undoFrom_ x f o t x63 (by omega) (by omega) (by omega) HF.out HT.out HFO.out _) (by rw [HD.out, if_pos rfl, HQE.out]) HD.out).mono ?_
              rintro e w3 ⟨rfl, hb3⟩
              have hn3 : Below wr.heap.size wr w3 := below_next hn5 hb3
              clear l0 l1 l2
              have hs1 : Slab w3 W.heap.size none 3 1 (.slice (some ⟨g', 0, none⟩) ai.length c') ai.length (ints (natL ai)) := .inl (own_next HO1.out hn3)
              have hw3 := below_next hwx hn3
              have hw3s : W.heap.size ≤ w3.heap.size := hw3.size
              go_wp2_with (first | (at_builtin; refine wpList_append_slab _ rfl (.tmp 41) (.tmp 43) 30 rfl W.heap.size none 3 i0 (.int .i64 0) 1 8 Try.underlying30 hi hz0 hz1 hz2 rfl (by decide) _ _ _ rfl (hs1.alloc _) ⟨w3.heap.size, 0, none⟩ 1 1 [.int .i64 Q] rfl rfl (cell_one_new _ _ _) (by intro u hu; simp at hu; subst hu; rfl) (by omega) (by unfold maxLen; omega) (by omega) (by have := hw3s; simp; omega) ?_; intro g cap wA ownA hbA))
              have HOA := Lib.hid ownA
              have hwA : Below W.heap.size W wA := (hw3.alloc hw3s _).trans hbA
              clear hs1 ownA
              go_wp2
              go_roundw
              case rel => exact ⟨i + 1, g, cap, by omega, by go_num, by rw [HY.out]; simp, by rw [HY.out]; simpa [natL, ints] using HOA.out, hwA⟩
              case measure => simp [intOf]; omega
            · have hd' : canU x ⟨f, o, t⟩ = false := hd
              have HY := Lib.hid (show rowC true (ls.take (i + 1)) x a = ai by rw [HRT.out, stepC_no hd])
              have HD := Lib.hid hd'
              clear hd hd'
              obtain ⟨y5, hy5⟩ : ∃ y : Int, ((if canJ x ⟨f, o, t⟩ then flip x ⟨f, o, t⟩ else x : Nat) : Int) = y := ⟨_, rfl⟩
              obtain ⟨b5, hz5⟩ : ∃ y : Bool, canJ x ⟨f, o, t⟩ = y := ⟨_, rfl⟩
              have HY5 := Lib.hid hy5
              have HZ5 := Lib.hid hz5
              clear hy5 hz5
              go_wp2_with fail
              refine (is2' (jumpFrom_ x f o t x63 (by omega) (by omega) (by omega) HF.out HT.out _) HY5.out HZ5.out).mono ?_
              rintro e w5 ⟨rfl, hb5⟩
              have hn5 : Below wr.heap.size wr w5 := below_step ((Below.refl _ _).alloc (Nat.le_refl _) _) hb5 (by simp)
              have l0 : w5.cell? ⟨wr.heap.size, 0, none⟩ = some (.int .i64 f) := by rw [hb5.cell (p := ⟨wr.heap.size, 0, none⟩) (by simp)]; simp [go_sem]
              have l1 : w5.cell? ⟨wr.heap.size, 1, none⟩ = some (.int .i64 o) := by rw [hb5.cell (p := ⟨wr.heap.size, 1, none⟩) (by simp)]; simp [go_sem]
              have l2 : w5.cell? ⟨wr.heap.size, 2, none⟩ = some (.int .i64 t) := by rw [hb5.cell (p := ⟨wr.heap.size, 2, none⟩) (by simp)]; simp [go_sem]
              have zl5 : wr.heap.size < w5.heap.size := by have := hb5.size; simp at this; omega
              go_wp2_with fail
              refine (is2' (undoFrom_ x f o t x63 (by omega) (by omega) (by omega) HF.out HT.out HFO.out _) (by rw [HD.out, if_neg (by simp)]) HD.out).mono ?_
              rintro e w3 ⟨rfl, hb3⟩
              have hn3 : Below wr.heap.size wr w3 := below_next hn5 hb3
              clear l0 l1 l2
              have HO3 := Lib.hid (own_next HO1.out hn3)
              have hw3 := below_next hwx hn3
              go_wp2
              go_roundw
              case rel => exact ⟨i + 1, g', c', by omega, by go_num, by rw [HY.out], by rw [HY.out]; exact HO3.out, hw3⟩
              case measure => simp [intOf]; omega
          · have e : i = ls.length := by omega
            subst e
            have ho2 := HO1.out
            rw [List.take_length] at ho2 hrl ⊢
            have HO2 := Lib.hid ho2
            generalize rowC true ls x a = an at HNX HO2 hrl ⊢
            clear ho2
            go_wp2
            go_roundw
            case rel => exact ⟨k + 1, g', c', by omega, by go_num, by rw [HNX.out], by rw [HNX.out]; exact HO2.out, hwx⟩
            case measure => simp [intOf]; omega
      · have e : k = ps.length := by omega
        subst e
        rw [List.take_length] at hown hal ⊢
        have HR := Lib.hid (nextL_is (back := true) HST.out HPS.out)
        have HLN : Hid ((srt (natL (colC true ls ps))).length = (colC true ls ps).length) := Lib.hid (by rw [srt_len, natL_length])
        generalize colC true ls ps = a at hown hal HR HLN ⊢
        have HO := Lib.hid hown
        clear hown
        go_wp2_with fail
        refine (sortN_ (natL a) a.length W.heap.size g0 c0 _ (natL_length a) HO.out hsz (by omega)).mono ?_
        rintro e w4 ⟨rfl, own4, hb4⟩
        have hw4 := hw.trans hb4
        have hsz4 := hw4.size
        have HO4 := Lib.hid own4
        clear own4
        go_wp2_with fail
        refine (compactN_ (srt (natL a)) (nextL true ls N ps) a.length W.heap.size g0 c0 _ HLN.out HR.out HO4.out hsz4 (by omega)).mono ?_
        rintro e w5 ⟨rfl, own5, hb5⟩
        go_wp2
        go_ret
        exact ⟨_, _, rfl, own5, hw4.trans hb5⟩
end Go.Proofs.Ytbljoknlphaimaa

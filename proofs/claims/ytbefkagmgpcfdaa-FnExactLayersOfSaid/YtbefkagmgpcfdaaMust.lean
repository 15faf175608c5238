/- The contracts of disturbsOne, l23Before and MustPrecede. -/
import Derived.Test.YtbefkagmgpcfdaaChecked
import Derived.Test.YtbefkagmgpcfdaaMem
import Derived.Tactics
import Derived.Tactics2
import Derived.WalkKit
import Derived.WalkSpells
import Derived.WalkLawsBesides
import Derived.Deep.QuietTactic
import Derived.BigQuiet
import Derived.BigGuardPart
import Derived.Lib.QuietBelow
import Derived.OwnWalk
import Derived.KernelRfl
import Derived.Test.YtbefkagmgpcfdaaOrdB
import Derived.Test.YtbefkagmgpcfdaaMustP
import Derived.Test.YtbefkagmgpcfdaaTail
set_option linter.unusedVariables false
namespace Go.Proofs.Ytbefkagmgpcfdaa
open Go.RowKit Go.Sort

theorem disturbsOne_ (l : Ln) (xs : List Ln) (A : Option Addr) (n c : Nat) (w : World) (hn : xs.length = n) (hr : Rd w w.heap.size A (flat xs)) (hm : n ≤ 9223372036854775807) :
    Calls Try.prog 51 #[.agg #[.int .i64 l.f, .int .i64 l.o, .int .i64 l.t], .slice A n c] w fun e w' => e = .returned (.bool (anyD l xs)) ∧ Below w.heap.size w w' := by
  subst hn
  go_enter Try.func51, Try.ntmps51
  go_wp2
  go_loopw [9] (fun i wr => ∃ k : Nat, k ≤ xs.length ∧ i = .int .i64 k ∧ anyD l (xs.take k) = false ∧ wr.cell? ⟨w.heap.size, 0, none⟩ = some (.int .i64 l.f) ∧ wr.cell? ⟨w.heap.size, 1, none⟩ = some (.int .i64 l.o) ∧ wr.cell? ⟨w.heap.size, 2, none⟩ = some (.int .i64 l.t) ∧
      w.heap.size < wr.heap.size ∧ Below w.heap.size w wr) (fun i _ => xs.length - (intOf i).toNat)
  case atStart => exact ⟨0, Nat.zero_le _, rfl, rfl, by simp [go_sem], by simp [go_sem], by simp [go_sem], by simp, (Below.refl _ _).alloc (Nat.le_refl _) _⟩
  case round =>
    obtain ⟨k, hk, rfl, hfalse, c0, c1, c2, hz, hb⟩ := hrel
    by_cases hlt : k < xs.length
    · obtain ⟨b, off, x, rfl, hbl, hx, h0, h1, h2⟩ := (hr.below hb).line hlt
      have H := Lib.hid hx
      have HF := Lib.hid hfalse
      have hbz : b < wr.heap.size := by omega
      clear hr hx hfalse
      rcases Bool.eq_false_or_eq_true (disturbB l x) with hd | hd
      · go_wp2_with fail
        refine (is_ (iDoDisturb_ l x _) hd).mono ?_
        rintro e w2 ⟨rfl, hb2⟩
        have hw2 : Below w.heap.size w w2 := below_step (hb.alloc hb.size _) hb2 (by simp; omega)
        go_wp2
        go_ret
        exact ⟨ret_bool (anyD_yes H.out hd).symm, hw2⟩
      · go_wp2_with fail
        refine (is_ (iDoDisturb_ l x _) hd).mono ?_
        rintro e w2 ⟨rfl, hb2⟩
        have hw2 : Below w.heap.size w w2 := below_step (hb.alloc hb.size _) hb2 (by simp; omega)
        have hz2 : wr.heap.size < w2.heap.size := by have := hb2.size; simp at this; omega
        have d0 : w2.cell? ⟨w.heap.size, 0, none⟩ = some (.int .i64 l.f) := by rw [hb2.cell (p := ⟨w.heap.size, 0, none⟩) (by show w.heap.size < _; simp; omega), World.cell?_alloc_lt _ _ _ (by show w.heap.size < _; omega)]; exact c0
        have d1 : w2.cell? ⟨w.heap.size, 1, none⟩ = some (.int .i64 l.o) := by rw [hb2.cell (p := ⟨w.heap.size, 1, none⟩) (by show w.heap.size < _; simp; omega), World.cell?_alloc_lt _ _ _ (by show w.heap.size < _; omega)]; exact c1
        have d2 : w2.cell? ⟨w.heap.size, 2, none⟩ = some (.int .i64 l.t) := by rw [hb2.cell (p := ⟨w.heap.size, 2, none⟩) (by show w.heap.size < _; simp; omega), World.cell?_alloc_lt _ _ _ (by show w.heap.size < _; omega)]; exact c2
        go_wp2
        go_roundw
        case rel => exact ⟨k + 1, by omega, by go_num, anyD_next H.out HF.out hd, d0, d1, d2, by omega, hw2⟩
        case measure => simp [intOf]; omega
    · go_wp2
      go_ret
      have e : k = xs.length := by omega
      subst e
      rw [List.take_length] at hfalse
      exact ⟨ret_bool hfalse.symm, hb⟩
set_option maxHeartbeats 4000000 in
theorem l23Before_ (ls : List Ln) (A : Option Addr) (c i : Nat) (w : World) (hr : Rd w w.heap.size A (flat ls)) (hn : ls.length ≤ 1048576) (hi : i < ls.length) :
    Calls Try.prog 56 #[.slice A ls.length c, .int .i64 i] w (GivesSlice w 4 1 ls.length (bools (mpL ls i ls.length))) := by
  have infoBool : (Try.prog.info? 4).map (fun i => (i.zero, i.size, i.bytes)) = some (some (.bool false), 1, 1) := by kernel_rfl
  obtain ⟨i0, hi0, hz0, hz1, hz2⟩ := info_parts infoBool
  have hin : (i : Int) < (ls.length : Int) := by omega
  have hi1 : (0 : Int) ≤ (i : Int) := by omega
  have hq : i < ls.length := hi
  clear infoBool
  go_enter Try.func56, Try.ntmps56
  go_wp2_with (first | (at_make; refine wpList_make_full _ rfl (.tmp 9) (.tmp 9) 60 rfl w.heap.size 4 i0 _ 1 Try.underlying60 hi0 hz0 hz1 .i64 .i64 _ _ ls.length rfl rfl rfl rfl (by rw [hz2]; omega) (by unfold maxLen; omega) (Nat.le_refl _) ?_; intro w1 hown hg; have hb1 : Below w.heap.size w w1 := (Below.refl _ _).grown hg (Nat.le_refl _) (by simp); rw [made_bools] at hown; obtain ⟨z, _, u0, v0⟩ := own_atB hown hq))
  have hown1 := own_setB hown i true
  have hst : (List.replicate ls.length false).set i true = mpL ls i (i + 1) ++ List.replicate (ls.length - (i + 1)) false := by
    rw [mpL_start]
    have e : List.replicate ls.length false = List.replicate i false ++ [false] ++ List.replicate (ls.length - (i + 1)) false := by
      rw [← List.replicate_succ', List.replicate_append_replicate]
      congr 1
      omega
    rw [e, set_mid _ _ _ _ (by simp)]
  rw [hst] at hown1
  have hw1 : Below w.heap.size w (w1.setCell ⟨w.heap.size, i, none⟩ (.bool true)) := hb1.setCell (by simp) _
  clear hst hown hg hb1 u0 v0
  go_loopw [6, 7] (fun kk mm wr => ∃ k : Nat, i + 1 ≤ k ∧ k ≤ ls.length ∧ kk = .int .i64 k ∧ wr.ownsRow w.heap.size 4 1 (.slice (some ⟨w.heap.size, 0, none⟩) ls.length ls.length) ls.length (bools (mpL ls i k ++ List.replicate (ls.length - k) false)) ∧ Below w.heap.size w wr) (fun kk _ _ => ls.length - (intOf kk).toNat)
  case atStart => exact ⟨i + 1, by omega, by omega, by go_num, hown1, hw1⟩
  case round =>
    obtain ⟨k, hki, hk, rfl, hown2, hb⟩ := hrel
    clear hown1 hw1
    obtain ⟨wo, hwo⟩ : ∃ wo : World, wo = wr := ⟨_, rfl⟩
    by_cases hkn : k < ls.length
    · have hik : i < k := by omega
      have hown3 := hown2
      rw [mid_start ls i k ls.length hik hkn] at hown3
      clear hown2 hwo
      go_wp2
      go_loopw [7] (fun mm wi => ∃ m : Nat, i ≤ m ∧ m ≤ k ∧ mm = .int .i64 m ∧ wi.ownsRow w.heap.size 4 1 (.slice (some ⟨w.heap.size, 0, none⟩) ls.length ls.length) ls.length (bools (mpL ls i k ++ [accB (mpL ls i k) ls i k m] ++ List.replicate (ls.length - (k + 1)) false)) ∧ Below w.heap.size w wi) (fun mm _ => k - (intOf mm).toNat)
      case atStart => exact ⟨i, by omega, by omega, rfl, hown3, hb⟩
      case round =>
        obtain ⟨m, him, hm, rfl, hownm, hbi⟩ := hrel
        clear hown3
        by_cases hmk : m < k
        · obtain ⟨b, off, x, rfl, hbl, hx, h0, h1, h2⟩ := (hr.below hbi).line (show m < ls.length by omega)
          obtain ⟨b', off', y, hA, hbl', hy, h0', h1', h2'⟩ := (hr.below hbi).line hkn
          injection hA with hA
          injection hA with e1 e2
          subst e1 e2
          obtain ⟨bk, hbk, ck, fk⟩ := own_atB hownm hkn
          obtain ⟨bm, hbm, cm, fm⟩ := own_atB hownm (show m < ls.length by omega)
          have ebk : bk = accB (mpL ls i k) ls i k m := by
            rw [List.append_assoc, List.getElem?_append_right (by rw [mpL_length]; exact Nat.le_refl _), mpL_length, Nat.sub_self] at hbk
            simp at hbk
            exact hbk.symm
          have ebm : (mpL ls i k)[m]? = some bm := by
            rw [List.append_assoc, List.getElem?_append_left (by rw [mpL_length]; omega)] at hbm
            exact hbm
          have HA := Lib.hid ((accB_next (i := i) (k := k) him ebm hx hy).trans (by rw [← ebk]))
          have HO := Lib.hid hownm
          have HR := Lib.hid hr
          have hbz : b < wr.heap.size := by have := hbi.size; omega
          have hwz : w.heap.size < wr.heap.size := ((hownm.lt w.heap.size rfl).2)
          have k0 : (0 : Int) ≤ (k : Int) := by omega
          have k1 : (k : Int) < (ls.length : Int) := by omega
          have m0 : (0 : Int) ≤ (m : Int) := by omega
          have m1 : (m : Int) < (ls.length : Int) := by omega
          have hc : ∀ (a : Addr) (p : Regrown) (W : World), a.block < W.heap.size → (grow (redrawn W p.d) p.os).cell? a = W.cell? a := fun a p W h => (below_regrown W p.d p.os).cell h
          clear hbk hbm hr hownm hx hy ebm ebk
          cases bk
          · cases bm
            · simp only [Bool.false_or, Bool.false_and] at HA
              go_wp2_with fail
              refine region_tail 24 (by kernel_rfl) (by kernel_rfl) ?_
              simp only [List.take_succ_cons, List.take_zero, List.drop_succ_cons, List.drop_zero]
              repeat (go_big_quiet_step (fail))
              refine wpQuiet_nil ?_
              intro w3 hw3
              obtain ⟨p3, hp3⟩ := hw3
              have hb3 := of_rg hp3
              clear hp3 p3
              have hown3 := own_next HO.out hb3
              have hw4 := below_next hbi hb3
              obtain ⟨z3, _, u3, v3⟩ := own_atB hown3 hkn
              have HQ := Lib.hid (own_setB hown3 k false)
              clear hown3
              go_wp2
              go_roundw
              case rel => exact ⟨m + 1, by omega, by omega, by go_num, by have := HQ.out; rw [set_mid _ _ _ _ (mpL_length ls i k)] at this; rw [HA.out]; exact this, hw4.setCell (by simp) _⟩
              case measure => simp [intOf]; omega
            · simp only [Bool.false_or, Bool.true_and] at HA
              go_wp2_with fail
              refine region_tail 24 (by kernel_rfl) (by kernel_rfl) ?_
              simp only [List.take_succ_cons, List.take_zero, List.drop_succ_cons, List.drop_zero]
              repeat (go_big_quiet_step (first | (go_at_call 20; exact Calls.regrown_of (sDoDisturb_ x y _))))
              refine wpQuiet_nil ?_
              intro w3 hw3
              obtain ⟨p3, hp3⟩ := hw3
              have hb3 := of_rg hp3
              clear hp3 p3
              have hown3 := own_next HO.out hb3
              have hw4 := below_next hbi hb3
              obtain ⟨z3, _, u3, v3⟩ := own_atB hown3 hkn
              have HQ := Lib.hid (own_setB hown3 k (disturbB x y))
              clear hown3
              go_wp2
              go_roundw
              case rel => exact ⟨m + 1, by omega, by omega, by go_num, by have := HQ.out; rw [set_mid _ _ _ _ (mpL_length ls i k)] at this; rw [HA.out]; exact this, hw4.setCell (by simp) _⟩
              case measure => simp [intOf]; omega
          · simp only [Bool.true_or] at HA
            go_wp2_with fail
            refine region_tail 24 (by kernel_rfl) (by kernel_rfl) ?_
            simp only [List.take_succ_cons, List.take_zero, List.drop_succ_cons, List.drop_zero]
            repeat (go_big_quiet_step (fail))
            refine wpQuiet_nil ?_
            intro w3 hw3
            obtain ⟨p3, hp3⟩ := hw3
            have hb3 := of_rg hp3
            clear hp3 p3
            have hown3 := own_next HO.out hb3
            have hw4 := below_next hbi hb3
            obtain ⟨z3, _, u3, v3⟩ := own_atB hown3 hkn
            have HQ := Lib.hid (own_setB hown3 k true)
            clear hown3
            go_wp2
            go_roundw
            case rel => exact ⟨m + 1, by omega, by omega, by go_num, by have := HQ.out; rw [set_mid _ _ _ _ (mpL_length ls i k)] at this; rw [HA.out]; exact this, hw4.setCell (by simp) _⟩
            case measure => simp [intOf]; omega
        · have e : m = k := by omega
          subst e
          go_wp2
          go_roundw
          case rel => exact ⟨m + 1, by omega, by omega, by go_num, by rw [← mid_end ls i m ls.length hik]; exact hownm, hbi⟩
          case measure => simp [intOf]; omega
    · have e : k = ls.length := by omega
      subst e
      go_wp2
      go_ret
      exact ⟨_, _, rfl, by simpa using hown2, hb⟩
theorem sMustPrecede_ (ls : List Ln) (A : Option Addr) (c : Nat) (i k : Int) (hi : I64 i) (hk : I64 k) (w : World) (hr : Rd w w.heap.size A (flat ls)) (hn : ls.length ≤ 1048576) :
    Calls Try.prog 30 #[.slice A ls.length c, .int .i64 i, .int .i64 k] w fun e w' => e = .returned (.bool (mustB ls i k)) ∧ Below w.heap.size w w' := by
  obtain ⟨ia, ib⟩ := hi
  obtain ⟨ka, kb⟩ := hk
  rcases Bool.eq_false_or_eq_true (inB i 0 ((ls.length : Int) - 1)) with h1 | h1
  · have h1' := inB_iff.1 h1
    have h1a := h1'.1
    have h1b := h1'.2
    rcases Bool.eq_false_or_eq_true (inB k (i + 1) ((ls.length : Int) - 1)) with h2 | h2
    · have h2' := inB_iff.1 h2
      obtain ⟨i, rfl⟩ := Int.eq_ofNat_of_zero_le h1'.1
      obtain ⟨k, rfl⟩ := Int.eq_ofNat_of_zero_le (show 0 ≤ k by omega)
      have hik : i < k := by omega
      have hkn : k < ls.length := by omega
      have HB := Lib.hid (mustB_yes hik hkn)
      have HG := Lib.hid (mpL_get (ls := ls) hik hkn)
      have k0 : (0 : Int) ≤ (k : Int) := by omega
      have k1 : (k : Int) < (ls.length : Int) := by omega
      have k2 : (i : Int) + 1 ≤ (k : Int) := by omega
      clear h1' h2'
      go_enter Try.func30, Try.ntmps30
      go_wp2_with fail
      refine (is_ (l01In_ _ _ _ _) h1).mono ?_
      rintro e w' ⟨rfl, rfl⟩
      go_wp2_with fail
      refine (is_ (l01In_ _ _ _ _) h2).mono ?_
      rintro e w' ⟨rfl, rfl⟩
      go_wp2_with fail
      refine (l23Before_ ls A c i w hr hn (by omega)).mono ?_
      rintro e w1 ⟨A1, c1, rfl, own1, hb1⟩
      obtain ⟨g, cap, hv, _⟩ := own1.form (by omega)
      injection hv with hv1 hv2 hv3
      subst hv1 hv3
      obtain ⟨z, hz, u0, v0⟩ := own_atB own1 hkn
      have e := HG.out
      rw [hz] at e
      injection e with e
      subst e
      go_wp2
      go_ret
      exact ⟨ret_bool HB.out.symm, hb1⟩
    · have HB := Lib.hid (mustB_no (ls := ls) (i := i) (k := k) (fun h => by rw [Bool.eq_false_iff] at h2; exact h2 (inB_iff.2 (by omega))))
      go_enter Try.func30, Try.ntmps30
      go_wp2_with fail
      refine (is_ (l01In_ _ _ _ _) h1).mono ?_
      rintro e w' ⟨rfl, rfl⟩
      go_wp2_with fail
      refine (is_ (l01In_ _ _ _ _) h2).mono ?_
      rintro e w' ⟨rfl, rfl⟩
      go_wp2
      go_ret
      exact ⟨ret_bool HB.out.symm, Below.refl _ _⟩
  · have HB := Lib.hid (mustB_no (ls := ls) (i := i) (k := k) (fun h => by rw [Bool.eq_false_iff] at h1; exact h1 (inB_iff.2 (by omega))))
    go_enter Try.func30, Try.ntmps30
    go_wp2_with fail
    refine (is_ (l01In_ _ _ _ _) h1).mono ?_
    rintro e w' ⟨rfl, rfl⟩
    go_wp2
    go_ret
    exact ⟨ret_bool HB.out.symm, Below.refl _ _⟩
set_option maxHeartbeats 1000000 in
theorem iMustPrecede_ (ls : List Ln) (A : Option Addr) (c : Nat) (i k : Int) (hi : I64 i) (hk : I64 k) (w : World) (hr : Rd w w.heap.size A (flat ls)) (hn : ls.length ≤ 1048576) :
    Calls Try.prog 31 #[.slice A ls.length c, .int .i64 i, .int .i64 k] w fun e w' => e = .returned (.bool (mustB ls i k)) ∧ Below w.heap.size w w' := by
  obtain ⟨ia, ib⟩ := hi
  obtain ⟨ka, kb⟩ := hk
  by_cases h1 : i < 0
  · have HB := Lib.hid (mustB_no (ls := ls) (i := i) (k := k) (by omega))
    go_enter Try.func31, Try.ntmps31
    go_wp2
    go_ret
    exact ⟨ret_bool HB.out.symm, Below.refl _ _⟩
  · by_cases h2 : k ≤ i
    · have HB := Lib.hid (mustB_no (ls := ls) (i := i) (k := k) (by omega))
      go_enter Try.func31, Try.ntmps31
      go_wp2
      go_ret
      exact ⟨ret_bool HB.out.symm, Below.refl _ _⟩
    · by_cases h3 : (ls.length : Int) ≤ k
      · have HB := Lib.hid (mustB_no (ls := ls) (i := i) (k := k) (by omega))
        go_enter Try.func31, Try.ntmps31
        go_wp2
        go_ret
        exact ⟨ret_bool HB.out.symm, Below.refl _ _⟩
      · obtain ⟨i, rfl⟩ := Int.eq_ofNat_of_zero_le (show 0 ≤ i by omega)
        obtain ⟨k, rfl⟩ := Int.eq_ofNat_of_zero_le (show 0 ≤ k by omega)
        have hik : i < k := by omega
        have hkn : k < ls.length := by omega
        have HB := Lib.hid (mustB_yes hik hkn)
        obtain ⟨i0, hi0, hz0, hz1, hz2⟩ := info_parts infoLine
        obtain ⟨b, off, x, rfl, hbl, hx, x0, x1, x2⟩ := hr.line (show i < ls.length by omega)
        have HS := Lib.hid (after_start hx)
        have g1 : ¬ (i : Int) < 0 := by omega
        have g2 : (i : Int) < (k : Int) := by omega
        have g3 : (k : Int) < (ls.length : Int) := by omega
        have g4 : (0 : Int) ≤ (i : Int) := by omega
        clear h1 h2 h3 hx
        go_enter Try.func31, Try.ntmps31
        go_wp2
        go_loopw [7, 8] (fun v jj wr => ∃ (j : Nat) (V : Option Addr) (cv : Nat), i < j ∧ j ≤ k + 1 ∧ jj = .int .i64 j ∧ v = .slice V (afterL ls i j).length cv ∧ wr.ownsRow w.heap.size 34 3 (.slice V (afterL ls i j).length cv) (afterL ls i j).length (flat (afterL ls i j)) ∧
            (k < j → accB (mpL ls i k) ls i k k = false) ∧ Below w.heap.size w wr) (fun _ jj _ => k + 1 - (intOf jj).toNat)
        case atStart => exact ⟨i + 1, some ⟨w.heap.size, 0, none⟩, 1, by omega, by omega, by go_num, by rw [HS.out]; rfl, by rw [HS.out]; exact World.ownsRow_lit w #[.int .i64 x.f, .int .i64 x.o, .int .i64 x.t] 1 (Nat.le_refl _) (by simp [maxLen]) rfl, fun h => by omega, (Below.refl _ _).alloc (Nat.le_refl _) _⟩
        case round =>
          obtain ⟨j, V, cv, hij, hj, rfl, rfl, hown, hno, hb⟩ := hrel
          have hle := after_le ls i j
          have HN := Lib.hid hno
          clear hno x0 x1 x2
          by_cases hjk : j ≤ k
          · obtain ⟨b', off', y, hA, hbl', hy, y0, y1, y2⟩ := (hr.below hb).line (show j < ls.length by omega)
            injection hA with hA
            injection hA with e1 e2
            subst e1 e2
            have hz := Lib.hid (show anyD y (afterL ls i j) = accB (mpL ls i j) ls i j j by
              have := after_any (ls := ls) (i := i) (k := j) j (Nat.le_refl _)
              rw [List.getD_eq_getElem?_getD, hy] at this
              exact this)
            have HY := Lib.hid hy
            have HR := Lib.hid hr
            have hbz : b < wr.heap.size := by have := hb.size; omega
            have j0 : (0 : Int) ≤ (j : Int) := by omega
            have j1 : (j : Int) < (ls.length : Int) := by omega
            clear hy hr
            rcases Bool.eq_false_or_eq_true (accB (mpL ls i j) ls i j j) with ht | ht
            · by_cases hje : j = k
              · subst hje
                go_wp2_with fail
                refine (is_ (disturbsOne_ y (afterL ls i j) V _ cv _ rfl (rd_of_own hown) (by omega)) (hz.out.trans ht)).mono ?_
                rintro e w2 ⟨rfl, hb2⟩
                have hw2 := below_next hb hb2
                go_wp2
                go_ret
                exact ⟨ret_bool (HB.out.trans ht).symm, hw2⟩
              · have hje' : ((j : Int) == (k : Int)) = false := by simp; omega
                have HM := Lib.hid (after_more hij HY.out ht)
                go_wp2_with fail
                refine (is_ (disturbsOne_ y (afterL ls i j) V _ cv _ rfl (rd_of_own hown) (by omega)) (hz.out.trans ht)).mono ?_
                rintro e w2 ⟨rfl, hb2⟩
                have hw2 := below_next hb hb2
                have hown2 := own_next hown hb2
                have q0 := (hb2.cell (p := ⟨b, off + j * 3, none⟩) hbz).trans y0
                have q1 := (hb2.cell (p := ⟨b, off + j * 3 + 1, none⟩) hbz).trans y1
                have q2 := (hb2.cell (p := ⟨b, off + j * 3 + 2, none⟩) hbz).trans y2
                clear hown y0 y1 y2
                go_wp2_with (first
                  | (at_builtin; refine wpList_append_own _ rfl (.tmp 43) (.tmp 48) 24 rfl w.heap.size 34 i0 _ 3 24 Try.underlying24 hi0 hz0 hz1 hz2 rfl (by decide) _ _ _ rfl (hown2.alloc _) ⟨w2.heap.size, 0, none⟩ 1 1 [.int .i64 y.f, .int .i64 y.o, .int .i64 y.t] rfl rfl (World.news_of_block (cs := #[.int .i64 y.f, .int .i64 y.o, .int .i64 y.t]) (t := 34) (fr := (0, 0)) (heap_alloc_new w2 _)) (by intro u hu; simp at hu; rcases hu with rfl | rfl | rfl <;> rfl) (by unfold maxLen; omega) (by omega) (by have := hw2.size; simp; omega) ?_; intro v' w3 hown3 hgrow hnil))
                have hw3 : Below w.heap.size w w3 := ((hw2.alloc hw2.size _).grown hgrow (by have := hw2.size; simp; omega) (fun g hg => (hown2.lt g hg).1))
                obtain ⟨A', c', hv⟩ := own_value hown3
                subst hv
                clear hown2 hgrow hnil
                have hlen : (afterL ls i (j + 1)).length = (afterL ls i j).length + 1 := by rw [HM.out]; simp
                go_roundw
                case rel => exact ⟨j + 1, A', c', by omega, by omega, by go_num, by rw [hlen], by rw [hlen, HM.out, flat_append]; exact hown3, fun h => by omega, hw3⟩
                case measure => simp [intOf]; omega
            · have HM := Lib.hid (after_same hij ht)
              go_wp2_with fail
              refine (is_ (disturbsOne_ y (afterL ls i j) V _ cv _ rfl (rd_of_own hown) (by omega)) (hz.out.trans ht)).mono ?_
              rintro e w2 ⟨rfl, hb2⟩
              have hw2 := below_next hb hb2
              have hown2 := own_next hown hb2
              have hfin : k < j + 1 → accB (mpL ls i k) ls i k k = false := by
                intro h
                obtain rfl : j = k := by omega
                exact ht
              have HF := Lib.hid hfin
              clear hown hfin
              go_wp2
              go_roundw
              case rel => exact ⟨j + 1, V, cv, by omega, by omega, by go_num, by rw [HM.out], by rw [HM.out]; exact hown2, HF.out, hw2⟩
              case measure => simp [intOf]; omega
          · go_wp2
            go_ret
            exact ⟨ret_bool (HB.out.trans (HN.out (by omega))).symm, hb⟩
end Go.Proofs.Ytbefkagmgpcfdaa

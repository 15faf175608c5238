/- The contract of the reference's CountPegs. The contracts of the functions on what is reached: lists of marks. -/
import Derived.Test.YtbcgokpamhgabaaChecked
import Derived.Test.YtbcgokpamhgabaaKb01
import Derived.Tactics
import Derived.Tactics2
import Derived.WalkKit
import Derived.WalkSpells
import Derived.WalkLawsBesides
import Derived.Deep.QuietTactic
import Derived.BigQuiet
import Derived.BigGuardPart
import Derived.Lib.QuietBelow
import Derived.OwnWalk
import Derived.KernelRfl
import Derived.Test.YtbcgokpamhgabaaKb09
import Derived.Test.YtbcgokpamhgabaaKb18
import Derived.Test.YtbcgokpamhgabaaKb14
import Derived.Test.YtbcgokpamhgabaaKb32
namespace Go.Proofs.Ytbcgokpamhgabaa
set_option linter.unusedVariables false
set_option maxRecDepth 20000
open Go.RowKit Go.Sort

def pegsB (b : Ln) (p : Int) : Int := if posB b p then (popc p.toNat : Nat) else -1
theorem sCountPegs_ (b : Ln) (p : Int) (hp : I64 p) (W : World) :
    Calls Try.prog 34 #[.agg #[.int .i64 b.f, .int .i64 b.o, .int .i64 b.t], .int .i64 p] W fun e w' => e = .returned (.int .i64 (pegsB b p)) ∧ Below W.heap.size W w' := by
  rcases Bool.eq_false_or_eq_true (posB b p) with hP | hP
  · obtain ⟨w, h, s, rfl, hb⟩ := boardB_nat (posB_board hP)
    obtain ⟨q, rfl, hq⟩ := posB_nat hP
    have q63 : B63 q := by unfold I64 at hp; unfold B63; omega
    have H : Hid (pegsB ⟨w, h, s⟩ q = ((popc q : Nat) : Int)) := Lib.hid (by rw [pegsB, if_pos hP, Int.toNat_natCast])
    have H2 : Hid ((bitsOf q 49).length = popc q) := Lib.hid rfl
    go_enter Try.func34, Try.ntmps34
    go_wp2_with (first | (go_at_call 107; refine (is_ (sPositionOk_ _ _ hp _) hP).mono ?_; rintro e w1 ⟨rfl, hb1⟩; obtain ⟨hc, hf⟩ := bcell hb1; have hz0 : W.heap.size < w1.heap.size := (by have := hb1.size; (try simp at this); omega); have hw1 : Below W.heap.size W w1 := below_step ((Below.refl _ _).alloc (Nat.le_refl _) _) hb1 (by (try simp))))
    go_wp2_with fail
    refine (l02List_ q q63 _).mono ?_
    rintro e w2 ⟨A, c, rfl, own2, hb2⟩
    rw [H2.out]
    go_wp2
    go_ret
    exact ⟨by rw [H.out]; rfl, below_next hw1 hb2⟩
  · have H : Hid (pegsB b p = -1) := Lib.hid (by simp [pegsB, hP])
    go_enter Try.func34, Try.ntmps34
    go_wp2_with (first | (go_at_call 107; refine (is_ (sPositionOk_ _ _ hp _) hP).mono ?_; rintro e w1 ⟨rfl, hb1⟩; obtain ⟨hc, hf⟩ := bcell hb1; have hz0 : W.heap.size < w1.heap.size := (by have := hb1.size; (try simp at this); omega); have hw1 : Below W.heap.size W w1 := below_step ((Below.refl _ _).alloc (Nat.le_refl _) _) hb1 (by (try simp))))
    go_ret
    exact ⟨by rw [H.out]; rfl, hw1⟩
end Go.Proofs.Ytbcgokpamhgabaa
namespace Go.Proofs.Ytbcgokpamhgabaa
set_option linter.unusedVariables false
set_option maxRecDepth 20000
open Go.RowKit Go.Sort

theorem rd_bool {w : World} {B : Nat} {A : Option Addr} {bs : List Bool} {k : Nat} (h : Rd w B A (bools bs)) (hk : k < bs.length) :
    ∃ b off, A = some ⟨b, off, none⟩ ∧ b < B ∧ w.cell? ⟨b, off + k, none⟩ = some (.bool (bs.getD k false)) := by
  obtain ⟨b, off, hA, hb, hc⟩ := h (by rw [bools_length]; omega)
  refine ⟨b, off, hA, hb, hc k _ ?_⟩
  simp [bools, List.getElem?_eq_getElem hk]
theorem trues_le' (l : List Bool) (k : Nat) : (trues l k).length ≤ k := trues_le l k
set_option maxHeartbeats 1000000 in
theorem list_ (bs : List Bool) (A : Option Addr) (c : Nat) (hn : bs.length ≤ 65536) (w : World) (rd : Rd w w.heap.size A (bools bs)) :
    Calls Try.prog 134 #[.slice A bs.length c] w (GivesSlice w 3 1 (trues bs bs.length).length (ints (natL (trues bs bs.length)))) := by
  obtain ⟨i0, hi, hz0, hz1, hz2⟩ := info_parts infoInt
  go_enter Try.func134, Try.ntmps134
  go_wp2
  go_loopw [3, 9] (fun v i wr => ∃ (k : Nat) (A' : Option Addr) (c' : Nat), k ≤ bs.length ∧ i = .int .i64 k ∧ v = .slice A' (trues bs k).length c' ∧ wr.ownsRow w.heap.size 3 1 (.slice A' (trues bs k).length c') (trues bs k).length (ints (natL (trues bs k))) ∧ Below w.heap.size w wr) (fun _ i _ => bs.length - (intOf i).toNat)
  case atStart => exact ⟨0, _, _, by omega, rfl, rfl, World.ownsRow_lit w #[] 0 (Nat.le_refl _) (by simp [maxLen]) rfl, (Below.refl _ _).alloc (Nat.le_refl _) _⟩
  case round =>
    obtain ⟨k, A', c', hk, rfl, rfl, hown, hb⟩ := hrel
    have hle := trues_le bs k
    by_cases hlt : k < bs.length
    · obtain ⟨bb, off, rfl, hbb, x0⟩ := rd_bool (rd.below hb) hlt
      have hbz : bb < wr.heap.size := by have := hb.size; omega
      have k0' : (0 : Int) ≤ (k : Int) := by omega
      have k1' : (k : Int) < (bs.length : Int) := by omega
      have HG := Lib.hid (show bs[k]? = some (bs.getD k false) by rw [List.getD_eq_getElem?_getD, List.getElem?_eq_getElem hlt]; rfl)
      generalize bs.getD k false = bk at x0 HG
      rcases Bool.eq_false_or_eq_true bk with ht | ht
      · subst ht
        have HY := Lib.hid (trues_yes HG.out)
        go_wp2_with (first
          | (at_builtin; refine wpList_append_own _ rfl (.tmp 15) (.tmp 17) 69 rfl w.heap.size 3 i0 (.int .i64 0) 1 8 Try.underlying69 hi hz0 hz1 hz2 rfl (by decide) _ _ _ rfl (hown.alloc _) ⟨wr.heap.size, 0, none⟩ 1 1 [.int .i64 k] rfl rfl (cell_one_new _ _ _) (by intro u hu; simp at hu; subst hu; rfl) (by unfold maxLen; omega) (by omega) (by have := hb.size; simp; omega) ?_; intro v' w1 hown' hgrow hnil))
        have hw1 : Below w.heap.size w w1 := ((hb.alloc hb.size _).grown hgrow (by have := hb.size; simp; omega) (fun g hg => (hown.lt g hg).1))
        have hv : ∃ A'' c'', v' = .slice A'' ((trues bs k).length + 1) c'' := by
          obtain ⟨g, cap, hv, _⟩ := hown'.form (by omega)
          exact ⟨_, _, hv⟩
        clear hown hgrow hnil
        obtain ⟨A'', c'', rfl⟩ := hv
        go_wp2
        go_roundw
        case rel => exact ⟨k + 1, A'', c'', by omega, by go_num, by rw [HY.out]; simp, by rw [HY.out]; simpa [ints, natL] using hown', hw1⟩
        case measure => simp [intOf]; omega
      · subst ht
        have HY := Lib.hid (trues_no HG.out)
        go_wp2
        go_roundw
        case rel => exact ⟨k + 1, A', c', by omega, by go_num, by rw [HY.out], by rw [HY.out]; exact hown, hb⟩
        case measure => simp [intOf]; omega
    · have e : k = bs.length := by omega
      subst e
      go_wp2
      go_ret
      exact ⟨_, _, rfl, hown, hb⟩
set_option maxHeartbeats 1000000 in
theorem l14List_ (bs : List Bool) (A : Option Addr) (c : Nat) (hn : bs.length ≤ 65536) (w : World) (rd : Rd w w.heap.size A (bools bs)) :
    Calls Try.prog 144 #[.slice A bs.length c] w (GivesSlice w 3 1 (trues bs bs.length).length (ints (natL (trues bs bs.length)))) := by
  obtain ⟨i0, hi, hz0, hz1, hz2⟩ := info_parts infoInt
  go_enter Try.func144, Try.ntmps144
  go_wp2
  go_loopw [3, 4] (fun v i wr => ∃ (k : Nat) (A' : Option Addr) (c' : Nat), k ≤ bs.length ∧ i = .int .i64 k ∧ v = .slice A' (trues bs k).length c' ∧ wr.ownsRow w.heap.size 3 1 (.slice A' (trues bs k).length c') (trues bs k).length (ints (natL (trues bs k))) ∧ Below w.heap.size w wr) (fun _ i _ => bs.length - (intOf i).toNat)
  case atStart => exact ⟨0, _, _, by omega, rfl, rfl, World.ownsRow_lit w #[] 0 (Nat.le_refl _) (by simp [maxLen]) rfl, (Below.refl _ _).alloc (Nat.le_refl _) _⟩
  case round =>
    obtain ⟨k, A', c', hk, rfl, rfl, hown, hb⟩ := hrel
    have hle := trues_le bs k
    by_cases hlt : k < bs.length
    · obtain ⟨bb, off, rfl, hbb, x0⟩ := rd_bool (rd.below hb) hlt
      have hbz : bb < wr.heap.size := by have := hb.size; omega
      have k0' : (0 : Int) ≤ (k : Int) := by omega
      have k1' : (k : Int) < (bs.length : Int) := by omega
      have HG := Lib.hid (show bs[k]? = some (bs.getD k false) by rw [List.getD_eq_getElem?_getD, List.getElem?_eq_getElem hlt]; rfl)
      generalize bs.getD k false = bk at x0 HG
      rcases Bool.eq_false_or_eq_true bk with ht | ht
      · subst ht
        have HY := Lib.hid (trues_yes HG.out)
        go_wp2_with (first
          | (at_builtin; refine wpList_append_own _ rfl (.tmp 16) (.tmp 18) 69 rfl w.heap.size 3 i0 (.int .i64 0) 1 8 Try.underlying69 hi hz0 hz1 hz2 rfl (by decide) _ _ _ rfl (hown.alloc _) ⟨wr.heap.size, 0, none⟩ 1 1 [.int .i64 k] rfl rfl (cell_one_new _ _ _) (by intro u hu; simp at hu; subst hu; rfl) (by unfold maxLen; omega) (by omega) (by have := hb.size; simp; omega) ?_; intro v' w1 hown' hgrow hnil))
        have hw1 : Below w.heap.size w w1 := ((hb.alloc hb.size _).grown hgrow (by have := hb.size; simp; omega) (fun g hg => (hown.lt g hg).1))
        have hv : ∃ A'' c'', v' = .slice A'' ((trues bs k).length + 1) c'' := by
          obtain ⟨g, cap, hv, _⟩ := hown'.form (by omega)
          exact ⟨_, _, hv⟩
        clear hown hgrow hnil
        obtain ⟨A'', c'', rfl⟩ := hv
        go_wp2
        go_roundw
        case rel => exact ⟨k + 1, A'', c'', by omega, by go_num, by rw [HY.out]; simp, by rw [HY.out]; simpa [ints, natL] using hown', hw1⟩
        case measure => simp [intOf]; omega
      · subst ht
        have HY := Lib.hid (trues_no HG.out)
        go_wp2
        go_roundw
        case rel => exact ⟨k + 1, A', c', by omega, by go_num, by rw [HY.out], by rw [HY.out]; exact hown, hb⟩
        case measure => simp [intOf]; omega
    · have e : k = bs.length := by omega
      subst e
      go_wp2
      go_ret
      exact ⟨_, _, rfl, hown, hb⟩
theorem spreadL_le (b : Ln) (p : Int) (back : Bool) : (spreadL b p back).length ≤ 65536 := by
  rcases Bool.eq_false_or_eq_true (smallB b && posB b p) with h | h
  · rw [Bool.and_eq_true] at h
    obtain ⟨hS, hP⟩ := h
    obtain ⟨w, h, s, rfl, hb, h16, s16⟩ := smallB_nat hS
    obtain ⟨q, rfl, hq⟩ := posB_nat hP
    rw [spreadL_len hS hP hb (posB_lt hb hq)]
    exact Nat.pow_le_pow_right (n := 2) (j := 16) (by omega) h16
  · rw [spreadL_no h]; simp
theorem reachL_no {b : Ln} {p : Int} {back : Bool} (h : (smallB b && posB b p) = false) : reachL b p back = [] := by
  rw [reachL, spreadL_no h]; rfl
theorem reachL_lt {b : Ln} {p : Int} {back : Bool} : ∀ q ∈ reachL b p back, q < 65536 := fun q hq => by
  have := (trues_mem.1 hq).1
  have := spreadL_le b p back
  omega
theorem reachL_le (b : Ln) (p : Int) (back : Bool) : (reachL b p back).length ≤ 65536 :=
  Nat.le_trans (trues_le _ _) (spreadL_le b p back)
set_option maxHeartbeats 1000000 in
theorem iReachOf_ (b : Ln) (p : Int) (hp : I64 p) (W : World) :
    Calls Try.prog 124 #[.agg #[.int .i64 b.f, .int .i64 b.o, .int .i64 b.t], .int .i64 p] W (GivesSlice W 3 1 (reachL b p false).length (ints (natL (reachL b p false)))) := by
  have hle := spreadL_le b p false
  go_enter Try.func124, Try.ntmps124
  go_wp2_with fail
  refine (spreadOf_ b p false hp _).mono ?_
  rintro e w1 ⟨A, c, rfl, rd, hb1⟩
  have hw1 : Below W.heap.size W w1 := below_step ((Below.refl _ _).alloc (Nat.le_refl _) _) hb1 (by (try simp))
  go_wp2_with fail
  refine (list_ _ A c hle _ rd).mono ?_
  rintro e w2 ⟨A2, c2, rfl, own2, hb2⟩
  have HO := Lib.hid (own_base own2 hw1.size)
  clear own2
  go_wp2
  go_ret
  exact ⟨A2, c2, rfl, HO.out, below_next hw1 hb2⟩
set_option maxHeartbeats 1000000 in
theorem sReachOf_ (b : Ln) (p : Int) (hp : I64 p) (W : World) :
    Calls Try.prog 81 #[.agg #[.int .i64 b.f, .int .i64 b.o, .int .i64 b.t], .int .i64 p] W (GivesSlice W 3 1 (reachL b p false).length (ints (natL (reachL b p false)))) := by
  have hle := spreadL_le b p false
  rcases Bool.eq_false_or_eq_true (smallB b) with hS | hS
  · rcases Bool.eq_false_or_eq_true (posB b p) with hP | hP
    · obtain ⟨w, h, s, rfl, hb, h16, s16⟩ := smallB_nat hS
      obtain ⟨q, rfl, hq⟩ := posB_nat hP
      go_enter Try.func81, Try.ntmps81
      go_wp2_with fail
      refine (is_ (sIsSmall_ ⟨w, h, s⟩ _) hS).mono ?_
      rintro e w1 ⟨rfl, hb1⟩
      obtain ⟨hc, hf⟩ := bcell hb1
      have z0 : W.heap.size < w1.heap.size := by have := hb1.size; (try simp at this); omega
      have hw1 : Below W.heap.size W w1 := below_step ((Below.refl _ _).alloc (Nat.le_refl _) _) hb1 (by (try simp))
      have c0 : w1.cell? ⟨W.heap.size, 0, none⟩ = some (.int .i64 w) := by rw [hc _ _ (by simp)]; simp [go_sem]
      have c1 : w1.cell? ⟨W.heap.size, 1, none⟩ = some (.int .i64 h) := by rw [hc _ _ (by simp)]; simp [go_sem]
      have c2 : w1.cell? ⟨W.heap.size, 2, none⟩ = some (.int .i64 s) := by rw [hc _ _ (by simp)]; simp [go_sem]
      clear hc hf hb1
      go_wp2_with fail
      refine (is_ (sPositionOk_ ⟨w, h, s⟩ q hp _) hP).mono ?_
      rintro e w2 ⟨rfl, hb2⟩
      have d0 := (hb2.cell (p := ⟨W.heap.size, 0, none⟩) z0).trans c0
      have d1 := (hb2.cell (p := ⟨W.heap.size, 1, none⟩) z0).trans c1
      have d2 := (hb2.cell (p := ⟨W.heap.size, 2, none⟩) z0).trans c2
      have hw2 := below_next hw1 hb2
      have z2 : W.heap.size < w2.heap.size := by have := hb2.size; omega
      clear c0 c1 c2 hb2
      go_wp2_with fail
      refine (l14Seen_ w h s q false hS hP _).mono ?_
      rintro e w3 ⟨A, c, rfl, rd, hb3⟩
      have hw3 := below_next hw2 hb3
      go_wp2_with fail
      refine (l14List_ _ A c hle _ rd).mono ?_
      rintro e w4 ⟨A2, c2', rfl, own2, hb4⟩
      have HO := Lib.hid (own_base own2 hw3.size)
      clear own2
      go_wp2
      go_ret
      exact ⟨A2, c2', rfl, HO.out, below_next hw3 hb4⟩
    · have HR : Hid (reachL b p false = []) := Lib.hid (reachL_no (by rw [hP, Bool.and_false]))
      go_enter Try.func81, Try.ntmps81
      go_wp2_with fail
      refine (is_ (sIsSmall_ b _) hS).mono ?_
      rintro e w1 ⟨rfl, hb1⟩
      obtain ⟨hc, hf⟩ := bcell hb1
      have z0 : W.heap.size < w1.heap.size := by have := hb1.size; (try simp at this); omega
      have hw1 : Below W.heap.size W w1 := below_step ((Below.refl _ _).alloc (Nat.le_refl _) _) hb1 (by (try simp))
      have c0 : w1.cell? ⟨W.heap.size, 0, none⟩ = some (.int .i64 b.f) := by rw [hc _ _ (by simp)]; simp [go_sem]
      have c1 : w1.cell? ⟨W.heap.size, 1, none⟩ = some (.int .i64 b.o) := by rw [hc _ _ (by simp)]; simp [go_sem]
      have c2 : w1.cell? ⟨W.heap.size, 2, none⟩ = some (.int .i64 b.t) := by rw [hc _ _ (by simp)]; simp [go_sem]
      clear hc hf hb1
      go_wp2_with fail
      refine (is_ (sPositionOk_ b p hp _) hP).mono ?_
      rintro e w2 ⟨rfl, hb2⟩
      have hw2 := below_next hw1 hb2
      have HL := Lib.hid (own_base (World.ownsRow_lit (base := w2.heap.size) (e := 3) (size := 1) w2 #[] 0 (Nat.le_refl _) (by simp [maxLen]) rfl) hw2.size)
      go_wp2
      go_ret
      exact ⟨_, 0, ret_slice (by rw [HR.out]; rfl), by rw [HR.out]; exact HL.out, hw2.alloc hw2.size _⟩
  · have HR : Hid (reachL b p false = []) := Lib.hid (reachL_no (by rw [hS, Bool.false_and]))
    go_enter Try.func81, Try.ntmps81
    go_wp2_with fail
    refine (is_ (sIsSmall_ b _) hS).mono ?_
    rintro e w1 ⟨rfl, hb1⟩
    have hw1 : Below W.heap.size W w1 := below_step ((Below.refl _ _).alloc (Nat.le_refl _) _) hb1 (by (try simp))
    have HL := Lib.hid (own_base (World.ownsRow_lit (base := w1.heap.size) (e := 3) (size := 1) w1 #[] 0 (Nat.le_refl _) (by simp [maxLen]) rfl) hw1.size)
    go_wp2
    go_ret
    exact ⟨_, 0, ret_slice (by rw [HR.out]; rfl), by rw [HR.out]; exact HL.out, hw1.alloc hw1.size _⟩
theorem pegsIn_ (p : Nat) (hp : p < 65536) (w : World) :
    Calls Try.prog 126 #[.int .i64 p] w fun e w' => e = .returned (.int .i64 (popc p : Nat)) ∧ w = w' := by
  have hcv := u64_in p (by omega)
  go_enter Try.func126, Try.ntmps126
  go_wp2_with (go_at_call 157; refine (onesCount_ p hp _).mono ?_; rintro e w' ⟨rfl, rfl⟩)
  go_ret
  exact ⟨rfl, rfl⟩
end Go.Proofs.Ytbcgokpamhgabaa

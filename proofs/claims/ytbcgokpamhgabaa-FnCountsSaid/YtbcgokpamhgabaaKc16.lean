/- The contracts of IsSmall, CountHoles, CountStuck. The positions that jumps lead to: a search that marks what it has seen. No program in sight. -/
import Derived.Test.YtbcgokpamhgabaaChecked
import Derived.Test.YtbcgokpamhgabaaKc01
import Derived.Tactics
import Derived.Tactics2
import Derived.WalkKit
import Derived.WalkSpells
import Derived.WalkLawsBesides
import Derived.Deep.QuietTactic
import Derived.BigQuiet
import Derived.BigGuardPart
import Derived.Lib.QuietBelow
import Derived.OwnWalk
import Derived.KernelRfl
import Derived.Test.YtbcgokpamhgabaaKc14
import Derived.Test.YtbcgokpamhgabaaKc15
import Derived.Test.YtbcgokpamhgabaaKc13
namespace Go.Proofs.Ytbcgokpamhgabaa
set_option linter.unusedVariables false
set_option maxRecDepth 20000
open Go.RowKit Go.Sort

theorem smallB_nat {b : Ln} (h : smallB b = true) : ∃ w h s : Nat, b = ⟨w, h, s⟩ ∧ BdOk w h s ∧ w * h ≤ 16 ∧ s < 65536 := by
  simp only [smallB, Bool.and_eq_true, decide_eq_true_eq] at h
  obtain ⟨h1, h2⟩ := h
  obtain ⟨w, h, s, rfl, hb⟩ := boardB_nat h1
  have h3 : w * h ≤ 16 := by
    have : (w : Int) * h ≤ 16 := h2
    rw [← Int.natCast_mul] at this
    omega
  exact ⟨w, h, s, rfl, hb, h3, Nat.lt_of_lt_of_le hb.s2 (show 2 ^ (w * h) ≤ 2 ^ 16 from Nat.pow_le_pow_right (by omega) h3)⟩
theorem smallB_no {b : Ln} (h : boardB b = false) : smallB b = false := by simp [smallB, h]
theorem iIsSmall_ (b : Ln) (W : World) :
    Calls Try.prog 130 #[.agg #[.int .i64 b.f, .int .i64 b.o, .int .i64 b.t]] W fun e w' => e = .returned (.bool (smallB b)) ∧ Below W.heap.size W w' := by
  rcases Bool.eq_false_or_eq_true (boardB b) with hB | hB
  · obtain ⟨w, h, s, rfl, hb⟩ := boardB_nat hB
    obtain ⟨m1, m2, m3⟩ := area_bounds hb.w1 hb.w7 hb.h1 hb.h7
    have H := Lib.hid (show decide ((w : Int) * h ≤ 16) = smallB ⟨w, h, s⟩ by simp only [smallB, hB, Bool.true_and])
    go_enter Try.func130, Try.ntmps130
    go_wp2_with (first | (go_at_call 103; refine (is_ (iBoardOk_ _ _) hB).mono ?_; rintro e w1 ⟨rfl, hb1⟩; obtain ⟨hc, hf⟩ := bcell hb1; have hz0 : W.heap.size < w1.heap.size := (by have := hb1.size; (try simp at this); omega); have hw1 : Below W.heap.size W w1 := below_step ((Below.refl _ _).alloc (Nat.le_refl _) _) hb1 (by (try simp))))
    go_ret
    exact ⟨ret_bool H.out, hw1⟩
  · have H := Lib.hid (smallB_no hB)
    go_enter Try.func130, Try.ntmps130
    go_wp2_with (first | (go_at_call 103; refine (is_ (iBoardOk_ _ _) hB).mono ?_; rintro e w1 ⟨rfl, hb1⟩; obtain ⟨hc, hf⟩ := bcell hb1; have hz0 : W.heap.size < w1.heap.size := (by have := hb1.size; (try simp at this); omega); have hw1 : Below W.heap.size W w1 := below_step ((Below.refl _ _).alloc (Nat.le_refl _) _) hb1 (by (try simp))))
    go_ret
    exact ⟨ret_bool H.out.symm, hw1⟩
theorem sIsSmall_ (b : Ln) (W : World) :
    Calls Try.prog 75 #[.agg #[.int .i64 b.f, .int .i64 b.o, .int .i64 b.t]] W fun e w' => e = .returned (.bool (smallB b)) ∧ Below W.heap.size W w' := by
  rcases Bool.eq_false_or_eq_true (boardB b) with hB | hB
  · obtain ⟨w, h, s, rfl, hb⟩ := boardB_nat hB
    obtain ⟨m1, m2, m3⟩ := area_bounds hb.w1 hb.w7 hb.h1 hb.h7
    have H := Lib.hid (show decide ((w : Int) * h ≤ 16) = smallB ⟨w, h, s⟩ by simp only [smallB, hB, Bool.true_and])
    go_enter Try.func75, Try.ntmps75
    go_wp2_with (first | (go_at_call 139; refine (is_ (sBoardOk_ _ _) hB).mono ?_; rintro e w1 ⟨rfl, hb1⟩; obtain ⟨hc, hf⟩ := bcell hb1; have hz0 : W.heap.size < w1.heap.size := (by have := hb1.size; (try simp at this); omega); have hw1 : Below W.heap.size W w1 := below_step ((Below.refl _ _).alloc (Nat.le_refl _) _) hb1 (by (try simp))))
    go_ret
    exact ⟨ret_bool H.out, hw1⟩
  · have H := Lib.hid (smallB_no hB)
    go_enter Try.func75, Try.ntmps75
    go_wp2_with (first | (go_at_call 139; refine (is_ (sBoardOk_ _ _) hB).mono ?_; rintro e w1 ⟨rfl, hb1⟩; obtain ⟨hc, hf⟩ := bcell hb1; have hz0 : W.heap.size < w1.heap.size := (by have := hb1.size; (try simp at this); omega); have hw1 : Below W.heap.size W w1 := below_step ((Below.refl _ _).alloc (Nat.le_refl _) _) hb1 (by (try simp))))
    go_ret
    exact ⟨ret_bool H.out.symm, hw1⟩
theorem iCountHoles_ (w h s : Nat) (hb : BdOk w h s) (hs : s < 65536) (W : World) :
    Calls Try.prog 131 #[.agg #[.int .i64 w, .int .i64 h, .int .i64 s]] W fun e w' => e = .returned (.int .i64 (popc s : Nat)) ∧ Below W.heap.size W w' := by
  have hB := boardB_of hb
  have hcv := u64_in s (by omega)
  go_enter Try.func131, Try.ntmps131
  go_wp2_with (first | (go_at_call 103; refine (is_ (iBoardOk_ _ _) hB).mono ?_; rintro e w1 ⟨rfl, hb1⟩; obtain ⟨hc, hf⟩ := bcell hb1; have hz0 : W.heap.size < w1.heap.size := (by have := hb1.size; (try simp at this); omega); have hw1 : Below W.heap.size W w1 := below_step ((Below.refl _ _).alloc (Nat.le_refl _) _) hb1 (by (try simp))) | (go_at_call 157; refine (onesCount_ s hs _).mono ?_; rintro e w' ⟨rfl, rfl⟩))
  go_ret
  exact ⟨rfl, hw1⟩
theorem sCountHoles_ (w h s : Nat) (hb : BdOk w h s) (W : World) :
    Calls Try.prog 46 #[.agg #[.int .i64 w, .int .i64 h, .int .i64 s]] W fun e w' => e = .returned (.int .i64 (popc s : Nat)) ∧ Below W.heap.size W w' := by
  have H := Lib.hid (show (holesL ⟨w, h, s⟩).length = popc s by rw [holesL_yes hb, popc, bits_49 hb])
  go_enter Try.func46, Try.ntmps46
  go_wp2_with fail
  refine (sHolesOf_ ⟨w, h, s⟩ _).mono ?_
  rintro e w1 ⟨A, c, rfl, rd, hb1⟩
  rw [H.out]
  have hw1 : Below W.heap.size W w1 := below_step ((Below.refl _ _).alloc (Nat.le_refl _) _) hb1 (by (try simp))
  go_wp2
  go_ret
  exact ⟨rfl, hw1⟩
def okS (ls : List Ln) (s p : Nat) : Bool := decide (p &&& s = p) && stuckL ls p
def cntS (ls : List Ln) (s n : Nat) : Nat := ((List.range n).filter (okS ls s)).length
theorem cnt_yes {ls : List Ln} {s n : Nat} (h : okS ls s n = true) : cntS ls s (n + 1) = cntS ls s n + 1 := by simp [cntS, List.range_succ, h]
theorem cnt_no {ls : List Ln} {s n : Nat} (h : okS ls s n = false) : cntS ls s (n + 1) = cntS ls s n := by simp [cntS, List.range_succ, h]
theorem cnt_le (ls : List Ln) (s n : Nat) : cntS ls s n ≤ n := by
  have := List.length_filter_le (okS ls s) (List.range n)
  simpa [cntS] using this
def countStuckF (b : Ln) : Int := if smallB b && decide (popc b.t.toNat ≤ 12) then (cntS (linesL b) b.t.toNat (b.t.toNat + 1) : Nat) else -1
theorem ad_zero (p s : Nat) : (((adiff p s : Nat) : Int) == 0) = decide (p &&& s = p) := by
  rw [Bool.eq_iff_iff]; simp [and_eq_iff]
theorem and_self' (p s : Nat) : (((p &&& s : Nat) : Int) == (p : Int)) = decide (p &&& s = p) := by
  rw [Bool.eq_iff_iff]; simp; omega
set_option maxHeartbeats 1000000 in
theorem iCountStuck_ (b : Ln) (W : World) :
    Calls Try.prog 66 #[.agg #[.int .i64 b.f, .int .i64 b.o, .int .i64 b.t]] W fun e w' => e = .returned (.int .i64 (countStuckF b)) ∧ Below W.heap.size W w' := by
  rcases Bool.eq_false_or_eq_true (smallB b) with hS | hS
  · obtain ⟨w, h, s, rfl, hb, h16, s16⟩ := smallB_nat hS
    go_enter Try.func66, Try.ntmps66
    go_wp2_with fail
    refine (is_ (iIsSmall_ ⟨w, h, s⟩ _) hS).mono ?_
    rintro e w1 ⟨rfl, hb1⟩
    obtain ⟨hc, hf⟩ := bcell hb1
    have hz0 : W.heap.size < w1.heap.size := by have := hb1.size; (try simp at this); omega
    have hw1 : Below W.heap.size W w1 := below_step ((Below.refl _ _).alloc (Nat.le_refl _) _) hb1 (by (try simp))
    have b0 : w1.cell? ⟨W.heap.size, 0, none⟩ = some (.int .i64 w) := by rw [hc _ _ (by simp)]; simp [go_sem]
    have b1 : w1.cell? ⟨W.heap.size, 1, none⟩ = some (.int .i64 h) := by rw [hc _ _ (by simp)]; simp [go_sem]
    have b2 : w1.cell? ⟨W.heap.size, 2, none⟩ = some (.int .i64 s) := by rw [hc _ _ (by simp)]; simp [go_sem]
    clear hc hf hb1
    go_wp2_with fail
    refine (iCountHoles_ w h s hb s16 _).mono ?_
    rintro e w2 ⟨rfl, hb2⟩
    have d0 := (hb2.cell (p := ⟨W.heap.size, 0, none⟩) hz0).trans b0
    have d1 := (hb2.cell (p := ⟨W.heap.size, 1, none⟩) hz0).trans b1
    have d2 := (hb2.cell (p := ⟨W.heap.size, 2, none⟩) hz0).trans b2
    have hw2 := below_next hw1 hb2
    have hz2 : W.heap.size < w2.heap.size := by have := hb2.size; omega
    clear b0 b1 b2
    by_cases h12 : popc s ≤ 12
    · have HR : Hid (countStuckF ⟨w, h, s⟩ = (cntS (linesL ⟨w, h, s⟩) s (s + 1) : Nat)) := Lib.hid (by simp [countStuckF, hS, h12])
      have HLS := lsOk_of hb
      have hle := linesL_le ⟨w, h, s⟩
      obtain ⟨ls, hls⟩ : ∃ ls, linesL ⟨w, h, s⟩ = ls := ⟨_, rfl⟩
      rw [hls] at HLS hle HR
      have HL := Lib.hid hls
      have HLO := Lib.hid HLS
      clear hls HLS
      generalize popc s = k at h12 ⊢
      go_wp2_with fail
      refine (iLinesOf_ ⟨w, h, s⟩ _).mono ?_
      rintro e w3 ⟨A, c, rfl, rd, hb3⟩
      rw [HL.out] at rd ⊢
      have e0 := (hb3.cell (p := ⟨W.heap.size, 0, none⟩) hz2).trans d0
      have e1 := (hb3.cell (p := ⟨W.heap.size, 1, none⟩) hz2).trans d1
      have e2 := (hb3.cell (p := ⟨W.heap.size, 2, none⟩) hz2).trans d2
      have hw3 := below_next hw2 hb3
      have hz3 : W.heap.size < w3.heap.size := by have := hb3.size; omega
      clear d0 d1 d2
      go_wp2_with fail
      go_loopw [4, 5] (fun cv pv wr => ∃ p : Nat, p ≤ s + 1 ∧ pv = .int .i64 p ∧ cv = .int .i64 (cntS ls s p : Nat) ∧ Below w3.heap.size w3 wr) (fun _ pv _ => s + 1 - (intOf pv).toNat)
      case atStart => exact ⟨0, by omega, rfl, rfl, Below.refl _ _⟩
      case round =>
        obtain ⟨p, hp, rfl, rfl, hw⟩ := hrel
        have hsz := hw.size
        have g0 := (hw.cell (p := ⟨W.heap.size, 0, none⟩) hz3).trans e0
        have g1 := (hw.cell (p := ⟨W.heap.size, 1, none⟩) hz3).trans e1
        have g2 := (hw.cell (p := ⟨W.heap.size, 2, none⟩) hz3).trans e2
        have hzr : W.heap.size < wr.heap.size := by omega
        have hcl := cnt_le ls s p
        have rdr := (rd.below hw).more hsz
        by_cases hps : p ≤ s
        · have p63 : B63 p := by unfold B63; omega
          have s63 : B63 s := by unfold B63; omega
          (have ha := i64_andNot p s p63 s63; have hq := ad_zero p s)
          rcases Bool.eq_false_or_eq_true (decide (p &&& s = p)) with h1 | h1
          · rw [h1] at hq
            rcases Bool.eq_false_or_eq_true (stuckL ls p) with h2 | h2
            · have HX := Lib.hid (cnt_yes (show okS ls s p = true by rw [okS, h1, h2]; rfl))
              generalize cntS ls s p = n at HX hcl ⊢
              clear h1
              go_wp2_with fail
              refine (is_ (stuckIn_ ls A c p p63 HLO.out (by omega) _ rdr) h2).mono ?_
              rintro e w4 ⟨rfl, hb4⟩
              have hw4 := hw.trans (hb4.mono hsz)
              go_wp2
              go_roundw
              case rel => exact ⟨p + 1, by omega, by go_num, by rw [HX.out]; go_num, hw4⟩
              case measure => simp [intOf]; omega
            · have HX := Lib.hid (cnt_no (show okS ls s p = false by rw [okS, h2, Bool.and_false]))
              generalize cntS ls s p = n at HX hcl ⊢
              clear h1
              go_wp2_with fail
              refine (is_ (stuckIn_ ls A c p p63 HLO.out (by omega) _ rdr) h2).mono ?_
              rintro e w4 ⟨rfl, hb4⟩
              have hw4 := hw.trans (hb4.mono hsz)
              go_wp2
              go_roundw
              case rel => exact ⟨p + 1, by omega, by go_num, by rw [HX.out], hw4⟩
              case measure => simp [intOf]; omega
          · have HX := Lib.hid (cnt_no (show okS ls s p = false by rw [okS, h1, Bool.false_and]))
            rw [h1] at hq
            generalize cntS ls s p = n at HX hcl ⊢
            clear h1
            go_wp2
            go_roundw
            case rel => exact ⟨p + 1, by omega, by go_num, by rw [HX.out], hw⟩
            case measure => simp [intOf]; omega
        · have e : p = s + 1 := by omega
          subst e
          go_wp2
          go_ret
          exact ⟨ret_int HR.out.symm, below_next hw3 hw⟩
    · have HR : Hid (countStuckF ⟨w, h, s⟩ = -1) := Lib.hid (by simp [countStuckF, h12])
      generalize popc s = k at h12 ⊢
      go_wp2
      go_ret
      exact ⟨ret_int HR.out.symm, hw2⟩
  · have HR : Hid (countStuckF b = -1) := Lib.hid (by simp [countStuckF, hS])
    go_enter Try.func66, Try.ntmps66
    go_wp2_with fail
    refine (is_ (iIsSmall_ b _) hS).mono ?_
    rintro e w1 ⟨rfl, hb1⟩
    have hw1 : Below W.heap.size W w1 := below_step ((Below.refl _ _).alloc (Nat.le_refl _) _) hb1 (by (try simp))
    go_wp2
    go_ret
    exact ⟨ret_int HR.out.symm, hw1⟩
end Go.Proofs.Ytbcgokpamhgabaa
namespace Go.Proofs.Ytbcgokpamhgabaa
set_option linter.unusedVariables false

/-- How many are marked. -/
def tc (l : List Bool) : Nat := (l.filter id).length
theorem tc_le (l : List Bool) : tc l ≤ l.length := List.length_filter_le _ _
theorem tc_set {l : List Bool} {q : Nat} (h : l[q]? = some false) : tc (l.set q true) = tc l + 1 := by
  induction l generalizing q with
  | nil => simp at h
  | cons x l ih =>
    cases q with
    | zero => simp at h; subst h; simp [tc]
    | succ q =>
      have h' : l[q]? = some false := by simpa using h
      have := ih h'
      cases x <;> simp [tc] at this ⊢ <;> omega
theorem tc_zero (n : Nat) : tc (List.replicate n false) = 0 := by simp [tc]

def canD (back : Bool) (p : Nat) (l : Ln) : Bool := if back then canU p l else canJ p l
abbrev St := List Bool × List Nat
def stepS (back : Bool) (p : Nat) (st : St) (l : Ln) : St :=
  if canD back p l && !(st.1.getD (flip p l) true) then (st.1.set (flip p l) true, st.2 ++ [flip p l]) else st
def rowS (back : Bool) (ls : List Ln) (p : Nat) (st : St) : St := ls.foldl (stepS back p) st
def bst (back : Bool) (ls : List Ln) (n p : Nat) : Nat → St
  | 0 => ((List.replicate n false).set p true, [p])
  | k + 1 => match (bst back ls n p k).2[k]? with
    | some q => rowS back ls q (bst back ls n p k)
    | none => bst back ls n p k

/-- What holds of the search's state. -/
structure Inv (n : Nat) (st : St) : Prop where
  len : st.1.length = n
  cnt : st.2.length = tc st.1
  lt : ∀ q ∈ st.2, q < n
theorem Inv.le {n : Nat} {st : St} (h : Inv n st) : st.2.length ≤ n := by
  have := tc_le st.1
  rw [h.cnt, ← h.len]
  exact this
/-- Lines whose jumps stay below n. -/
def Stays (n : Nat) (ls : List Ln) : Prop := ∀ l ∈ ls, ∀ p, p < n → flip p l < n
theorem stays_of {w h s : Nat} (hb : BdOk w h s) : Stays (2 ^ (w * h)) (linesL ⟨w, h, s⟩) := fun l hl p hp => by
  obtain ⟨f, o, t, k⟩ := linesL_ok hb hl
  exact flip_lt k hp
theorem step_inv {n : Nat} {back : Bool} {p : Nat} {st : St} {l : Ln} (h : Inv n st) (hf : flip p l < n) : Inv n (stepS back p st l) := by
  unfold stepS
  split
  · rename_i hc
    simp only [Bool.and_eq_true, Bool.not_eq_true'] at hc
    have hl : flip p l < st.1.length := by rw [h.len]; exact hf
    have hq : st.1[flip p l]? = some false := by
      have := hc.2
      rw [List.getD_eq_getElem?_getD, List.getElem?_eq_getElem hl] at this
      rw [List.getElem?_eq_getElem hl]
      simpa using this
    refine ⟨by simp [h.len], by simp [tc_set hq, h.cnt], ?_⟩
    intro q hq'
    rcases List.mem_append.1 hq' with h1 | h1
    · exact h.lt q h1
    · simp at h1; omega
  · exact h
theorem row_inv {n : Nat} {back : Bool} {p : Nat} (hp : p < n) : ∀ (ls : List Ln) (st : St), Inv n st → Stays n ls → Inv n (rowS back ls p st) := by
  intro ls
  induction ls with
  | nil => intro st h _; exact h
  | cons x ls ih =>
    intro st h hs
    exact ih _ (step_inv h (hs x (by simp) p hp)) fun l hl => hs l (by simp [hl])
theorem bst_inv {n p : Nat} {back : Bool} {ls : List Ln} (hp : p < n) (hs : Stays n ls) (k : Nat) : Inv n (bst back ls n p k) := by
  induction k with
  | zero =>
    refine ⟨by simp [bst], ?_, by simp [bst]; exact hp⟩
    simp only [bst]
    rw [tc_set (by simp [hp]), tc_zero]; rfl
  | succ k ih =>
    simp only [bst]
    split
    · rename_i q hq
      exact row_inv (ih.lt q (List.mem_of_getElem? hq)) ls _ ih hs
    · exact ih
theorem bst_next {n p k q : Nat} {back : Bool} {ls : List Ln} (hq : (bst back ls n p k).2[k]? = some q) : bst back ls n p (k + 1) = rowS back ls q (bst back ls n p k) := by
  simp only [bst, hq]
theorem bst_stop {n p k : Nat} {back : Bool} {ls : List Ln} (h : (bst back ls n p k).2.length ≤ k) (d : Nat) : bst back ls n p (k + d) = bst back ls n p k := by
  induction d with
  | zero => rfl
  | succ d ih =>
    rw [← Nat.add_assoc]
    simp only [bst, ih]
    rw [List.getElem?_eq_none (by omega)]
def bfs (back : Bool) (ls : List Ln) (n p : Nat) : List Bool := (bst back ls n p n).1
theorem bfs_at {n p k : Nat} {back : Bool} {ls : List Ln} (hp : p < n) (hs : Stays n ls) (hk : k ≤ n) (h : (bst back ls n p k).2.length ≤ k) : bfs back ls n p = (bst back ls n p k).1 := by
  have := bst_stop h (n - k)
  rw [show k + (n - k) = n by omega] at this
  rw [bfs, this]
theorem row_take {back : Bool} {ls : List Ln} {p i : Nat} {st : St} {l : Ln} (hl : ls[i]? = some l) : rowS back (ls.take (i + 1)) p st = stepS back p (rowS back (ls.take i) p st) l := by
  obtain ⟨hi, e⟩ := List.getElem?_eq_some_iff.1 hl
  rw [List.take_succ_eq_append_getElem hi, e]
  simp [rowS]
theorem step_no {back : Bool} {p : Nat} {st : St} {l : Ln} (h : canD back p l = false) : stepS back p st l = st := by simp [stepS, h]
theorem step_seen {back : Bool} {p : Nat} {st : St} {l : Ln} (h : st.1[flip p l]? = some true) : stepS back p st l = st := by
  simp [stepS, List.getD_eq_getElem?_getD, h]
theorem step_new {back : Bool} {p : Nat} {st : St} {l : Ln} (hc : canD back p l = true) (h : st.1[flip p l]? = some false) : stepS back p st l = (st.1.set (flip p l) true, st.2 ++ [flip p l]) := by
  simp [stepS, List.getD_eq_getElem?_getD, h, hc]
/-- The todo list only grows. -/
theorem step_pre {back : Bool} {p : Nat} {st : St} {l : Ln} {k q : Nat} (h : st.2[k]? = some q) : (stepS back p st l).2[k]? = some q := by
  unfold stepS
  split
  · have := (List.getElem?_eq_some_iff.1 h).1
    simp only
    rw [List.getElem?_append_left this]; exact h
  · exact h
theorem row_pre {back : Bool} {p k q : Nat} : ∀ (ls : List Ln) (st : St), st.2[k]? = some q → (rowS back ls p st).2[k]? = some q := by
  intro ls
  induction ls with
  | nil => intro st h; exact h
  | cons x ls ih => intro st h; exact ih _ (step_pre h)

/-- The indices that are marked, as far as k. -/
def trues (l : List Bool) (k : Nat) : List Nat := (List.range k).filter (fun i => l.getD i false)
theorem trues_yes {l : List Bool} {k : Nat} (h : l[k]? = some true) : trues l (k + 1) = trues l k ++ [k] := by
  simp [trues, List.range_succ, List.getD_eq_getElem?_getD, h]
theorem trues_no {l : List Bool} {k : Nat} (h : l[k]? = some false) : trues l (k + 1) = trues l k := by
  simp [trues, List.range_succ, List.getD_eq_getElem?_getD, h]
theorem trues_le (l : List Bool) (k : Nat) : (trues l k).length ≤ k := by
  have := List.length_filter_le (fun i => l.getD i false) (List.range k)
  simpa [trues] using this
theorem trues_mem {l : List Bool} {k q : Nat} : q ∈ trues l k ↔ q < k ∧ l.getD q false = true := by simp [trues]

/-- The spread of a position: nothing where the board isn't small or p is no position. -/
def spreadL (b : Ln) (p : Int) (back : Bool) : List Bool :=
  if smallB b && posB b p then bfs back (linesL b) (2 ^ (b.f.toNat * b.o.toNat)) p.toNat else []
def reachL (b : Ln) (p : Int) (back : Bool) : List Nat := trues (spreadL b p back) (spreadL b p back).length
theorem spreadL_len {w h s q : Nat} {back : Bool} (hS : smallB ⟨w, h, s⟩ = true) (hP : posB ⟨w, h, s⟩ q = true) (hb : BdOk w h s) (hq : q < 2 ^ (w * h)) : (spreadL ⟨w, h, s⟩ q back).length = 2 ^ (w * h) := by
  simp only [spreadL, hS, hP, Bool.and_self, if_true, Int.toNat_natCast]
  exact (bst_inv hq (stays_of hb) _).len
theorem spreadL_no {b : Ln} {p : Int} {back : Bool} (h : (smallB b && posB b p) = false) : spreadL b p back = [] := by simp [spreadL, h]
theorem spreadL_yes {w h s q : Nat} {back : Bool} (hS : smallB ⟨w, h, s⟩ = true) (hP : posB ⟨w, h, s⟩ q = true) : spreadL ⟨w, h, s⟩ q back = bfs back (linesL ⟨w, h, s⟩) (2 ^ (w * h)) q := by
  simp [spreadL, hS, hP]
end Go.Proofs.Ytbcgokpamhgabaa

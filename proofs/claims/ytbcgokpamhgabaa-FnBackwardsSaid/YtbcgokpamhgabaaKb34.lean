/- The contracts of StuckOf. -/
import Derived.Test.YtbcgokpamhgabaaChecked
import Derived.Test.YtbcgokpamhgabaaKb01
import Derived.Tactics
import Derived.Tactics2
import Derived.WalkKit
import Derived.WalkSpells
import Derived.WalkLawsBesides
import Derived.Deep.QuietTactic
import Derived.BigQuiet
import Derived.BigGuardPart
import Derived.Lib.QuietBelow
import Derived.OwnWalk
import Derived.KernelRfl
import Derived.Test.YtbcgokpamhgabaaKb33
namespace Go.Proofs.Ytbcgokpamhgabaa
set_option linter.unusedVariables false
set_option maxRecDepth 20000
open Go.RowKit Go.Sort

theorem rd_nat {w : World} {B : Nat} {A : Option Addr} {xs : List Nat} (h : Rd w B A (ints (natL xs))) {k x : Nat} (hx : xs[k]? = some x) :
    ∃ b off, A = some ⟨b, off, none⟩ ∧ b < B ∧ w.cell? ⟨b, off + k, none⟩ = some (.int .i64 x) := by
  obtain ⟨b, off, y, hA, hb, hy, hc⟩ := h.int (k := k) (by rw [natL_length]; exact (List.getElem?_eq_some_iff.1 hx).1)
  rw [natL_get hx] at hy
  injection hy with hy
  subst hy
  exact ⟨b, off, hA, hb, hc⟩
/-- Those of the first k at which no line can be jumped. -/
def stk (ls : List Ln) (rs : List Nat) (k : Nat) : List Nat := (rs.take k).filter (stuckL ls)
theorem stk_le (ls : List Ln) (rs : List Nat) (k : Nat) : (stk ls rs k).length ≤ rs.length :=
  Nat.le_trans (List.length_filter_le _ _) (by rw [List.length_take]; omega)
theorem stk_yes {ls : List Ln} {rs : List Nat} {k q : Nat} (hq : rs[k]? = some q) (h : stuckL ls q = true) : stk ls rs (k + 1) = stk ls rs k ++ [q] := by
  obtain ⟨hk, e⟩ := List.getElem?_eq_some_iff.1 hq
  rw [stk, List.take_succ_eq_append_getElem hk, e]
  simp [stk, h]
theorem stk_no {ls : List Ln} {rs : List Nat} {k q : Nat} (hq : rs[k]? = some q) (h : stuckL ls q = false) : stk ls rs (k + 1) = stk ls rs k := by
  obtain ⟨hk, e⟩ := List.getElem?_eq_some_iff.1 hq
  rw [stk, List.take_succ_eq_append_getElem hk, e]
  simp [stk, h]
def stuckR (b : Ln) (p : Int) : List Nat := stk (linesL b) (reachL b p false) (reachL b p false).length
theorem stuckR_mem {b : Ln} {p : Int} {q : Nat} (h : q ∈ stuckR b p) : q ∈ reachL b p false := by
  rw [stuckR, stk, List.take_length] at h
  exact (List.mem_filter.1 h).1
theorem stuckR_le (b : Ln) (p : Int) : (stuckR b p).length ≤ 65536 := Nat.le_trans (stk_le _ _ _) (reachL_le b p false)
theorem step_sub {s p : Nat} {back : Bool} {st : St} {l : Ln} (hf : flip p l &&& s = flip p l) (h1 : ∀ q : Nat, st.1[q]? = some true → q &&& s = q) (h2 : ∀ q ∈ st.2, q &&& s = q) :
    (∀ q : Nat, (stepS back p st l).1[q]? = some true → q &&& s = q) ∧ (∀ q ∈ (stepS back p st l).2, q &&& s = q) := by
  unfold stepS
  split
  · refine ⟨fun q hq => ?_, fun q hq => ?_⟩
    · rw [List.getElem?_set] at hq
      split at hq
      · rename_i e; rw [← e]; exact hf
      · exact h1 q hq
    · rcases List.mem_append.1 hq with h | h
      · exact h2 q h
      · simp at h; subst h; exact hf
  · exact ⟨h1, h2⟩
theorem row_sub {s p : Nat} {back : Bool} (ls : List Ln) : ∀ (st : St), (∀ l ∈ ls, flip p l &&& s = flip p l) → (∀ q : Nat, st.1[q]? = some true → q &&& s = q) → (∀ q ∈ st.2, q &&& s = q) →
    (∀ q : Nat, (rowS back ls p st).1[q]? = some true → q &&& s = q) ∧ (∀ q ∈ (rowS back ls p st).2, q &&& s = q) := by
  induction ls with
  | nil => intro st _ h1 h2; exact ⟨h1, h2⟩
  | cons x ls ih =>
    intro st hs h1 h2
    have := step_sub (back := back) (hs x (by simp)) h1 h2
    exact ih _ (fun l hl => hs l (by simp [hl])) this.1 this.2
theorem bst_sub {s n p : Nat} {back : Bool} {ls : List Ln} (hp : p &&& s = p) (hs : ∀ l ∈ ls, ∀ q, q &&& s = q → flip q l &&& s = flip q l) (k : Nat) :
    (∀ q : Nat, (bst back ls n p k).1[q]? = some true → q &&& s = q) ∧ (∀ q ∈ (bst back ls n p k).2, q &&& s = q) := by
  induction k with
  | zero =>
    refine ⟨fun q hq => ?_, fun q hq => ?_⟩
    · simp only [bst] at hq
      rw [List.getElem?_set] at hq
      split at hq
      · rename_i e; rw [← e]; exact hp
      · simp [List.getElem?_replicate] at hq
    · simp [bst] at hq; subst hq; exact hp
  | succ k ih =>
    simp only [bst]
    split
    · rename_i q hq
      have hq' := ih.2 q (List.mem_of_getElem? hq)
      exact row_sub ls _ (fun l hl => hs l hl q hq') ih.1 ih.2
    · exact ih
theorem reach_pos {b : Ln} {p : Int} {back : Bool} {q : Nat} (h : q ∈ reachL b p back) : posB b q = true := by
  rcases Bool.eq_false_or_eq_true (smallB b && posB b p) with hh | hh
  · rw [Bool.and_eq_true] at hh
    obtain ⟨hS, hP⟩ := hh
    obtain ⟨w, h', s, rfl, hb, h16, s16⟩ := smallB_nat hS
    obtain ⟨p, rfl, hp⟩ := posB_nat hP
    refine posB_of hb ?_
    have hm := (trues_mem.1 h).2
    rw [spreadL_yes hS hP] at hm
    have := (bst_sub (n := 2 ^ (w * h')) (back := back) hp (fun l hl q hq => by
      obtain ⟨f, o, t, k⟩ := linesL_ok hb hl
      exact flip_sub k hq) (2 ^ (w * h'))).1 q
    refine this ?_
    unfold bfs at hm
    rw [List.getD_eq_getElem?_getD] at hm
    cases hc : (bst back (linesL ⟨w, h', s⟩) (2 ^ (w * h')) p (2 ^ (w * h'))).1[q]? with
    | none => rw [hc] at hm; simp at hm
    | some v => rw [hc] at hm; simp at hm; rw [hm]
  · rw [reachL_no hh] at h; simp at h
set_option maxHeartbeats 1000000 in
theorem iStuckOf_ (b : Ln) (p : Int) (hp : I64 p) (W : World) :
    Calls Try.prog 58 #[.agg #[.int .i64 b.f, .int .i64 b.o, .int .i64 b.t], .int .i64 p] W (GivesSlice W 3 1 (stuckR b p).length (ints (natL (stuckR b p)))) := by
  obtain ⟨i0, hi, hz0, hz1, hz2⟩ := info_parts infoInt
  have hll := linesL_le b
  have hrl := reachL_le b p false
  have HLSO0 := lsOk_b b
  have hrlt := reachL_lt (b := b) (p := p) (back := false)
  have HST0 : stuckR b p = stk (linesL b) (reachL b p false) (reachL b p false).length := rfl
  obtain ⟨ls, hls⟩ : ∃ ls, linesL b = ls := ⟨_, rfl⟩
  obtain ⟨rs, hrs⟩ : ∃ rs, reachL b p false = rs := ⟨_, rfl⟩
  rw [hls] at hll HLSO0 HST0
  rw [hrs] at hrl hrlt HST0
  have HL := Lib.hid hls
  have HR := Lib.hid hrs
  have HLSO := Lib.hid HLSO0
  have HRL := Lib.hid hrlt
  have HST := Lib.hid HST0
  clear hls hrs HLSO0 hrlt HST0
  go_enter Try.func58, Try.ntmps58
  go_wp2_with fail
  refine (iLinesOf_ b _).mono ?_
  rintro e w1 ⟨AL, cL, rfl, rd1, hb1⟩
  rw [HL.out] at rd1 ⊢
  obtain ⟨hc, hf⟩ := bcell hb1
  have z0 : W.heap.size < w1.heap.size := by have := hb1.size; (try simp at this); omega
  have hw1 : Below W.heap.size W w1 := below_step ((Below.refl _ _).alloc (Nat.le_refl _) _) hb1 (by (try simp))
  have c0 : w1.cell? ⟨W.heap.size, 0, none⟩ = some (.int .i64 b.f) := by rw [hc _ _ (by simp)]; simp [go_sem]
  have c1 : w1.cell? ⟨W.heap.size, 1, none⟩ = some (.int .i64 b.o) := by rw [hc _ _ (by simp)]; simp [go_sem]
  have c2 : w1.cell? ⟨W.heap.size, 2, none⟩ = some (.int .i64 b.t) := by rw [hc _ _ (by simp)]; simp [go_sem]
  have hL0 : (w1.alloc (.cells #[] 3)).ownsRow W.heap.size 3 1 (.slice (some ⟨w1.heap.size, 0, none⟩) 0 0) 0 [] := own_base (World.ownsRow_lit w1 #[] 0 (Nat.le_refl _) (by simp [maxLen]) rfl) hw1.size
  have HLX := Lib.hid hL0
  have HRD1 := Lib.hid rd1
  clear hc hf hb1 hL0 rd1
  go_wp2_with fail
  refine (iReachOf_ b p hp _).mono ?_
  rintro e W2 ⟨AR, cR, rfl, own2, hb2⟩
  rw [HR.out] at own2 ⊢
  have rdR := rd_of_own own2
  have hA : Below w1.heap.size w1 (w1.alloc (.cells #[] 3)) := (Below.refl _ _).alloc (Nat.le_refl _) _
  have rdL := HRD1.out.next (below_next hA hb2)
  have HL0 := Lib.hid (own_next HLX.out hb2)
  have hW2 := below_next (below_next hw1 hA) hb2
  have hB2 : W.heap.size ≤ W2.heap.size := hW2.size
  have hz12 : w1.heap.size < W2.heap.size := by have := hb2.size; simp at this; omega
  obtain ⟨B0, hB0⟩ : ∃ B0, w1.heap.size = B0 := ⟨_, rfl⟩
  rw [hB0] at HL0 hz12 ⊢
  clear c0 c1 c2 own2 hA hb2 hw1 z0
  go_wp2_with fail
  go_loopw [6, 16] (fun v i wr => ∃ (k : Nat) (A' : Option Addr) (c' : Nat), k ≤ rs.length ∧ i = .int .i64 k ∧ v = .slice A' (stk ls rs k).length c' ∧ Slab wr W2.heap.size (some ⟨B0, 0, none⟩) 3 1 (.slice A' (stk ls rs k).length c') (stk ls rs k).length (ints (natL (stk ls rs k))) ∧ Below W2.heap.size W2 wr) (fun _ i _ => rs.length - (intOf i).toNat)
  case atStart => exact ⟨0, _, _, Nat.zero_le _, rfl, rfl, slab_zero _ _ _ _ _, Below.refl _ _⟩
  case round =>
    obtain ⟨k, A', c', hk, rfl, rfl, hs, hw⟩ := hrel
    have hle := stk_le ls rs k
    have hsz := hw.size
    by_cases hlt : k < rs.length
    · have hx : rs[k]? = some rs[k] := List.getElem?_eq_getElem hlt
      have hq6 := HRL.out _ (List.getElem_mem hlt)
      generalize rs[k] = q at hx hq6
      obtain ⟨bb, off, rfl, hbb, x0⟩ := rd_nat (rdR.below hw) hx
      have hbz : bb < wr.heap.size := by omega
      have q63 : B63 q := by unfold B63; omega
      have k0' : (0 : Int) ≤ (k : Int) := by omega
      have k1' : (k : Int) < (rs.length : Int) := by omega
      have rdL' := rdL.next hw
      have HS := Lib.hid hs
      have HX := Lib.hid hx
      have HRDL := Lib.hid rdL'
      clear hs hx rdL'
      rcases Bool.eq_false_or_eq_true (stuckL ls q) with ht | ht
      · have HY := Lib.hid (stk_yes HX.out ht)
        go_wp2_with fail
        refine (is_ (stuckIn_ ls AL cL q q63 HLSO.out (by omega) _ HRDL.out) ht).mono ?_
        rintro e w1 ⟨rfl, hb1⟩
        have y0 := (hb1.cell (p := ⟨bb, off + k, none⟩) hbz).trans x0
        have hs1 := HS.out.next hb1
        have hw1 := hw.trans (hb1.mono hsz)
        have hsz1 : W2.heap.size ≤ w1.heap.size := hw1.size
        have hbz1 : bb < w1.heap.size := by omega
        clear x0 ht
        go_wp2_with (first | (at_builtin; refine wpList_append_slab _ rfl (.tmp 23) (.tmp 25) 69 rfl W2.heap.size (some ⟨B0, 0, none⟩) 3 i0 (.int .i64 0) 1 8 Try.underlying69 hi hz0 hz1 hz2 rfl (by decide) _ _ _ rfl (hs1.alloc _) ⟨w1.heap.size, 0, none⟩ 1 1 [.int .i64 q] rfl rfl (cell_one_new _ _ _) (by intro u hu; simp at hu; subst hu; rfl) (by omega) (by unfold maxLen; omega) (by omega) (by have := hsz1; simp; omega) ?_; intro g cap wA ownA hbA))
        have HO := Lib.hid ownA
        have hwA : Below W2.heap.size W2 wA := (hw1.alloc hsz1 _).trans hbA
        clear hs1 ownA
        go_wp2
        go_roundw
        case rel => exact ⟨k + 1, some ⟨g, 0, none⟩, cap, by omega, by go_num, by rw [HY.out]; simp, .inl (by rw [HY.out]; simpa [ints, natL] using HO.out), hwA⟩
        case measure => simp [intOf]; omega
      · have HY := Lib.hid (stk_no HX.out ht)
        go_wp2_with fail
        refine (is_ (stuckIn_ ls AL cL q q63 HLSO.out (by omega) _ HRDL.out) ht).mono ?_
        rintro e w1 ⟨rfl, hb1⟩
        have hs1 := Lib.hid (HS.out.next hb1)
        have hw1 := hw.trans (hb1.mono hsz)
        clear ht
        go_wp2
        go_roundw
        case rel => exact ⟨k + 1, A', c', by omega, by go_num, by rw [HY.out], by rw [HY.out]; exact hs1.out, hw1⟩
        case measure => simp [intOf]; omega
    · have e : k = rs.length := by omega
      subst e
      have HF := Lib.hid (hs.end (own_below HL0.out hw (fun g hg => by simp [Value.ownBlock] at hg; omega)) hB2)
      clear hs
      go_wp2
      go_ret
      exact ⟨_, _, ret_slice (by rw [HST.out]), by rw [HST.out]; exact HF.out, hW2.trans (hw.mono hB2)⟩
end Go.Proofs.Ytbcgokpamhgabaa

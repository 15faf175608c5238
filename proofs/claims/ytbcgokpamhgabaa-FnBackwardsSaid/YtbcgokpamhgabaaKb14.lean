/- The contracts of HolesOf and LinesOf. -/
import Derived.Test.YtbcgokpamhgabaaChecked
import Derived.Test.YtbcgokpamhgabaaKb01
import Derived.Tactics
import Derived.Tactics2
import Derived.WalkKit
import Derived.WalkSpells
import Derived.WalkLawsBesides
import Derived.Deep.QuietTactic
import Derived.BigQuiet
import Derived.BigGuardPart
import Derived.Lib.QuietBelow
import Derived.OwnWalk
import Derived.KernelRfl
import Derived.Test.YtbcgokpamhgabaaKb12
import Derived.Test.YtbcgokpamhgabaaKb13
namespace Go.Proofs.Ytbcgokpamhgabaa
set_option linter.unusedVariables false
set_option maxRecDepth 20000
open Go.RowKit Go.Sort

theorem natL_length (l : List Nat) : (natL l).length = l.length := by simp [natL]
theorem natL_append (a c : List Nat) : natL (a ++ c) = natL a ++ natL c := by simp [natL]
theorem ints_append (a c : List Int) : ints (a ++ c) = ints a ++ ints c := by simp [ints]
theorem natL_get {l : List Nat} {i k : Nat} (h : l[i]? = some k) : (natL l)[i]? = some (k : Int) := by simp [natL, h]

theorem sHolesOf_ (b : Ln) (W : World) :
    Calls Try.prog 72 #[.agg #[.int .i64 b.f, .int .i64 b.o, .int .i64 b.t]] W (GivesRd W (holesL b).length (ints (natL (holesL b)))) := by
  rcases Bool.eq_false_or_eq_true (boardB b) with hB | hB
  · obtain ⟨w, h, s, rfl, hb⟩ := boardB_nat hB
    have s63 := hb.b63
    have H := Lib.hid (show bitsOf s 49 = holesL ⟨w, h, s⟩ by rw [holesL_yes hb, bits_49 hb])
    go_enter Try.func72, Try.ntmps72
    go_wp2_with (first | (go_at_call 139; refine (is_ (sBoardOk_ _ _) hB).mono ?_; rintro e w1 ⟨rfl, hb1⟩; obtain ⟨hc, hf⟩ := bcell hb1; have hz0 : W.heap.size < w1.heap.size := (by have := hb1.size; (try simp at this); omega); have hw1 : Below W.heap.size W w1 := below_step ((Below.refl _ _).alloc (Nat.le_refl _) _) hb1 (by (try simp))) | (go_at_call 108; refine (l02List_ s s63 _).mono ?_; rintro e w2 ⟨A, c, rfl, own2, hb2⟩))
    go_ret
    exact ⟨A, c, ret_slice (congrArg List.length H.out), by rw [← H.out]; exact rd_of_own own2, below_next hw1 hb2⟩
  · have H := Lib.hid (holesL_no hB)
    go_enter Try.func72, Try.ntmps72
    go_wp2_with ((go_at_call 139; refine (is_ (sBoardOk_ _ _) hB).mono ?_; rintro e w1 ⟨rfl, hb1⟩; obtain ⟨hc, hf⟩ := bcell hb1; have hz0 : W.heap.size < w1.heap.size := (by have := hb1.size; (try simp at this); omega); have hw1 : Below W.heap.size W w1 := below_step ((Below.refl _ _).alloc (Nat.le_refl _) _) hb1 (by (try simp))))
    go_ret
    exact ⟨some ⟨w1.heap.size, 0, none⟩, 0, ret_slice (by rw [H.out]; rfl), by rw [H.out]; exact Rd.nil, hw1.alloc hw1.size _⟩
set_option maxHeartbeats 1000000 in
theorem iHolesOf_ (b : Ln) (W : World) :
    Calls Try.prog 136 #[.agg #[.int .i64 b.f, .int .i64 b.o, .int .i64 b.t]] W (GivesRd W (holesL b).length (ints (natL (holesL b)))) := by
  obtain ⟨i0, hi, hz0, hz1, hz2⟩ := info_parts infoInt
  rcases Bool.eq_false_or_eq_true (boardB b) with hB | hB
  · obtain ⟨w, h, s, rfl, hb⟩ := boardB_nat hB
    have s63 := hb.b63
    have hA := hb.area
    obtain ⟨m1, m2, m3⟩ := area_bounds hb.w1 hb.w7 hb.h1 hb.h7
    have m4 : ((w * h : Nat) : Int) = (w : Int) * h := by simp
    have H := Lib.hid (holesL_yes hb)
    obtain ⟨n, hn⟩ : ∃ n, n = w * h := ⟨_, rfl⟩
    have m5 : (w : Int) * h = (n : Int) := by rw [hn]; exact m4.symm
    rw [← hn] at hA
    have HN := Lib.hid hn
    clear m4 hn
    go_enter Try.func136, Try.ntmps136
    go_wp2_with fail
    go_loopw [3, 4] (fun lv kv wr => ∃ (k : Nat) (A : Option Addr) (c : Nat), k ≤ n ∧ kv = .int .i64 k ∧ lv = .slice A (bitsOf s k).length c ∧ Slab wr (W.heap.size + 1) (some ⟨W.heap.size + 1, 0, none⟩) 3 1 (.slice A (bitsOf s k).length c) (bitsOf s k).length (ints (natL (bitsOf s k))) ∧ Below (W.heap.size + 1) (W.alloc (.cells #[.int .i64 w, .int .i64 h, .int .i64 s] 42)) wr) (fun _ kv _ => n - (intOf kv).toNat)
    case atStart => exact ⟨0, _, _, Nat.zero_le _, rfl, rfl, slab_zero _ _ _ _ _, (Below.refl _ _).alloc (by simp) _⟩
    case round =>
      obtain ⟨k, A, c, hk, rfl, rfl, hs, hw⟩ := hrel
      have hle := bits_le s k
      have hsz : W.heap.size + 1 ≤ wr.heap.size := by have := hw.size; simpa using this
      have c0 : wr.cell? ⟨W.heap.size, 0, none⟩ = some (.int .i64 w) := by rw [hw.cell (p := ⟨W.heap.size, 0, none⟩) (by simp)]; simp [go_sem]
      have c1 : wr.cell? ⟨W.heap.size, 1, none⟩ = some (.int .i64 h) := by rw [hw.cell (p := ⟨W.heap.size, 1, none⟩) (by simp)]; simp [go_sem]
      have c2 : wr.cell? ⟨W.heap.size, 2, none⟩ = some (.int .i64 s) := by rw [hw.cell (p := ⟨W.heap.size, 2, none⟩) (by simp)]; simp [go_sem]
      have HS := Lib.hid hs
      clear hs
      by_cases hlt : k < n
      · rcases Bool.eq_false_or_eq_true (s.testBit k) with ht | ht
        · have HY := Lib.hid (bits_yes ht)
          go_wp2_with fail
          refine (is_ (iBoardOk_ _ _) hB).mono ?_
          rintro e w1 ⟨rfl, hb1⟩
          obtain ⟨hc, hf⟩ := bcell hb1
          have hz : W.heap.size < wr.heap.size := by omega
          have d0 := (hc W.heap.size 0 hz).trans c0
          have d1 := (hc W.heap.size 1 hz).trans c1
          have d2 := (hc W.heap.size 2 hz).trans c2
          have hw1 := hw.trans (hb1.mono hsz)
          have hsz1 : W.heap.size + 1 ≤ w1.heap.size := by have := hb1.size; omega
          have hs1 := HS.out.next hb1
          clear hc hf
          go_wp2_with (first | (go_at_call 98; refine (is_ (hasBit_ s k s63 (by omega) _) ht).mono ?_; rintro e w' ⟨rfl, rfl⟩) | (at_builtin; refine wpList_append_slab _ rfl (.tmp 23) (.tmp 25) 69 rfl (W.heap.size + 1) (some ⟨W.heap.size + 1, 0, none⟩) 3 i0 (.int .i64 0) 1 8 Try.underlying69 hi hz0 hz1 hz2 rfl (by decide) _ _ _ rfl (hs1.alloc _) ⟨w1.heap.size, 0, none⟩ 1 1 [.int .i64 k] rfl rfl (cell_one_new _ _ _) (by intro u hu; simp at hu; subst hu; rfl) (by omega) (by unfold maxLen; omega) (by omega) (by have := hw1.size; simp; omega) ?_; intro g cap wA ownA hbA))
          have HO := Lib.hid ownA
          have hwA : Below (W.heap.size + 1) (W.alloc (.cells #[.int .i64 w, .int .i64 h, .int .i64 s] 42)) wA := (hw1.alloc hsz1 _).trans hbA
          clear hs1 ownA
          go_wp2
          go_roundw
          case rel => exact ⟨k + 1, some ⟨g, 0, none⟩, cap, by omega, by go_num, by rw [HY.out]; simp, .inl (by rw [HY.out]; simpa [ints, natL] using HO.out), hwA⟩
          case measure => simp [intOf]; omega
        · have HY := Lib.hid (bits_no ht)
          go_wp2_with fail
          refine (is_ (iBoardOk_ _ _) hB).mono ?_
          rintro e w1 ⟨rfl, hb1⟩
          obtain ⟨hc, hf⟩ := bcell hb1
          have hz : W.heap.size < wr.heap.size := by omega
          have d0 := (hc W.heap.size 0 hz).trans c0
          have d1 := (hc W.heap.size 1 hz).trans c1
          have d2 := (hc W.heap.size 2 hz).trans c2
          have hw1 := hw.trans (hb1.mono hsz)
          have hs1 := Lib.hid (HS.out.next hb1)
          clear hc hf
          go_wp2_with (first | (go_at_call 98; refine (is_ (hasBit_ s k s63 (by omega) _) ht).mono ?_; rintro e w' ⟨rfl, rfl⟩))
          go_roundw
          case rel => exact ⟨k + 1, A, c, by omega, by go_num, by rw [HY.out], by rw [HY.out]; exact hs1.out, hw1⟩
          case measure => simp [intOf]; omega
      · have e : k = n := by omega
        subst e
        go_wp2_with fail
        refine (is_ (iBoardOk_ _ _) hB).mono ?_
        rintro e w1 ⟨rfl, hb1⟩
        obtain ⟨hc, hf⟩ := bcell hb1
        have hz : W.heap.size < wr.heap.size := by omega
        have d0 := (hc W.heap.size 0 hz).trans c0
        have d1 := (hc W.heap.size 1 hz).trans c1
        have hw1 := hw.trans (hb1.mono hsz)
        have hs1 := Lib.hid (HS.out.next hb1)
        clear hc hf
        go_wp2
        go_ret
        exact ⟨A, c, ret_slice (by rw [H.out, ← HN.out]), by rw [H.out, ← HN.out]; exact rd_of_slab hs1.out, ((Below.refl _ _).alloc (Nat.le_refl _) _).trans (hw1.mono (Nat.le_succ _))⟩
  · have H := Lib.hid (holesL_no hB)
    go_enter Try.func136, Try.ntmps136
    go_wp2_with fail
    go_loopw [3, 4] (fun lv kv wr => kv = .int .i64 0 ∧ lv = .slice (some ⟨W.heap.size + 1, 0, none⟩) 0 0 ∧ Below (W.heap.size + 1) (W.alloc (.cells #[.int .i64 b.f, .int .i64 b.o, .int .i64 b.t] 42)) wr) (fun _ _ _ => 0)
    case atStart => exact ⟨rfl, rfl, (Below.refl _ _).alloc (by simp) _⟩
    case round =>
      obtain ⟨rfl, rfl, hw⟩ := hrel
      have hsz : W.heap.size + 1 ≤ wr.heap.size := by have := hw.size; simpa using this
      have c0 : wr.cell? ⟨W.heap.size, 0, none⟩ = some (.int .i64 b.f) := by rw [hw.cell (p := ⟨W.heap.size, 0, none⟩) (by simp)]; simp [go_sem]
      have c1 : wr.cell? ⟨W.heap.size, 1, none⟩ = some (.int .i64 b.o) := by rw [hw.cell (p := ⟨W.heap.size, 1, none⟩) (by simp)]; simp [go_sem]
      have c2 : wr.cell? ⟨W.heap.size, 2, none⟩ = some (.int .i64 b.t) := by rw [hw.cell (p := ⟨W.heap.size, 2, none⟩) (by simp)]; simp [go_sem]
      go_wp2_with fail
      refine (is_ (iBoardOk_ _ _) hB).mono ?_
      rintro e w1 ⟨rfl, hb1⟩
      have hw1 := hw.trans (hb1.mono hsz)
      go_wp2
      go_ret
      exact ⟨some ⟨W.heap.size + 1, 0, none⟩, 0, ret_slice (by rw [H.out]; rfl), by rw [H.out]; exact Rd.nil, ((Below.refl _ _).alloc (Nat.le_refl _) _).trans (hw1.mono (Nat.le_succ _))⟩

theorem linesL_holes (b : Ln) : linesL b = linesN b.f.toNat b.o.toNat b.t.toNat (holesL b) := by
  unfold linesL holesL
  split <;> rfl
theorem bes_bound {w h s k way : Nat} (hb : BdOk w h s) : -1 ≤ bes w h s k way ∧ bes w h s k way ≤ 48 := by
  by_cases h0 : 0 ≤ bes w h s k way
  · obtain ⟨m, e, m1, _⟩ := bes_hole hb h0
    have := hb.area
    omega
  · unfold bes at h0 ⊢
    split
    · rename_i h1
      rw [if_pos h1] at h0
      simp only [atB, Bool.and_eq_true, decide_eq_true_eq] at h1
      obtain ⟨hx, hy, _⟩ := h1
      have := Int.mul_nonneg hy.1 (show (0 : Int) ≤ (w : Int) by omega)
      omega
    · omega
theorem besI_bound {b : Ln} {k : Int} {way : Nat} : -1 ≤ besI b k way ∧ besI b k way ≤ 48 := by
  rcases Bool.eq_false_or_eq_true (holeB b k) with hB | hB
  · obtain ⟨w, h, s, q, rfl, rfl, hb, hq, hs⟩ := holeB_open hB
    rw [besI_yes hB]
    exact bes_bound hb
  · rw [besI_no hB]; omega
theorem line_no {w h s k way : Nat} (hb : BdOk w h s) (hk : k < w * h) (hs : s.testBit k = true) (h0 : besI ⟨w, h, s⟩ (besI ⟨w, h, s⟩ k way) way < 0) : lineAt w h s k way = none := by
  rw [besI_yes (holeB_lt hb hs)] at h0
  by_cases h1 : bes w h s k way < 0
  · exact lineAt_noA h1
  · obtain ⟨m, e, m1, m2, _⟩ := bes_hole hb (show 0 ≤ bes w h s k way by omega)
    rw [e, besI_yes (holeB_lt hb m2)] at h0
    exact lineAt_noB e h0
theorem line_yes {w h s k way : Nat} (hb : BdOk w h s) (hk : k < w * h) (hs : s.testBit k = true) (h0 : ¬ besI ⟨w, h, s⟩ (besI ⟨w, h, s⟩ k way) way < 0) :
    lineAt w h s k way = some ⟨k, besI ⟨w, h, s⟩ k way, besI ⟨w, h, s⟩ (besI ⟨w, h, s⟩ k way) way⟩ := by
  rw [besI_yes (holeB_lt hb hs)] at h0 ⊢
  by_cases h1 : bes w h s k way < 0
  · rw [besI_no (holeB_neg h1)] at h0; omega
  · obtain ⟨m, e, m1, m2, _⟩ := bes_hole hb (show 0 ≤ bes w h s k way by omega)
    rw [e, besI_yes (holeB_lt hb m2)] at h0 ⊢
    obtain ⟨n, e2, _⟩ := bes_hole hb (show 0 ≤ bes w h s m way by omega)
    rw [e2]
    exact lineAt_yes e e2
theorem isI_ {P : Program} {f : FuncId} {args : Array Value} {w : World} {k : IntKind} {a b : Int} {Q : World → Prop} (h : Calls P f args w fun e w' => e = .returned (.int k a) ∧ Q w') (e : a = b) : Calls P f args w fun e w' => e = .returned (.int k b) ∧ Q w' := e ▸ h
set_option maxHeartbeats 1000000 in
theorem iLinesOfL_ (b : Ln) (W : World) :
    Calls Try.prog 123 #[.agg #[.int .i64 b.f, .int .i64 b.o, .int .i64 b.t]] W (GivesRdL W (linesL b).length (flat (linesL b))) := by
  obtain ⟨i0, hi, hz0, hz1, hz2⟩ := info_parts infoLine
  have H := Lib.hid (linesL_holes b)
  rcases Bool.eq_false_or_eq_true (boardB b) with hB | hB
  · obtain ⟨w, h, s, rfl, hb⟩ := boardB_nat hB
    have hA := hb.area
    have HM : Hid (∀ k ∈ holesL ⟨w, h, s⟩, k < w * h ∧ s.testBit k = true) := fun k hk => bits_mem.1 (by rwa [holesL_yes hb] at hk)
    have hle := holesL_le ⟨w, h, s⟩
    go_enter Try.func123, Try.ntmps123
    go_wp2_with fail
    refine (iHolesOf_ ⟨w, h, s⟩ _).mono ?_
    rintro e W1 ⟨A1, c1, rfl, rd1, hb1⟩
    generalize holesL ⟨w, h, s⟩ = hs at H HM hle rd1 ⊢
    simp only [Int.toNat_natCast] at H
    obtain ⟨hc, hf⟩ := bcell hb1
    have hz : W.heap.size + 2 ≤ W1.heap.size := by have := hb1.size; simpa using this
    have b0 : W1.cell? ⟨W.heap.size, 0, none⟩ = some (.int .i64 w) := by rw [hc _ _ (by simp; omega)]; simp [go_sem]
    have b1 : W1.cell? ⟨W.heap.size, 1, none⟩ = some (.int .i64 h) := by rw [hc _ _ (by simp; omega)]; simp [go_sem]
    have b2 : W1.cell? ⟨W.heap.size, 2, none⟩ = some (.int .i64 s) := by rw [hc _ _ (by simp; omega)]; simp [go_sem]
    have hW1 : Below W.heap.size W W1 := below_step (((Below.refl _ _).alloc (Nat.le_refl _) _).alloc (by simp) _) hb1 (by simp; omega)
    have hsz0 : W.heap.size < W1.heap.size := by omega
    clear hc hf hb1
    go_wp2_with fail
    go_loopw [3, 13] (fun lv iv wr => ∃ (i : Nat) (A : Option Addr) (c : Nat), i ≤ hs.length ∧ iv = .int .i64 i ∧ lv = .slice A (linesN w h s (hs.take i)).length c ∧ Slab wr W1.heap.size (some ⟨W.heap.size + 1, 0, none⟩) 34 3 (.slice A (linesN w h s (hs.take i)).length c) (linesN w h s (hs.take i)).length (flat (linesN w h s (hs.take i))) ∧ Below W1.heap.size W1 wr) (fun lv iv _ => hs.length - (intOf iv).toNat)
    case atStart => exact ⟨0, _, _, Nat.zero_le _, rfl, rfl, slab_zero _ _ _ _ _, Below.refl _ _⟩
    case round =>
      obtain ⟨i, A, c, hi0, rfl, rfl, hsl, hw⟩ := hrel
      have HSL := Lib.hid hsl
      clear hsl
      have c0 := (hw.cell (p := ⟨W.heap.size, 0, none⟩) hsz0).trans b0
      have c1' := (hw.cell (p := ⟨W.heap.size, 1, none⟩) hsz0).trans b1
      have c2' := (hw.cell (p := ⟨W.heap.size, 2, none⟩) hsz0).trans b2
      by_cases hlt : i < hs.length
      · have hx : hs[i]? = some hs[i] := List.getElem?_eq_getElem hlt
        generalize hs[i] = k at hx
        obtain ⟨hkl, hks⟩ := HM.out k (List.mem_of_getElem? hx)
        obtain ⟨bb, off, y, rfl, hbl, hy, h0⟩ := rd1.int (k := i) (by simpa [natL] using hlt)
        have hyx : y = (k : Int) := by
          rw [natL_get hx] at hy
          injection hy with hy
          exact hy.symm
        subst hyx
        have h0' := (hw.cell (p := ⟨bb, off + i, none⟩) hbl).trans h0
        have HT := Lib.hid (linesN_take (w := w) (h := h) (s := s) hx)
        have hl0 : (linesN w h s (hs.take i)).length ≤ 196 := by
          have := linesN_le w h s (hs.take i)
          simp at this; omega
        have RD1 := Lib.hid rd1
        clear hx hy h0 rd1
        generalize linesN w h s (hs.take i) = L at HSL HT hl0 ⊢
        have i0' : (0 : Int) ≤ (i : Int) := by omega
        have i1' : (i : Int) < (hs.length : Int) := by omega
        go_wp2_with fail
        go_loopw [3, 6] (fun lv mv wx => ∃ (m : Nat) (A : Option Addr) (c : Nat), m ≤ 4 ∧ mv = .int .i64 m ∧ lv = .slice A (L ++ waysL w h s k m).length c ∧ Slab wx W1.heap.size (some ⟨W.heap.size + 1, 0, none⟩) 34 3 (.slice A (L ++ waysL w h s k m).length c) (L ++ waysL w h s k m).length (flat (L ++ waysL w h s k m)) ∧ Below W1.heap.size W1 wx) (fun lv mv _ => 4 - (intOf mv).toNat)
        case atStart => exact ⟨0, A, c, by omega, rfl, by simp [waysL], by simpa [waysL] using HSL.out, hw⟩
        case round =>
          obtain ⟨m, A', c', hm, rfl, rfl, hsx, hwx⟩ := hrel
          obtain ⟨LL, hLL⟩ : ∃ LL, LL = L ++ waysL w h s k m := ⟨_, rfl⟩
          have hl1 : LL.length ≤ 200 := by
            have := ways_le w h s k m
            rw [hLL]; simp; omega
          rw [← hLL] at hsx ⊢
          have HLL := Lib.hid hLL
          have HSX := Lib.hid hsx
          clear hLL
          clear hsx HSL c0 c1' c2'
          have c0 := (hwx.cell (p := ⟨W.heap.size, 0, none⟩) hsz0).trans b0
          have c1' := (hwx.cell (p := ⟨W.heap.size, 1, none⟩) hsz0).trans b1
          have c2' := (hwx.cell (p := ⟨W.heap.size, 2, none⟩) hsz0).trans b2
          have hx0 := hwx.size
          by_cases hm4 : m < 4
          · go_wp2_with fail
            refine (beside_ ⟨w, h, s⟩ k m (by unfold I64; omega) hm4 _).mono ?_
            rintro e w2 ⟨rfl, hb2⟩
            have hw2 := hwx.trans (hb2.mono hx0)
            have hx2 := hw2.size
            have d0 := (hw2.cell (p := ⟨W.heap.size, 0, none⟩) hsz0).trans b0
            have d1 := (hw2.cell (p := ⟨W.heap.size, 1, none⟩) hsz0).trans b1
            have d2 := (hw2.cell (p := ⟨W.heap.size, 2, none⟩) hsz0).trans b2
            have HSX2 := Lib.hid (HSX.out.next hb2)
            have HNO := Lib.hid (line_no (way := m) hb hkl hks)
            have HYES := Lib.hid (line_yes (way := m) hb hkl hks)
            have hO := besI_bound (b := ⟨w, h, s⟩) (k := k) (way := m)
            clear c0 c1' c2' hb2 HSX
            generalize besI ⟨w, h, s⟩ k m = O at HNO HYES hO ⊢
            obtain ⟨hO1, hO2⟩ := hO
            go_wp2_with fail
            refine (beside_ ⟨w, h, s⟩ O m (by unfold I64; omega) hm4 _).mono ?_
            rintro e w3 ⟨rfl, hb3⟩
            have hw3 := hw2.trans (hb3.mono hx2)
            have hx3 := hw3.size
            have HSX3 := HSX2.out.next hb3
            have hT := besI_bound (b := ⟨w, h, s⟩) (k := O) (way := m)
            clear d0 d1 d2 hb3 HSX2
            generalize besI ⟨w, h, s⟩ O m = T at HNO HYES hT ⊢
            obtain ⟨hT1, hT2⟩ := hT
            by_cases hT0 : T < 0
            · have HX : Hid (L ++ waysL w h s k (m + 1) = LL) := Lib.hid (by rw [ways_no (HNO.out hT0), HLL.out])
              have HS3 := Lib.hid HSX3
              clear HNO HYES HSX3
              go_wp2
              go_roundw
              case rel => exact ⟨m + 1, A', c', by omega, by go_num, by rw [HX.out], by rw [HX.out]; exact HS3.out, hw3⟩
              case measure => simp [intOf]; omega
            · have HX : Hid (L ++ waysL w h s k (m + 1) = LL ++ [⟨k, O, T⟩]) := Lib.hid (by rw [ways_yes (HYES.out (by omega)), HLL.out, List.append_assoc])
              clear HNO HYES
              go_wp2_with (first | (at_builtin; refine wpList_append_slab _ rfl (.tmp 31) (.tmp 36) 24 rfl W1.heap.size (some ⟨W.heap.size + 1, 0, none⟩) 34 i0 _ 3 24 Try.underlying24 hi hz0 hz1 hz2 rfl (by decide) _ _ _ rfl (HSX3.alloc _) ⟨w3.heap.size, 0, none⟩ 1 1 [.int .i64 k, .int .i64 O, .int .i64 T] rfl rfl (cell_three_new _ _ _ _ _ rfl rfl rfl) (by intro u hu; simp at hu; rcases hu with rfl | rfl | rfl <;> rfl) (by omega) (by unfold maxLen; omega) (by omega) (by have := hw3.size; simp; omega) ?_; intro g cap wA ownA hbA))
              have HO := Lib.hid ownA
              have hwA : Below W1.heap.size W1 wA := (hw3.alloc hx3 _).trans hbA
              clear HSX3 ownA
              go_wp2
              go_roundw
              case rel => exact ⟨m + 1, some ⟨g, 0, none⟩, cap, by omega, by go_num, by rw [HX.out]; simp, .inl (by rw [HX.out, flat_append, List.length_append]; exact HO.out), hwA⟩
              case measure => simp [intOf]; omega
          · have e : m = 4 := by omega
            subst e
            go_wp2
            go_roundw
            case rel => exact ⟨i + 1, A', c', by omega, by go_num, by rw [HT.out, HLL.out], by rw [HT.out, ← HLL.out]; exact HSX.out, hwx⟩
            case measure => simp [intOf]; omega
      · have e : i = hs.length := by omega
        subst e
        go_wp2
        go_ret
        exact ⟨A, c, ret_slice (by rw [H.out, List.take_length]), by rw [H.out]; rw [List.take_length] at HSL; exact rd_of_slab HSL.out, below_next hW1 hw, HSL.out.lo (by omega) (by rintro a ⟨⟩; exact Nat.le_succ _)⟩
  · have HE : Hid (linesL b = []) := Lib.hid (linesL_no hB)
    have hh := holesL_no hB
    go_enter Try.func123, Try.ntmps123
    go_wp2_with fail
    refine (iHolesOf_ b _).mono ?_
    rintro e W1 ⟨A1, c1, rfl, rd1, hb1⟩
    rw [hh] at rd1
    rw [hh]
    have hW1 : Below W.heap.size W W1 := below_step (((Below.refl _ _).alloc (Nat.le_refl _) _).alloc (by simp) _) hb1 (by simp; omega)
    clear rd1 hb1 hh
    go_wp2_with fail
    go_loopw [3, 13] (fun lv iv wr => iv = .int .i64 0 ∧ lv = .slice (some ⟨W.heap.size + 1, 0, none⟩) 0 0 ∧ Below W.heap.size W wr) (fun _ _ _ => 0)
    case atStart => exact ⟨rfl, rfl, hW1⟩
    case round =>
      obtain ⟨rfl, rfl, hw⟩ := hrel
      go_wp2
      go_ret
      exact ⟨_, _, ret_slice (by rw [HE.out]; rfl), by rw [HE.out]; exact Rd.nil, hw, by rintro a ⟨⟩; exact Nat.le_succ _⟩
theorem iLinesOf_ (b : Ln) (W : World) :
    Calls Try.prog 123 #[.agg #[.int .i64 b.f, .int .i64 b.o, .int .i64 b.t]] W (GivesRd W (linesL b).length (flat (linesL b))) := (iLinesOfL_ b W).mono fun _ _ h => gives_rdL h
set_option maxHeartbeats 1000000 in
theorem sLinesOfL_ (b : Ln) (W : World) :
    Calls Try.prog 109 #[.agg #[.int .i64 b.f, .int .i64 b.o, .int .i64 b.t]] W (GivesRdL W (linesL b).length (flat (linesL b))) := by
  obtain ⟨i0, hi, hz0, hz1, hz2⟩ := info_parts infoLine
  have H := Lib.hid (linesL_holes b)
  rcases Bool.eq_false_or_eq_true (boardB b) with hB | hB
  · obtain ⟨w, h, s, rfl, hb⟩ := boardB_nat hB
    have hA := hb.area
    have HM : Hid (∀ k ∈ holesL ⟨w, h, s⟩, k < w * h ∧ s.testBit k = true) := fun k hk => bits_mem.1 (by rwa [holesL_yes hb] at hk)
    have hle := holesL_le ⟨w, h, s⟩
    go_enter Try.func109, Try.ntmps109
    go_wp2_with fail
    refine (sHolesOf_ ⟨w, h, s⟩ _).mono ?_
    rintro e W1 ⟨A1, c1, rfl, rd1, hb1⟩
    generalize holesL ⟨w, h, s⟩ = hs at H HM hle rd1 ⊢
    simp only [Int.toNat_natCast] at H
    obtain ⟨hc, hf⟩ := bcell hb1
    have hz : W.heap.size + 2 ≤ W1.heap.size := by have := hb1.size; simpa using this
    have b0 : W1.cell? ⟨W.heap.size, 0, none⟩ = some (.int .i64 w) := by rw [hc _ _ (by simp; omega)]; simp [go_sem]
    have b1 : W1.cell? ⟨W.heap.size, 1, none⟩ = some (.int .i64 h) := by rw [hc _ _ (by simp; omega)]; simp [go_sem]
    have b2 : W1.cell? ⟨W.heap.size, 2, none⟩ = some (.int .i64 s) := by rw [hc _ _ (by simp; omega)]; simp [go_sem]
    have hW1 : Below W.heap.size W W1 := below_step (((Below.refl _ _).alloc (Nat.le_refl _) _).alloc (by simp) _) hb1 (by simp; omega)
    have hsz0 : W.heap.size < W1.heap.size := by omega
    clear hc hf hb1
    go_wp2_with fail
    go_loopw [3, 5] (fun lv iv wr => ∃ (i : Nat) (A : Option Addr) (c : Nat), i ≤ hs.length ∧ iv = .int .i64 i ∧ lv = .slice A (linesN w h s (hs.take i)).length c ∧ Slab wr W1.heap.size (some ⟨W.heap.size + 1, 0, none⟩) 34 3 (.slice A (linesN w h s (hs.take i)).length c) (linesN w h s (hs.take i)).length (flat (linesN w h s (hs.take i))) ∧ Below W1.heap.size W1 wr) (fun lv iv _ => hs.length - (intOf iv).toNat)
    case atStart => exact ⟨0, _, _, Nat.zero_le _, rfl, rfl, slab_zero _ _ _ _ _, Below.refl _ _⟩
    case round =>
      obtain ⟨i, A, c, hi0, rfl, rfl, hsl, hw⟩ := hrel
      have HSL := Lib.hid hsl
      clear hsl
      have c0 := (hw.cell (p := ⟨W.heap.size, 0, none⟩) hsz0).trans b0
      have c1' := (hw.cell (p := ⟨W.heap.size, 1, none⟩) hsz0).trans b1
      have c2' := (hw.cell (p := ⟨W.heap.size, 2, none⟩) hsz0).trans b2
      by_cases hlt : i < hs.length
      · have hx : hs[i]? = some hs[i] := List.getElem?_eq_getElem hlt
        generalize hs[i] = k at hx
        obtain ⟨hkl, hks⟩ := HM.out k (List.mem_of_getElem? hx)
        obtain ⟨bb, off, y, rfl, hbl, hy, h0⟩ := rd1.int (k := i) (by simpa [natL] using hlt)
        have hyx : y = (k : Int) := by
          rw [natL_get hx] at hy
          injection hy with hy
          exact hy.symm
        subst hyx
        have h0' := (hw.cell (p := ⟨bb, off + i, none⟩) hbl).trans h0
        have HT := Lib.hid (linesN_take (w := w) (h := h) (s := s) hx)
        have hl0 : (linesN w h s (hs.take i)).length ≤ 196 := by
          have := linesN_le w h s (hs.take i)
          simp at this; omega
        have RD1 := Lib.hid rd1
        clear hx hy rd1
        generalize linesN w h s (hs.take i) = L at HSL HT hl0 ⊢
        have i0' : (0 : Int) ≤ (i : Int) := by omega
        have i1' : (i : Int) < (hs.length : Int) := by omega
        go_wp2_with fail
        go_loopw [3, 6] (fun lv mv wx => ∃ (m : Nat) (A : Option Addr) (c : Nat), m ≤ 4 ∧ mv = .int .i64 m ∧ lv = .slice A (L ++ waysL w h s k m).length c ∧ Slab wx W1.heap.size (some ⟨W.heap.size + 1, 0, none⟩) 34 3 (.slice A (L ++ waysL w h s k m).length c) (L ++ waysL w h s k m).length (flat (L ++ waysL w h s k m)) ∧ Below W1.heap.size W1 wx) (fun lv mv _ => 4 - (intOf mv).toNat)
        case atStart => exact ⟨0, A, c, by omega, rfl, by simp [waysL], by simpa [waysL] using HSL.out, hw⟩
        case round =>
          obtain ⟨m, A', c', hm, rfl, rfl, hsx, hwx⟩ := hrel
          obtain ⟨LL, hLL⟩ : ∃ LL, LL = L ++ waysL w h s k m := ⟨_, rfl⟩
          have hl1 : LL.length ≤ 200 := by
            have := ways_le w h s k m
            rw [hLL]; simp; omega
          rw [← hLL] at hsx ⊢
          have HLL := Lib.hid hLL
          have HSX := Lib.hid hsx
          clear hLL
          clear hsx HSL c0 c1' c2' h0'
          have h0x := (hwx.cell (p := ⟨bb, off + i, none⟩) hbl).trans h0
          have c0 := (hwx.cell (p := ⟨W.heap.size, 0, none⟩) hsz0).trans b0
          have c1' := (hwx.cell (p := ⟨W.heap.size, 1, none⟩) hsz0).trans b1
          have c2' := (hwx.cell (p := ⟨W.heap.size, 2, none⟩) hsz0).trans b2
          have hx0 := hwx.size
          by_cases hm4 : m < 4
          · have hbz : bb < wr.heap.size := by omega
            have hzW : W.heap.size < wr.heap.size := by omega
            have hlen : (natL hs).length = hs.length := natL_length hs
            have hc : ∀ (a : Addr) (p : Regrown) (W : World), a.block < W.heap.size → (grow (redrawn W p.d) p.os).cell? a = W.cell? a := fun a p W h => (below_regrown W p.d p.os).cell h
            by_cases hO : bes w h s k m < 0
            · have HX : Hid (L ++ waysL w h s k (m + 1) = LL) := Lib.hid (by rw [ways_no (lineAt_noA hO), HLL.out])
              have hB1 := (bes_bound (k := k) (way := m) hb).1
              go_wp2_with fail
              refine wp_region_quiet_below (by kernel_rfl) (by kernel_rfl) ?_
              repeat (go_big_quiet_step (first | (go_at_call 152; exact Calls.regrown_of (l03Step_ w h s k m hb (by omega) hm4 _))))
              refine wpQuiet_nil ?_
              intro w2 hw2
              obtain ⟨p2, hp2⟩ := hw2
              have hb2 := of_rg hp2
              clear hp2 p2
              generalize bes w h s k m = O at hO hB1 ⊢
              have HS3 := Lib.hid (HSX.out.next hb2)
              have hw3 := hwx.trans (hb2.mono hx0)
              clear hc
              go_wp2
              go_roundw
              case rel => exact ⟨m + 1, A', c', by omega, by go_num, by rw [HX.out], by rw [HX.out]; exact HS3.out, hw3⟩
              case measure => simp [intOf]; omega
            · obtain ⟨q, hq, q1, q2, -⟩ := bes_hole (k := k) (way := m) hb (by omega)
              go_wp2_with fail
              refine wp_region_quiet_below (by kernel_rfl) (by kernel_rfl) ?_
              repeat (go_big_quiet_step (first | (go_at_call 152; exact Calls.regrown_of (isI_ (l03Step_ w h s k m hb (by omega) hm4 _) hq))))
              refine wpQuiet_nil ?_
              intro w2 hw2
              obtain ⟨p2, hp2⟩ := hw2
              have hb2 := of_rg hp2
              clear hp2 p2
              have hw2 := hwx.trans (hb2.mono hx0)
              have hx2 := hw2.size
              have d0 := (hw2.cell (p := ⟨W.heap.size, 0, none⟩) hsz0).trans b0
              have d1 := (hw2.cell (p := ⟨W.heap.size, 1, none⟩) hsz0).trans b1
              have d2 := (hw2.cell (p := ⟨W.heap.size, 2, none⟩) hsz0).trans b2
              have HSX2 := Lib.hid (HSX.out.next hb2)
              have HQ := Lib.hid hq
              have hT := bes_bound (k := q) (way := m) hb
              clear c0 c1' c2' hb2 HSX hc h0x hq hO
              go_wp2_with fail
              refine (l03Step_ w h s q m hb (by omega) hm4 _).mono ?_
              rintro e w3 ⟨rfl, hb3⟩
              have hw3 := hw2.trans (hb3.mono hx2)
              have hx3 := hw3.size
              have h03 := (hw3.cell (p := ⟨bb, off + i, none⟩) hbl).trans h0
              have HSX3 := HSX2.out.next hb3
              obtain ⟨hT1, hT2⟩ := hT
              clear d0 d1 d2 hb3 HSX2
              by_cases hT0 : bes w h s q m < 0
              · have HX : Hid (L ++ waysL w h s k (m + 1) = LL) := Lib.hid (by rw [ways_no (lineAt_noB HQ.out hT0), HLL.out])
                have HS3 := Lib.hid HSX3
                generalize bes w h s q m = T at hT0 hT1 hT2 ⊢
                clear HSX3
                go_wp2
                go_roundw
                case rel => exact ⟨m + 1, A', c', by omega, by go_num, by rw [HX.out], by rw [HX.out]; exact HS3.out, hw3⟩
                case measure => simp [intOf]; omega
              · obtain ⟨r, hr, -⟩ := bes_hole (k := q) (way := m) hb (by omega)
                have HX : Hid (L ++ waysL w h s k (m + 1) = LL ++ [⟨k, q, r⟩]) := Lib.hid (by rw [ways_yes (lineAt_yes HQ.out hr), HLL.out, List.append_assoc])
                rw [hr] at hT1 hT2 ⊢
                clear hT0 hr
                go_wp2_with (first | (at_builtin; refine wpList_append_slab _ rfl (.tmp 37) (.tmp 45) 24 rfl W1.heap.size (some ⟨W.heap.size + 1, 0, none⟩) 34 i0 _ 3 24 Try.underlying24 hi hz0 hz1 hz2 rfl (by decide) _ _ _ rfl (HSX3.alloc _) ⟨w3.heap.size, 0, none⟩ 1 1 [.int .i64 k, .int .i64 q, .int .i64 r] rfl rfl (cell_three_new _ _ _ _ _ rfl rfl rfl) (by intro u hu; simp at hu; rcases hu with rfl | rfl | rfl <;> rfl) (by omega) (by unfold maxLen; omega) (by omega) (by have := hw3.size; simp; omega) ?_; intro g cap wA ownA hbA))
                have HO := Lib.hid ownA
                have hwA : Below W1.heap.size W1 wA := (hw3.alloc hx3 _).trans hbA
                clear HSX3 ownA
                go_wp2
                go_roundw
                case rel => exact ⟨m + 1, some ⟨g, 0, none⟩, cap, by omega, by go_num, by rw [HX.out]; simp, .inl (by rw [HX.out, flat_append, List.length_append]; exact HO.out), hwA⟩
                case measure => simp [intOf]; omega
          · have e : m = 4 := by omega
            subst e
            go_wp2
            go_roundw
            case rel => exact ⟨i + 1, A', c', by omega, by go_num, by rw [HT.out, HLL.out], by rw [HT.out, ← HLL.out]; exact HSX.out, hwx⟩
            case measure => simp [intOf]; omega
      · have e : i = hs.length := by omega
        subst e
        go_wp2
        go_ret
        exact ⟨A, c, ret_slice (by rw [H.out, List.take_length]), by rw [H.out]; rw [List.take_length] at HSL; exact rd_of_slab HSL.out, below_next hW1 hw, HSL.out.lo (by omega) (by rintro a ⟨⟩; exact Nat.le_succ _)⟩
  · have HE : Hid (linesL b = []) := Lib.hid (linesL_no hB)
    have hh := holesL_no hB
    go_enter Try.func109, Try.ntmps109
    go_wp2_with fail
    refine (sHolesOf_ b _).mono ?_
    rintro e W1 ⟨A1, c1, rfl, rd1, hb1⟩
    rw [hh] at rd1
    rw [hh]
    have hW1 : Below W.heap.size W W1 := below_step (((Below.refl _ _).alloc (Nat.le_refl _) _).alloc (by simp) _) hb1 (by simp; omega)
    clear rd1 hb1 hh
    go_wp2_with fail
    go_loopw [3, 5] (fun lv iv wr => iv = .int .i64 0 ∧ lv = .slice (some ⟨W.heap.size + 1, 0, none⟩) 0 0 ∧ Below W.heap.size W wr) (fun _ _ _ => 0)
    case atStart => exact ⟨rfl, rfl, hW1⟩
    case round =>
      obtain ⟨rfl, rfl, hw⟩ := hrel
      go_wp2
      go_ret
      exact ⟨_, _, ret_slice (by rw [HE.out]; rfl), by rw [HE.out]; exact Rd.nil, hw, by rintro a ⟨⟩; exact Nat.le_succ _⟩
theorem sLinesOf_ (b : Ln) (W : World) :
    Calls Try.prog 109 #[.agg #[.int .i64 b.f, .int .i64 b.o, .int .i64 b.t]] W (GivesRd W (linesL b).length (flat (linesL b))) := (sLinesOfL_ b W).mono fun _ _ h => gives_rdL h
end Go.Proofs.Ytbcgokpamhgabaa

/- The contracts of l01PickInt, l02Any, l18Rows. -/
import Derived.Test.YtbcgokpamhgabaaChecked
import Derived.Test.YtbcgokpamhgabaaMem
import Derived.Tactics
import Derived.Tactics2
import Derived.WalkKit
import Derived.WalkSpells
import Derived.WalkLawsBesides
import Derived.Deep.QuietTactic
import Derived.BigQuiet
import Derived.BigGuardPart
import Derived.Lib.QuietBelow
import Derived.OwnWalk
import Derived.KernelRfl
import Derived.Test.YtbcgokpamhgabaaDrawN
import Derived.Test.YtbcgokpamhgabaaRowS
set_option linter.unusedVariables false
set_option maxRecDepth 20000
namespace Go.Proofs.Ytbcgokpamhgabaa
open Go.RowKit Go.Sort

theorem l01PickInt_ (g : Nat) (xs : List Int) (n : Nat) (hn : xs.length = n) (A : Option Addr) (c : Nat) (w : World) (hC : Cur 129 g w) (rd : RdC w g w.heap.size A (ints xs)) (h0 : 0 < n) (h1 : n ≤ 256) (ha : ∀ x ∈ xs, I64 x) :
    Calls Try.prog 163 #[.pointer (some ⟨g, 0, none⟩), .slice A n c] w fun e w' => ∃ v : Int, I64 v ∧ e = .returned (.int .i64 v) ∧ Cur 129 g w' ∧ Cb w.heap.size g w w' := by
  subst hn
  have HA := Lib.hid ha
  have RD := Lib.hid rd
  clear ha rd
  go_enter Try.func163, Try.ntmps163
  go_wp2_with fail
  refine (l01Below_ g (xs.length : Int) (by unfold I64; omega) _ hC).mono ?_
  rintro e w1 ⟨r, hr, rfl, hC1, hb1⟩
  have hr1 : r < xs.length := by omega
  have hr2 : (r : Int) < (xs.length : Int) := by omega
  have hr3 : (0 : Int) ≤ (r : Int) := by omega
  have RD1 := RD.out.cb hb1
  obtain ⟨bb, off, x, rfl, hbl, hx, x0⟩ := RD1.rd.int hr1
  have hxi := HA.out x (List.mem_of_getElem? hx)
  have HB := Lib.hid hb1
  clear hr hx RD RD1 hb1
  go_wp2
  go_ret
  exact ⟨x, hxi, rfl, hC1, HB.out⟩
theorem rd_lit' (w : World) (xs : List Int) (t : TypeId) : ∀ j u, (ints xs)[j]? = some u → (w.alloc (.cells (ints xs).toArray t)).cell? ⟨w.heap.size, 0 + j, none⟩ = some u := fun j u hu => by
  rw [cell_of_row _ w.heap.size (0 + j) (ints xs).toArray t (0, 0) (heap_alloc_new w _), Nat.zero_add]
  simpa using hu
theorem rdc_lit {w : World} {g : Nat} (hg : g < w.heap.size) (xs : List Int) (cs : Array Value) (t : TypeId) (e : cs = (ints xs).toArray) : RdC (w.alloc (.cells cs t)) g (w.alloc (.cells cs t)).heap.size (some ⟨w.heap.size, 0, none⟩) (ints xs) := fun _ => by
  subst e
  exact ⟨_, 0, rfl, by omega, by simp, rd_lit' w xs t⟩
/-- A board of whatever numbers, drawn. -/
def GivesAny (T : TypeId) (g : Nat) (w : World) (e : Ending) (w' : World) : Prop :=
  ∃ b : Ln, e = .returned (.agg #[.int .i64 b.f, .int .i64 b.o, .int .i64 b.t]) ∧ Cur T g w' ∧ Cb w.heap.size g w w'
set_option maxHeartbeats 4000000 in
theorem l02Any_ (g : Nat) (W : World) (hC : Cur 129 g W) :
    Calls Try.prog 155 #[.pointer (some ⟨g, 0, none⟩)] W (GivesAny 129 g W) := by
  have hgl := hC.lt
  go_enter Try.func155, Try.ntmps155
  go_upto_region 2 with (go_at_call 101; refine (l02Small_ g _ (hC.alloc _)).mono ?_; rintro e w1 ⟨x, y, s, hbd, -, rfl, hC1, hb1⟩)
  have HX2 := Lib.hid (((box_new 42 W 0 0 0).cb hb1 hgl).alloc (.cells #[.int .i64 x, .int .i64 y, .int .i64 s] 42))
  have HW1 : Cb W.heap.size g W w1 := ((Cb.refl _ _ _).alloc (Nat.le_refl _) _).trans (hb1.mono (by simp))
  have HW2 := Lib.hid (HW1.alloc HW1.size (.cells #[.int .i64 x, .int .i64 y, .int .i64 s] 42))
  have HB2 := Lib.hid (box_new 42 w1 x y s)
  have hC2 := hC1.alloc (.cells #[.int .i64 x, .int .i64 y, .int .i64 s] 42)
  have hgB : g < w1.heap.size := hC1.lt
  have hWB : W.heap.size < w1.heap.size := by have := hb1.size; simp at this; omega
  clear hbd hb1 HW1 hC1
  generalize w1.alloc (.cells #[.int .i64 x, .int .i64 y, .int .i64 s] 42) = u1 at *
  generalize w1.heap.size = B at *
  have hWB' : W.heap.size ≤ B := by omega
  have hne : ¬ W.heap.size = B := by omega
  have hne' : ¬ B = W.heap.size := by omega
  go_wp2_with fail
  refine (l01Below_ g 10 (by unfold I64; omega) _ hC2).mono ?_
  rintro e w3 ⟨r, hr, rfl, hC3, hb3⟩
  have HX3 := Lib.hid (HX2.out.cb hb3 hgl)
  have HB3 := Lib.hid (HB2.out.cb hb3 hgB)
  have HW3 := Lib.hid (HW2.out.next hb3)
  clear hb3 HX2 HB2 HW2 hC2
  by_cases r0 : r = 0
  · subst r0
    go_wp2_with fail
    refine (l01PickInt_ g [0, 1, 7, 8, -1] 5 rfl _ _ _ (hC3.alloc _) (rdc_lit hC3.lt [0, 1, 7, 8, -1] _ _ rfl) (by omega) (by omega) (by intro v hv; simp at hv; unfold I64; omega)).mono ?_
    rintro e w4 ⟨v, hv, rfl, hC4, hb4⟩
    have HX5 := Lib.hid ((HX3.out.alloc _).cb hb4 hgl)
    have HB5 := Lib.hid ((HB3.out.alloc _).cb hb4 hgB)
    have HW5 := Lib.hid ((HW3.out.alloc HW3.out.size _).next hb4)
    obtain ⟨c0, c1, c2⟩ := HB5.out.cells
    obtain ⟨f0, f1, f2⟩ := HB5.out.soft
    have hlb := HB5.out.lt
    clear hb4 HX3 HB3 HW3 hr
    go_upto_region 9 with fail
    have HX9 := Lib.hid (HX5.out.far (p := ⟨B, 0, none⟩) hne' (.int .i64 v))
    have HB9 := Lib.hid (HB5.out.set0 v)
    have HW9 := Lib.hid (HW5.out.setCell (p := ⟨B, 0, none⟩) (.inl hWB') (.int .i64 v))
    have hC9 := hC4.setCell (p := ⟨B, 0, none⟩) hgB (.int .i64 v)
    clear c0 c1 c2 f0 f1 f2 HX5 HB5 HW5 hlb
    generalize w4.setCell ⟨B, 0, none⟩ (.int .i64 v) = w9 at *
    obtain ⟨y0, y1, y2⟩ := HX9.out.cells
    obtain ⟨f0, f1, f2⟩ := HX9.out.soft
    obtain ⟨c0, c1, c2⟩ := HB9.out.cells
    have hlx9 := HX9.out.lt
    have hlb9 := HB9.out.lt
    go_wp2
    refine bodyPost_ret (v := .agg #[.int .i64 v, .int .i64 y, .int .i64 s]) (by simp [results, Try.results155, go_sem, *]) rfl ⟨⟨v, y, s⟩, rfl, ?_, ?_⟩
    · exact ((hC9.setCell (by simpa using hgl) _).setCell (by simpa using hgl) _).setCell (by simpa using hgl) _
    · exact ((HW9.out.setCell (.inl (by simp)) _).setCell (.inl (by simp)) _).setCell (.inl (by simp)) _
  · by_cases r1 : r = 1
    · subst r1
      go_wp2_with fail
      refine (l01PickInt_ g [0, -1, 1, 562949953421312, 9223372036854775807] 5 rfl _ _ _ (hC3.alloc _) (rdc_lit hC3.lt [0, -1, 1, 562949953421312, 9223372036854775807] _ _ rfl) (by omega) (by omega) (by intro v hv; simp at hv; unfold I64; omega)).mono ?_
      rintro e w4 ⟨v, hv, rfl, hC4, hb4⟩
      have HX5 := Lib.hid ((HX3.out.alloc _).cb hb4 hgl)
      have HB5 := Lib.hid ((HB3.out.alloc _).cb hb4 hgB)
      have HW5 := Lib.hid ((HW3.out.alloc HW3.out.size _).next hb4)
      obtain ⟨c0, c1, c2⟩ := HB5.out.cells
      obtain ⟨f0, f1, f2⟩ := HB5.out.soft
      have hlb := HB5.out.lt
      clear hb4 HX3 HB3 HW3 hr r0
      go_upto_region 9 with fail
      have HX9 := Lib.hid (HX5.out.far (p := ⟨B, 2, none⟩) hne' (.int .i64 v))
      have HB9 := Lib.hid (HB5.out.set2 v)
      have HW9 := Lib.hid (HW5.out.setCell (p := ⟨B, 2, none⟩) (.inl hWB') (.int .i64 v))
      have hC9 := hC4.setCell (p := ⟨B, 2, none⟩) hgB (.int .i64 v)
      clear c0 c1 c2 f0 f1 f2 HX5 HB5 HW5 hlb
      generalize w4.setCell ⟨B, 2, none⟩ (.int .i64 v) = w9 at *
      obtain ⟨y0, y1, y2⟩ := HX9.out.cells
      obtain ⟨f0, f1, f2⟩ := HX9.out.soft
      obtain ⟨c0, c1, c2⟩ := HB9.out.cells
      have hlx9 := HX9.out.lt
      have hlb9 := HB9.out.lt
      go_wp2
      refine bodyPost_ret (v := .agg #[.int .i64 x, .int .i64 y, .int .i64 v]) (by simp [results, Try.results155, go_sem, *]) rfl ⟨⟨x, y, v⟩, rfl, ?_, ?_⟩
      · exact ((hC9.setCell (by simpa using hgl) _).setCell (by simpa using hgl) _).setCell (by simpa using hgl) _
      · exact ((HW9.out.setCell (.inl (by simp)) _).setCell (.inl (by simp)) _).setCell (.inl (by simp)) _
    · have q0 : ((r : Int) == 0) = false := by simpa using r0
      have q1 : ((r : Int) == 1) = false := by simp; omega
      by_cases r2 : r = 2
      · subst r2
        go_wp2_with fail
        refine (sCrossBoard_ _).mono ?_
        rintro e w4 ⟨a, b, d, hbd, -, rfl, hb4⟩
        have HX5 := Lib.hid (HX3.out.next hb4)
        have HB5 := Lib.hid (HB3.out.next hb4)
        have HW5 := Lib.hid (HW3.out.next (cb_of hb4 g))
        have hC4 := hC3.next hb4
        obtain ⟨c0, c1, c2⟩ := HB5.out.cells
        obtain ⟨f0, f1, f2⟩ := HB5.out.soft
        have hlb := HB5.out.lt
        clear hb4 HX3 HB3 HW3 hr r0 r1 q0 q1 hbd
        go_upto_region 9 with fail
        have HX9 := Lib.hid (((HX5.out.far (p := ⟨B, 0, none⟩) hne' (.int .i64 a)).far (p := ⟨B, 1, none⟩) hne' (.int .i64 b)).far (p := ⟨B, 2, none⟩) hne' (.int .i64 d))
        have HB9 := Lib.hid (HB5.out.set3 a b d)
        have HW9 := Lib.hid (((HW5.out.setCell (p := ⟨B, 0, none⟩) (.inl hWB') (.int .i64 a)).setCell (p := ⟨B, 1, none⟩) (.inl hWB') (.int .i64 b)).setCell (p := ⟨B, 2, none⟩) (.inl hWB') (.int .i64 d))
        have hC9 := ((hC4.setCell (p := ⟨B, 0, none⟩) hgB (.int .i64 a)).setCell (p := ⟨B, 1, none⟩) hgB (.int .i64 b)).setCell (p := ⟨B, 2, none⟩) hgB (.int .i64 d)
        clear c0 c1 c2 f0 f1 f2 HX5 HB5 HW5 hlb
        generalize ((w4.setCell ⟨B, 0, none⟩ (.int .i64 a)).setCell ⟨B, 1, none⟩ (.int .i64 b)).setCell ⟨B, 2, none⟩ (.int .i64 d) = w9 at *
        obtain ⟨y0, y1, y2⟩ := HX9.out.cells
        obtain ⟨f0, f1, f2⟩ := HX9.out.soft
        obtain ⟨c0, c1, c2⟩ := HB9.out.cells
        have hlx9 := HX9.out.lt
        have hlb9 := HB9.out.lt
        go_wp2
        refine bodyPost_ret (v := .agg #[.int .i64 a, .int .i64 b, .int .i64 d]) (by simp [results, Try.results155, go_sem, *]) rfl ⟨⟨a, b, d⟩, rfl, ?_, ?_⟩
        · exact ((hC9.setCell (by simpa using hgl) _).setCell (by simpa using hgl) _).setCell (by simpa using hgl) _
        · exact ((HW9.out.setCell (.inl (by simp)) _).setCell (.inl (by simp)) _).setCell (.inl (by simp)) _
      · have q2 : ((r : Int) == 2) = false := by simp; omega
        have HX9 := HX3
        have HB9 := HB3
        have HW9 := HW3
        have hC9 := hC3
        clear HX3 HB3 HW3 hC3 hr r0 r1 r2
        obtain ⟨y0, y1, y2⟩ := HX9.out.cells
        obtain ⟨f0, f1, f2⟩ := HX9.out.soft
        obtain ⟨c0, c1, c2⟩ := HB9.out.cells
        have hlx9 := HX9.out.lt
        have hlb9 := HB9.out.lt
        go_wp2
        refine bodyPost_ret (v := .agg #[.int .i64 x, .int .i64 y, .int .i64 s]) (by simp [results, Try.results155, go_sem, *]) rfl ⟨⟨x, y, s⟩, rfl, ?_, ?_⟩
        · exact ((hC9.setCell (by simpa using hgl) _).setCell (by simpa using hgl) _).setCell (by simpa using hgl) _
        · exact ((HW9.out.setCell (.inl (by simp)) _).setCell (.inl (by simp)) _).setCell (.inl (by simp)) _
/-- A board, a hole, a direction, drawn. -/
def GivesRows3 (T : TypeId) (g : Nat) (w : World) (e : Ending) (w' : World) : Prop :=
  ∃ (b : Ln) (k way : Nat), k ≤ 100 ∧ way ≤ 3 ∧ e = .returned (.tuple #[.agg #[.int .i64 b.f, .int .i64 b.o, .int .i64 b.t], .int .i64 k, .int .i64 way]) ∧ Cur T g w' ∧ Cb w.heap.size g w w'
theorem sRectangle_3 (w : Nat) (h1 : 1 ≤ w) (h2 : w ≤ 7) (W : World) :
    Calls Try.prog 36 #[.int .i64 w, .int .i64 3] W fun e W' => e = .returned (.agg #[.int .i64 w, .int .i64 3, .int .i64 (fullN (w * 3) : Nat)]) ∧ Below W.heap.size W W' :=
  sRectangle_ w 3 h1 h2 (by omega) (by omega) W
set_option maxHeartbeats 4000000 in
theorem l18Rows_ (g : Nat) (W : World) (hC : Cur 129 g W) :
    Calls Try.prog 117 #[.pointer (some ⟨g, 0, none⟩)] W (GivesRows3 129 g W) := by
  have hgl := hC.lt
  go_enter Try.func117, Try.ntmps117
  go_wp2_with fail
  refine (l01Below_ g 3 (by unfold I64; omega) _ (hC.alloc _)).mono ?_
  rintro e w1 ⟨r, hr, rfl, hC1, hb1⟩
  have HX1 := Lib.hid ((box_new 42 W 0 0 0).cb hb1 hgl)
  have hw1 : Cb W.heap.size g W w1 := ((Cb.refl _ _ _).alloc (Nat.le_refl _) _).trans (hb1.mono (by simp))
  have HW1 := Lib.hid hw1
  have hr1 : (r : Int) ≤ 2 := by omega
  obtain ⟨x, hx⟩ : ∃ x : Nat, (3 : Int) + (r : Int) = (x : Int) := ⟨3 + r, by omega⟩
  have hx1 : (3 : Int) ≤ (x : Int) := by omega
  have hx2 : (x : Int) ≤ 5 := by omega
  clear hr hb1 hw1
  go_wp2_with fail
  refine (sRectangle_3 x (by omega) (by omega) _).mono ?_
  rintro e w2 ⟨rfl, hb2⟩
  clear hx hr1
  have hS : W.heap.size < w2.heap.size := Nat.lt_of_lt_of_le HX1.out.lt hb2.size
  obtain ⟨s, hs⟩ : ∃ s, fullN (x * 3) = s := ⟨_, rfl⟩
  rw [hs]
  have HX3 := Lib.hid ((HX1.out.next hb2).alloc (.cells #[.int .i64 x, .int .i64 3, .int .i64 s] 42))
  have HB3 := Lib.hid (box_new 42 w2 x 3 s)
  have HW3 := Lib.hid ((HW1.out.next (cb_of hb2 g)).alloc (Nat.le_of_lt hS) (.cells #[.int .i64 x, .int .i64 3, .int .i64 s] 42))
  have hC3 := (hC1.next hb2).alloc (.cells #[.int .i64 x, .int .i64 3, .int .i64 s] 42)
  have hgB : g < w2.heap.size := by omega
  clear hb2 HX1 HW1 hC1 hs
  go_upto_region 2 with fail
  generalize w2.alloc (.cells #[.int .i64 x, .int .i64 3, .int .i64 s] 42) = u2 at *
  generalize w2.heap.size = B at *
  obtain ⟨c0, c1, c2⟩ := HB3.out.cells
  go_cut [6] (fun v wc => ∃ k : Nat, v = .int .i64 k ∧ k ≤ 100 ∧ Cur 129 g wc ∧ Box 42 wc W.heap.size 0 0 0 ∧ Box 42 wc B x 3 s ∧ Cb W.heap.size g W wc)
  case first =>
    go_region_held3 (fun w' => w'.cell? ⟨B, 0, none⟩ = some (.int .i64 x)) (first | exact c0) (first
      | (go_at_call 114; refine (l01Below_ g (x : Int) (by unfold I64; omega) _ hC3.drew).mono ?_; rintro e w4 ⟨j, hj, rfl, hC4, hb4⟩; have hj' : j ≤ 5 := (by omega); have hj2 : IntKind.i64.wrap ((x : Int) + (j : Int)) = ((x + j : Nat) : Int) := (by rw [IntKind.wrap_i64]; omega); have HX4 := Lib.hid (HX3.out.drew.cb hb4 hgl); have HB4 := Lib.hid (HB3.out.drew.cb hb4 hgB); have HW4 := Lib.hid (HW3.out.drew.next hb4); clear c0 c1 c2 hb4 hj; obtain ⟨c0, c1, c2⟩ := HB4.out.cells))
    all_goals
      go_wp2_with fail
      go_meet
      exact ⟨x + j, by first | rfl | rw [hj2], by omega, hC4, HX4.out, HB4.out, HW4.out⟩
  case rest =>
    obtain ⟨k, rfl, hk, hC4, hx4, hb4, hw4⟩ := hcut
    have HX4 := Lib.hid hx4
    have HB4 := Lib.hid hb4
    have HW4 := Lib.hid hw4
    clear hx4 hb4 hw4 HX3 HB3 HW3 c0 c1 c2 hC3
    go_wp2_with fail
    refine (l01Below_ g 4 (by unfold I64; omega) _ hC4).mono ?_
    rintro e w5 ⟨way, hway, rfl, hC5, hb5⟩
    have HX5 := Lib.hid (HX4.out.cb hb5 hgl)
    have HB5 := Lib.hid (HB4.out.cb hb5 hgB)
    have HW5 := Lib.hid (HW4.out.next hb5)
    clear hb5 HX4 HB4 HW4 hC4
    go_wp2_with fail
    refine (l01Once_ g 4 (by unfold I64; omega) _ hC5).mono ?_
    rintro e w6 ⟨t, rfl, hC6, hb6⟩
    have HX6 := Lib.hid (HX5.out.cb hb6 hgl)
    have HB6 := Lib.hid (HB5.out.cb hb6 hgB)
    have HW6 := Lib.hid (HW5.out.next hb6)
    clear hb6 HX5 HB5 HW5 hC5
    cases t with
    | true =>
      go_wp2_with fail
      refine (l02Any_ g _ hC6).mono ?_
      rintro e w7 ⟨b, rfl, hC7, hb7⟩
      have HX7 := Lib.hid (HX6.out.cb hb7 hgl)
      have HW7 := Lib.hid (HW6.out.next hb7)
      clear hb7 HX6 HB6 HW6
      go_wp2_with fail
      refine (l01Below_ g 16 (by unfold I64; omega) _ hC7).mono ?_
      rintro e w8 ⟨k2, hk2, rfl, hC8, hb8⟩
      have HX8 := Lib.hid (HX7.out.cb hb8 hgl)
      have HW8 := Lib.hid (HW7.out.next hb8)
      obtain ⟨y0, y1, y2⟩ := HX8.out.cells
      obtain ⟨f0, f1, f2⟩ := HX8.out.soft
      have hlx8 := HX8.out.lt
      clear hb8 HX7 HW7
      go_wp2
      refine bodyPost_ret (v := .tuple #[.agg #[.int .i64 b.f, .int .i64 b.o, .int .i64 b.t], .int .i64 k2, .int .i64 way]) (by simp [results, Try.results117, go_sem, *]) rfl ⟨b, k2, way, by omega, by omega, rfl, ?_, ?_⟩
      · exact ((hC8.setCell (by simpa using hgl) _).setCell (by simpa using hgl) _).setCell (by simpa using hgl) _
      · exact ((HW8.out.setCell (.inl (by simp)) _).setCell (.inl (by simp)) _).setCell (.inl (by simp)) _
    | false =>
      obtain ⟨y0, y1, y2⟩ := HX6.out.cells
      obtain ⟨f0, f1, f2⟩ := HX6.out.soft
      obtain ⟨c0, c1, c2⟩ := HB6.out.cells
      have hlx6 := HX6.out.lt
      have hlb6 := HB6.out.lt
      go_wp2
      refine bodyPost_ret (v := .tuple #[.agg #[.int .i64 x, .int .i64 3, .int .i64 s], .int .i64 k, .int .i64 way]) (by simp [results, Try.results117, go_sem, *]) rfl ⟨⟨x, 3, s⟩, k, way, hk, by omega, rfl, ?_, ?_⟩
      · exact ((hC6.setCell (by simpa using hgl) _).setCell (by simpa using hgl) _).setCell (by simpa using hgl) _
      · exact ((HW6.out.setCell (.inl (by simp)) _).setCell (.inl (by simp)) _).setCell (.inl (by simp)) _
end Go.Proofs.Ytbcgokpamhgabaa

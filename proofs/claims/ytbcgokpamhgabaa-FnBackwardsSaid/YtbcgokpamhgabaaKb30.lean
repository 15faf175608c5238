/- The contracts of l01PickInt, l02Any, l04Any, l14Any, DrawSolvableHoles: boards of whatever numbers. -/
import Derived.Test.YtbcgokpamhgabaaChecked
import Derived.Test.YtbcgokpamhgabaaKb01
import Derived.Tactics
import Derived.Tactics2
import Derived.WalkKit
import Derived.WalkSpells
import Derived.WalkLawsBesides
import Derived.Deep.QuietTactic
import Derived.BigQuiet
import Derived.BigGuardPart
import Derived.Lib.QuietBelow
import Derived.OwnWalk
import Derived.KernelRfl
import Derived.Test.YtbcgokpamhgabaaKb29
namespace Go.Proofs.Ytbcgokpamhgabaa
set_option linter.unusedVariables false
set_option maxRecDepth 20000
open Go.RowKit Go.Sort

theorem l01PickInt_ (g : Nat) (xs : List Int) (n : Nat) (hn : xs.length = n) (A : Option Addr) (c : Nat) (w : World) (hC : Cur 129 g w) (rd : RdC w g w.heap.size A (ints xs)) (h0 : 0 < n) (h1 : n ≤ 256) :
    Calls Try.prog 163 #[.pointer (some ⟨g, 0, none⟩), .slice A n c] w fun e w' => ∃ v : Int, e = .returned (.int .i64 v) ∧ Cur 129 g w' ∧ Cb w.heap.size g w w' := by
  subst hn
  have RD := Lib.hid rd
  clear rd
  go_enter Try.func163, Try.ntmps163
  go_wp2_with fail
  refine (l01Below_ g (xs.length : Int) (by unfold I64; omega) _ hC).mono ?_
  rintro e w1 ⟨r, hr, rfl, hC1, hb1⟩
  have hr1 : r < xs.length := by omega
  have hr2 : (r : Int) < (xs.length : Int) := by omega
  have hr3 : (0 : Int) ≤ (r : Int) := by omega
  have RD1 := RD.out.cb hb1
  obtain ⟨bb, off, x, rfl, hbl, hx, x0⟩ := RD1.rd.int hr1
  have HB := Lib.hid hb1
  clear hr hx RD RD1 hb1
  go_wp2
  go_ret
  exact ⟨x, rfl, hC1, HB.out⟩
theorem rd_lit' (w : World) (xs : List Int) (t : TypeId) : ∀ j u, (ints xs)[j]? = some u → (w.alloc (.cells (ints xs).toArray t)).cell? ⟨w.heap.size, 0 + j, none⟩ = some u := fun j u hu => by
  rw [cell_of_row _ w.heap.size (0 + j) (ints xs).toArray t (0, 0) (heap_alloc_new w _), Nat.zero_add]
  simpa using hu
theorem rdc_lit {w : World} {g : Nat} (hg : g < w.heap.size) (xs : List Int) (cs : Array Value) (t : TypeId) (e : cs = (ints xs).toArray) : RdC (w.alloc (.cells cs t)) g (w.alloc (.cells cs t)).heap.size (some ⟨w.heap.size, 0, none⟩) (ints xs) := fun _ => by
  subst e
  exact ⟨_, 0, rfl, by omega, by simp, rd_lit' w xs t⟩
/-- A board of whatever numbers, drawn. -/
def GivesAny (T : TypeId) (g : Nat) (w : World) (e : Ending) (w' : World) : Prop :=
  ∃ b : Ln, e = .returned (.agg #[.int .i64 b.f, .int .i64 b.o, .int .i64 b.t]) ∧ Cur T g w' ∧ Cb w.heap.size g w w'
set_option maxHeartbeats 4000000 in
theorem l02Any_ (g : Nat) (W : World) (hC : Cur 129 g W) :
    Calls Try.prog 155 #[.pointer (some ⟨g, 0, none⟩)] W (GivesAny 129 g W) := by
  have hgl := hC.lt
  go_enter Try.func155, Try.ntmps155
  go_upto_region 2 with (go_at_call 101; refine (l02Small_ g _ (hC.alloc _)).mono ?_; rintro e w1 ⟨x, y, s, hbd, -, rfl, hC1, hb1⟩)
  have HX2 := Lib.hid (((box_new 42 W 0 0 0).cb hb1 hgl).alloc (.cells #[.int .i64 x, .int .i64 y, .int .i64 s] 42))
  have HW1 : Cb W.heap.size g W w1 := ((Cb.refl _ _ _).alloc (Nat.le_refl _) _).trans (hb1.mono (by simp))
  have HW2 := Lib.hid (HW1.alloc HW1.size (.cells #[.int .i64 x, .int .i64 y, .int .i64 s] 42))
  have HB2 := Lib.hid (box_new 42 w1 x y s)
  have hC2 := hC1.alloc (.cells #[.int .i64 x, .int .i64 y, .int .i64 s] 42)
  have hgB : g < w1.heap.size := hC1.lt
  have hWB : W.heap.size < w1.heap.size := by have := hb1.size; simp at this; omega
  clear hbd hb1 HW1 hC1
  generalize w1.alloc (.cells #[.int .i64 x, .int .i64 y, .int .i64 s] 42) = u1 at *
  generalize w1.heap.size = B at *
  have hWB' : W.heap.size ≤ B := by omega
  have hne : ¬ W.heap.size = B := by omega
  have hne' : ¬ B = W.heap.size := by omega
  go_wp2_with fail
  refine (l01Below_ g 10 (by unfold I64; omega) _ hC2).mono ?_
  rintro e w3 ⟨r, hr, rfl, hC3, hb3⟩
  have HX3 := Lib.hid (HX2.out.cb hb3 hgl)
  have HB3 := Lib.hid (HB2.out.cb hb3 hgB)
  have HW3 := Lib.hid (HW2.out.next hb3)
  clear hb3 HX2 HB2 HW2 hC2
  by_cases r0 : r = 0
  · subst r0
    go_wp2_with fail
    refine (l01PickInt_ g [0, 1, 7, 8, -1] 5 rfl _ _ _ (hC3.alloc _) (rdc_lit hC3.lt [0, 1, 7, 8, -1] _ _ rfl) (by omega) (by omega)).mono ?_
    rintro e w4 ⟨v, rfl, hC4, hb4⟩
    have HX5 := Lib.hid ((HX3.out.alloc _).cb hb4 hgl)
    have HB5 := Lib.hid ((HB3.out.alloc _).cb hb4 hgB)
    have HW5 := Lib.hid ((HW3.out.alloc HW3.out.size _).next hb4)
    obtain ⟨c0, c1, c2⟩ := HB5.out.cells
    obtain ⟨f0, f1, f2⟩ := HB5.out.soft
    have hlb := HB5.out.lt
    clear hb4 HX3 HB3 HW3 hr
    go_upto_region 9 with fail
    have HX9 := Lib.hid (HX5.out.far (p := ⟨B, 0, none⟩) hne' (.int .i64 v))
    have HB9 := Lib.hid (HB5.out.set0 v)
    have HW9 := Lib.hid (HW5.out.setCell (p := ⟨B, 0, none⟩) (.inl hWB') (.int .i64 v))
    have hC9 := hC4.setCell (p := ⟨B, 0, none⟩) hgB (.int .i64 v)
    clear c0 c1 c2 f0 f1 f2 HX5 HB5 HW5 hlb
    generalize w4.setCell ⟨B, 0, none⟩ (.int .i64 v) = w9 at *
    obtain ⟨y0, y1, y2⟩ := HX9.out.cells
    obtain ⟨f0, f1, f2⟩ := HX9.out.soft
    obtain ⟨c0, c1, c2⟩ := HB9.out.cells
    have hlx9 := HX9.out.lt
    have hlb9 := HB9.out.lt
    go_wp2
    refine bodyPost_ret (v := .agg #[.int .i64 v, .int .i64 y, .int .i64 s]) (by simp [results, Try.results155, go_sem, *]) rfl ⟨⟨v, y, s⟩, rfl, ?_, ?_⟩
    · exact ((hC9.setCell (by simpa using hgl) _).setCell (by simpa using hgl) _).setCell (by simpa using hgl) _
    · exact ((HW9.out.setCell (.inl (by simp)) _).setCell (.inl (by simp)) _).setCell (.inl (by simp)) _
  · by_cases r1 : r = 1
    · subst r1
      go_wp2_with fail
      refine (l01PickInt_ g [0, -1, 1, 562949953421312, 9223372036854775807] 5 rfl _ _ _ (hC3.alloc _) (rdc_lit hC3.lt [0, -1, 1, 562949953421312, 9223372036854775807] _ _ rfl) (by omega) (by omega)).mono ?_
      rintro e w4 ⟨v, rfl, hC4, hb4⟩
      have HX5 := Lib.hid ((HX3.out.alloc _).cb hb4 hgl)
      have HB5 := Lib.hid ((HB3.out.alloc _).cb hb4 hgB)
      have HW5 := Lib.hid ((HW3.out.alloc HW3.out.size _).next hb4)
      obtain ⟨c0, c1, c2⟩ := HB5.out.cells
      obtain ⟨f0, f1, f2⟩ := HB5.out.soft
      have hlb := HB5.out.lt
      clear hb4 HX3 HB3 HW3 hr r0
      go_upto_region 9 with fail
      have HX9 := Lib.hid (HX5.out.far (p := ⟨B, 2, none⟩) hne' (.int .i64 v))
      have HB9 := Lib.hid (HB5.out.set2 v)
      have HW9 := Lib.hid (HW5.out.setCell (p := ⟨B, 2, none⟩) (.inl hWB') (.int .i64 v))
      have hC9 := hC4.setCell (p := ⟨B, 2, none⟩) hgB (.int .i64 v)
      clear c0 c1 c2 f0 f1 f2 HX5 HB5 HW5 hlb
      generalize w4.setCell ⟨B, 2, none⟩ (.int .i64 v) = w9 at *
      obtain ⟨y0, y1, y2⟩ := HX9.out.cells
      obtain ⟨f0, f1, f2⟩ := HX9.out.soft
      obtain ⟨c0, c1, c2⟩ := HB9.out.cells
      have hlx9 := HX9.out.lt
      have hlb9 := HB9.out.lt
      go_wp2
      refine bodyPost_ret (v := .agg #[.int .i64 x, .int .i64 y, .int .i64 v]) (by simp [results, Try.results155, go_sem, *]) rfl ⟨⟨x, y, v⟩, rfl, ?_, ?_⟩
      · exact ((hC9.setCell (by simpa using hgl) _).setCell (by simpa using hgl) _).setCell (by simpa using hgl) _
      · exact ((HW9.out.setCell (.inl (by simp)) _).setCell (.inl (by simp)) _).setCell (.inl (by simp)) _
    · have q0 : ((r : Int) == 0) = false := by simpa using r0
      have q1 : ((r : Int) == 1) = false := by simp; omega
      by_cases r2 : r = 2
      · subst r2
        go_wp2_with fail
        refine (sCrossBoard_ _).mono ?_
        rintro e w4 ⟨a, b, d, hbd, -, rfl, hb4⟩
        have HX5 := Lib.hid (HX3.out.next hb4)
        have HB5 := Lib.hid (HB3.out.next hb4)
        have HW5 := Lib.hid (HW3.out.next (cb_of hb4 g))
        have hC4 := hC3.next hb4
        obtain ⟨c0, c1, c2⟩ := HB5.out.cells
        obtain ⟨f0, f1, f2⟩ := HB5.out.soft
        have hlb := HB5.out.lt
        clear hb4 HX3 HB3 HW3 hr r0 r1 q0 q1 hbd
        go_upto_region 9 with fail
        have HX9 := Lib.hid (((HX5.out.far (p := ⟨B, 0, none⟩) hne' (.int .i64 a)).far (p := ⟨B, 1, none⟩) hne' (.int .i64 b)).far (p := ⟨B, 2, none⟩) hne' (.int .i64 d))
        have HB9 := Lib.hid (HB5.out.set3 a b d)
        have HW9 := Lib.hid (((HW5.out.setCell (p := ⟨B, 0, none⟩) (.inl hWB') (.int .i64 a)).setCell (p := ⟨B, 1, none⟩) (.inl hWB') (.int .i64 b)).setCell (p := ⟨B, 2, none⟩) (.inl hWB') (.int .i64 d))
        have hC9 := ((hC4.setCell (p := ⟨B, 0, none⟩) hgB (.int .i64 a)).setCell (p := ⟨B, 1, none⟩) hgB (.int .i64 b)).setCell (p := ⟨B, 2, none⟩) hgB (.int .i64 d)
        clear c0 c1 c2 f0 f1 f2 HX5 HB5 HW5 hlb
        generalize ((w4.setCell ⟨B, 0, none⟩ (.int .i64 a)).setCell ⟨B, 1, none⟩ (.int .i64 b)).setCell ⟨B, 2, none⟩ (.int .i64 d) = w9 at *
        obtain ⟨y0, y1, y2⟩ := HX9.out.cells
        obtain ⟨f0, f1, f2⟩ := HX9.out.soft
        obtain ⟨c0, c1, c2⟩ := HB9.out.cells
        have hlx9 := HX9.out.lt
        have hlb9 := HB9.out.lt
        go_wp2
        refine bodyPost_ret (v := .agg #[.int .i64 a, .int .i64 b, .int .i64 d]) (by simp [results, Try.results155, go_sem, *]) rfl ⟨⟨a, b, d⟩, rfl, ?_, ?_⟩
        · exact ((hC9.setCell (by simpa using hgl) _).setCell (by simpa using hgl) _).setCell (by simpa using hgl) _
        · exact ((HW9.out.setCell (.inl (by simp)) _).setCell (.inl (by simp)) _).setCell (.inl (by simp)) _
      · have q2 : ((r : Int) == 2) = false := by simp; omega
        have HX9 := HX3
        have HB9 := HB3
        have HW9 := HW3
        have hC9 := hC3
        clear HX3 HB3 HW3 hC3 hr r0 r1 r2
        obtain ⟨y0, y1, y2⟩ := HX9.out.cells
        obtain ⟨f0, f1, f2⟩ := HX9.out.soft
        obtain ⟨c0, c1, c2⟩ := HB9.out.cells
        have hlx9 := HX9.out.lt
        have hlb9 := HB9.out.lt
        go_wp2
        refine bodyPost_ret (v := .agg #[.int .i64 x, .int .i64 y, .int .i64 s]) (by simp [results, Try.results155, go_sem, *]) rfl ⟨⟨x, y, s⟩, rfl, ?_, ?_⟩
        · exact ((hC9.setCell (by simpa using hgl) _).setCell (by simpa using hgl) _).setCell (by simpa using hgl) _
        · exact ((HW9.out.setCell (.inl (by simp)) _).setCell (.inl (by simp)) _).setCell (.inl (by simp)) _
/-- A board and a position of whatever numbers, drawn. -/
def GivesAnyP (T : TypeId) (g : Nat) (w : World) (e : Ending) (w' : World) : Prop :=
  ∃ (b : Ln) (p : Int), e = .returned (.tuple #[.agg #[.int .i64 b.f, .int .i64 b.o, .int .i64 b.t], .int .i64 p]) ∧ Cur T g w' ∧ Cb w.heap.size g w w'
set_option maxHeartbeats 4000000 in
theorem l04Any_ (g : Nat) (W : World) (hC : Cur 129 g W) :
    Calls Try.prog 160 #[.pointer (some ⟨g, 0, none⟩)] W (GivesAnyP 129 g W) := by
  have hgl := hC.lt
  go_enter Try.func160, Try.ntmps160
  go_upto_region 2 with (go_at_call 155; refine (l02Any_ g _ (hC.alloc _)).mono ?_; rintro e w1 ⟨b, rfl, hC1, hb1⟩)
  have HX2 := Lib.hid (((box_new 42 W 0 0 0).cb hb1 hgl).alloc (.cells #[.int .i64 b.f, .int .i64 b.o, .int .i64 b.t] 42))
  have HW1 : Cb W.heap.size g W w1 := ((Cb.refl _ _ _).alloc (Nat.le_refl _) _).trans (hb1.mono (by simp))
  have HW2 := Lib.hid (HW1.alloc HW1.size (.cells #[.int .i64 b.f, .int .i64 b.o, .int .i64 b.t] 42))
  have HB2 := Lib.hid (box_new 42 w1 b.f b.o b.t)
  have hC2 := hC1.alloc (.cells #[.int .i64 b.f, .int .i64 b.o, .int .i64 b.t] 42)
  have hgB : g < w1.heap.size := hC1.lt
  have hWB : W.heap.size < w1.heap.size := by have := hb1.size; simp at this; omega
  clear hb1 HW1 hC1
  generalize w1.alloc (.cells #[.int .i64 b.f, .int .i64 b.o, .int .i64 b.t] 42) = u1 at *
  generalize w1.heap.size = B at *
  have hWB' : W.heap.size ≤ B := by omega
  have hne : ¬ W.heap.size = B := by omega
  have hne' : ¬ B = W.heap.size := by omega
  obtain ⟨c0, c1, c2⟩ := HB2.out.cells
  go_wp2_with fail
  refine (l04Some_ g b _ hC2).mono ?_
  rintro e w3 ⟨q, hq, rfl, hC3, hb3⟩
  have hq49 := sub_lt hq
  have HX3 := Lib.hid (HX2.out.cb hb3 hgl)
  have HB3 := Lib.hid (HB2.out.cb hb3 hgB)
  have HW3 := Lib.hid (HW2.out.next hb3)
  clear hb3 HX2 HB2 HW2 hC2 c0 c1 c2 hq
  go_wp2_with fail
  refine (l01Below_ g 10 (by unfold I64; omega) _ hC3).mono ?_
  rintro e w4 ⟨r, hr, rfl, hC4, hb4⟩
  have HX4 := Lib.hid (HX3.out.cb hb4 hgl)
  have HB4 := Lib.hid (HB3.out.cb hb4 hgB)
  have HW4 := Lib.hid (HW3.out.next hb4)
  clear hb4 HX3 HB3 HW3 hC3
  by_cases r0 : r = 0
  · subst r0
    obtain ⟨c0, c1, c2⟩ := HB4.out.cells
    go_wp2_with fail
    refine (l01PickInt_ g [-1, 0, b.t, 9223372036854775807] 4 rfl _ _ _ (hC4.alloc _) (rdc_lit hC4.lt [-1, 0, b.t, 9223372036854775807] _ _ rfl) (by omega) (by omega)).mono ?_
    rintro e w5 ⟨v, rfl, hC9, hb5⟩
    have HX9 := Lib.hid ((HX4.out.alloc _).cb hb5 hgl)
    have HB9 := Lib.hid ((HB4.out.alloc _).cb hb5 hgB)
    have HW9 := Lib.hid ((HW4.out.alloc HW4.out.size _).next hb5)
    clear c0 c1 c2 hb5 HX4 HB4 HW4 hr hC4
    obtain ⟨y0, y1, y2⟩ := HX9.out.cells
    obtain ⟨f0, f1, f2⟩ := HX9.out.soft
    obtain ⟨c0, c1, c2⟩ := HB9.out.cells
    have hlx9 := HX9.out.lt
    have hlb9 := HB9.out.lt
    go_wp2
    refine bodyPost_ret (v := .tuple #[.agg #[.int .i64 b.f, .int .i64 b.o, .int .i64 b.t], .int .i64 v]) (by simp [results, Try.results160, go_sem, *]) rfl ⟨b, v, rfl, ?_, ?_⟩
    · exact ((hC9.setCell (by simpa using hgl) _).setCell (by simpa using hgl) _).setCell (by simpa using hgl) _
    · exact ((HW9.out.setCell (.inl (by simp)) _).setCell (.inl (by simp)) _).setCell (.inl (by simp)) _
  · have q0 : ((r : Int) == 0) = false := by simpa using r0
    by_cases r1 : r = 1
    · subst r1
      go_wp2_with fail
      refine (l01Below_ g 20 (by unfold I64; omega) _ hC4).mono ?_
      rintro e w5 ⟨k, hk, rfl, hC9, hb5⟩
      have hk20 : k < 20 := by omega
      have HX9 := Lib.hid (HX4.out.cb hb5 hgl)
      have HB9 := Lib.hid (HB4.out.cb hb5 hgB)
      have HW9 := Lib.hid (HW4.out.next hb5)
      have pf := i64_pow k (by omega)
      have a1 := i64_xor q (pow2 k) (by unfold B63; omega) (b63_pow2 (by omega))
      clear hb5 HX4 HB4 HW4 hr hC4 r0 hk
      obtain ⟨y0, y1, y2⟩ := HX9.out.cells
      obtain ⟨f0, f1, f2⟩ := HX9.out.soft
      obtain ⟨c0, c1, c2⟩ := HB9.out.cells
      have hlx9 := HX9.out.lt
      have hlb9 := HB9.out.lt
      go_wp2
      refine bodyPost_ret (v := .tuple #[.agg #[.int .i64 b.f, .int .i64 b.o, .int .i64 b.t], .int .i64 ((q ^^^ pow2 k : Nat) : Int)]) (by simp [results, Try.results160, go_sem, *]) rfl ⟨b, ((q ^^^ pow2 k : Nat) : Int), rfl, ?_, ?_⟩
      · exact ((hC9.setCell (by simpa using hgl) _).setCell (by simpa using hgl) _).setCell (by simpa using hgl) _
      · exact ((HW9.out.setCell (.inl (by simp)) _).setCell (.inl (by simp)) _).setCell (.inl (by simp)) _
    · have q1 : ((r : Int) == 1) = false := by simp; omega
      have HX9 := HX4
      have HB9 := HB4
      have HW9 := HW4
      have hC9 := hC4
      clear HX4 HB4 HW4 hC4 hr r0 r1
      obtain ⟨y0, y1, y2⟩ := HX9.out.cells
      obtain ⟨f0, f1, f2⟩ := HX9.out.soft
      obtain ⟨c0, c1, c2⟩ := HB9.out.cells
      have hlx9 := HX9.out.lt
      have hlb9 := HB9.out.lt
      go_wp2
      refine bodyPost_ret (v := .tuple #[.agg #[.int .i64 b.f, .int .i64 b.o, .int .i64 b.t], .int .i64 (q : Int)]) (by simp [results, Try.results160, go_sem, *]) rfl ⟨b, (q : Int), rfl, ?_, ?_⟩
      · exact ((hC9.setCell (by simpa using hgl) _).setCell (by simpa using hgl) _).setCell (by simpa using hgl) _
      · exact ((HW9.out.setCell (.inl (by simp)) _).setCell (.inl (by simp)) _).setCell (.inl (by simp)) _
set_option maxHeartbeats 4000000 in
theorem l14Any_ (g : Nat) (W : World) (hC : Cur 129 g W) :
    Calls Try.prog 141 #[.pointer (some ⟨g, 0, none⟩)] W (GivesAnyP 129 g W) := by
  have hgl := hC.lt
  go_enter Try.func141, Try.ntmps141
  go_wp2_with fail
  refine (l01Once_ g 8 (by unfold I64; omega) _ (hC.alloc _)).mono ?_
  rintro e w1 ⟨t, rfl, hC1, hb1⟩
  have HX1 := Lib.hid ((box_new 42 W 0 0 0).cb hb1 hgl)
  have HW1 : Hid (Cb W.heap.size g W w1) := Lib.hid (((Cb.refl _ _ _).alloc (Nat.le_refl _) _).trans (hb1.mono (by simp)))
  have hz1 : W.heap.size < w1.heap.size := by have := hb1.size; simp at this; omega
  clear hb1
  cases t with
  | true =>
    go_upto_region 3 with (go_at_call 160; refine (l04Any_ g _ hC1).mono ?_; rintro e w4 ⟨b, p, rfl, hC4, hb4⟩)
    have HX4 := Lib.hid (HX1.out.cb hb4 hgl)
    have HW4 := Lib.hid (HW1.out.next hb4)
    have hz4 : W.heap.size < w4.heap.size := by have := hb4.size; omega
    clear hb4 HX1 HW1 hC1 hz1
    have HX5 := Lib.hid (HX4.out.alloc (.cells #[.int .i64 b.f, .int .i64 b.o, .int .i64 b.t] 42))
    have HB5 := Lib.hid (box_new 42 w4 b.f b.o b.t)
    have HW5 := Lib.hid (HW4.out.alloc HW4.out.size (.cells #[.int .i64 b.f, .int .i64 b.o, .int .i64 b.t] 42))
    have hC5 := hC4.alloc (.cells #[.int .i64 b.f, .int .i64 b.o, .int .i64 b.t] 42)
    clear HX4 HW4 hC4
    generalize w4.alloc (.cells #[.int .i64 b.f, .int .i64 b.o, .int .i64 b.t] 42) = u5 at *
    generalize w4.heap.size = B at *
    have hne : ¬ W.heap.size = B := by omega
    have hne' : ¬ B = W.heap.size := by omega
    obtain ⟨y0, y1, y2⟩ := HX5.out.cells
    obtain ⟨f0, f1, f2⟩ := HX5.out.soft
    obtain ⟨c0, c1, c2⟩ := HB5.out.cells
    have hlx9 := HX5.out.lt
    go_wp2
    refine bodyPost_ret (v := .tuple #[.agg #[.int .i64 b.f, .int .i64 b.o, .int .i64 b.t], .int .i64 p]) (by simp [results, Try.results141, go_sem, *]) rfl ⟨⟨b.f, b.o, b.t⟩, p, rfl, ?_, ?_⟩
    · exact ((hC5.setCell (by simpa using hgl) _).setCell (by simpa using hgl) _).setCell (by simpa using hgl) _
    · exact ((HW5.out.setCell (.inl (by simp)) _).setCell (.inl (by simp)) _).setCell (.inl (by simp)) _
  | false =>
    go_upto_region 5 with (go_at_call 122; refine (l14Start_ g _ hC1).mono ?_; rintro e w4 ⟨x, y, s, p, -, -, -, rfl, hC4, hb4⟩)
    have HX4 := Lib.hid (HX1.out.cb hb4 hgl)
    have HW4 := Lib.hid (HW1.out.next hb4)
    have hz4 : W.heap.size < w4.heap.size := by have := hb4.size; omega
    clear hb4 HX1 HW1 hC1 hz1
    have HX5 := Lib.hid (HX4.out.alloc (.cells #[.int .i64 (x : Int), .int .i64 (y : Int), .int .i64 (s : Int)] 42))
    have HB5 := Lib.hid (box_new 42 w4 (x : Int) (y : Int) (s : Int))
    have HW5 := Lib.hid (HW4.out.alloc HW4.out.size (.cells #[.int .i64 (x : Int), .int .i64 (y : Int), .int .i64 (s : Int)] 42))
    have hC5 := hC4.alloc (.cells #[.int .i64 (x : Int), .int .i64 (y : Int), .int .i64 (s : Int)] 42)
    clear HX4 HW4 hC4
    generalize w4.alloc (.cells #[.int .i64 (x : Int), .int .i64 (y : Int), .int .i64 (s : Int)] 42) = u5 at *
    generalize w4.heap.size = B at *
    have hne : ¬ W.heap.size = B := by omega
    have hne' : ¬ B = W.heap.size := by omega
    obtain ⟨y0, y1, y2⟩ := HX5.out.cells
    obtain ⟨f0, f1, f2⟩ := HX5.out.soft
    obtain ⟨c0, c1, c2⟩ := HB5.out.cells
    have hlx9 := HX5.out.lt
    go_wp2
    refine bodyPost_ret (v := .tuple #[.agg #[.int .i64 (x : Int), .int .i64 (y : Int), .int .i64 (s : Int)], .int .i64 (p : Int)]) (by simp [results, Try.results141, go_sem, *]) rfl ⟨⟨(x : Int), (y : Int), (s : Int)⟩, (p : Int), rfl, ?_, ?_⟩
    · exact ((hC5.setCell (by simpa using hgl) _).setCell (by simpa using hgl) _).setCell (by simpa using hgl) _
    · exact ((HW5.out.setCell (.inl (by simp)) _).setCell (.inl (by simp)) _).setCell (.inl (by simp)) _
theorem sCountHolesA_ (b : Ln) (W : World) :
    Calls Try.prog 46 #[.agg #[.int .i64 b.f, .int .i64 b.o, .int .i64 b.t]] W fun e W' => e = .returned (.int .i64 ((holesL b).length : Nat)) ∧ Below W.heap.size W W' := by
  go_enter Try.func46, Try.ntmps46
  go_wp2_with fail
  refine (sHolesOf_ b _).mono ?_
  rintro e w1 ⟨A, c, rfl, rd, hb1⟩
  have hw1 : Below W.heap.size W w1 := below_step ((Below.refl _ _).alloc (Nat.le_refl _) _) hb1 (by (try simp))
  go_wp2
  go_ret
  exact ⟨rfl, hw1⟩
set_option maxHeartbeats 4000000 in
theorem drawSolvable_ (xs : List UInt8) (A : Option Addr) (c : Nat) (w : World) (rd : Rd w w.heap.size A (bts xs)) (hm : xs.length ≤ 1048576) :
    Calls Try.prog 74 #[.slice A xs.length c] w fun e w' => ∃ b : Ln, e = .returned (.agg #[.int .i64 b.f, .int .i64 b.o, .int .i64 b.t]) ∧ Below w.heap.size w w' := by
  have rd1 := rd.laid (.cells #[.int .i64 0, .int .i64 0, .int .i64 0] 42)
  go_enter Try.func74, Try.ntmps74
  go_wp2_with fail
  refine (l01New_ xs A c _ rd1 hm).mono ?_
  rintro e w1 ⟨rfl, hC1, hb1⟩
  have HX1 := Lib.hid ((box_new 42 w 0 0 0).next hb1)
  have hw1 : Below w.heap.size w w1 := below_step ((Below.refl _ _).alloc (Nat.le_refl _) _) hb1 (by simp)
  obtain ⟨g, hg⟩ : ∃ g, (w.alloc (.cells #[.int .i64 0, .int .i64 0, .int .i64 0] 42)).heap.size = g := ⟨_, rfl⟩
  have hg0 : g = w.heap.size + 1 := by rw [← hg]; simp
  have HG := Lib.hid hg0
  simp only [hg] at hC1 ⊢
  clear rd1 hb1 hg hg0
  go_wp2_with fail
  refine (l14Any_ g _ hC1).mono ?_
  rintro e w2 ⟨b, p, rfl, hC2, hb2⟩
  have hgB : g < w2.heap.size := hC2.lt
  have HX2 := Lib.hid ((HX1.out.cbj hb2 (by have := HG.out; omega)).alloc (.cells #[.int .i64 b.f, .int .i64 b.o, .int .i64 b.t] 42))
  have HB2 := Lib.hid (box_new 42 w2 b.f b.o b.t)
  have HW2 := Lib.hid (hb2.alloc hb2.size (.cells #[.int .i64 b.f, .int .i64 b.o, .int .i64 b.t] 42))
  have hC3 := hC2.alloc (.cells #[.int .i64 b.f, .int .i64 b.o, .int .i64 b.t] 42)
  have hlo : w.heap.size < g := by have := HG.out; omega
  obtain ⟨B, hB⟩ : ∃ B, w2.heap.size = B := ⟨_, rfl⟩
  rw [hB] at hgB HB2
  have hneB : ¬ w.heap.size = B := by omega
  have hneB' : ¬ B = w.heap.size := by omega
  have hgB' : ¬ g = B := by omega
  clear hb2 hC2 HX1
  go_upto_region 3 with fail
  generalize w2.alloc (.cells #[.int .i64 b.f, .int .i64 b.o, .int .i64 b.t] 42) = w3 at *
  clear hB
  obtain ⟨c0, c1, c2⟩ := HB2.out.cells
  go_wp2_with fail
  refine (sCountHolesA_ b _).mono ?_
  rintro e w4 ⟨rfl, hb4⟩
  have HX4 := Lib.hid (HX2.out.next hb4)
  have HB4 := Lib.hid (HB2.out.next hb4)
  have HW4 := Lib.hid (HW2.out.next (cb_of hb4 g))
  have hC4 := hC3.next hb4
  clear hb4 HX2 HB2 HW2 hC3 c0 c1 c2
  generalize (holesL b).length = nh
  by_cases h9 : (9 : Int) < (nh : Int)
  · go_wp2_with fail
    refine (l01Below_ g 4 (by unfold I64; omega) _ hC4).mono ?_
    rintro e w5 ⟨k, hk, rfl, hC5, hb5⟩
    have HX5 := Lib.hid (HX4.out.cbj hb5 (by omega))
    have HB5 := Lib.hid (HB4.out.cb hb5 hgB)
    have HW5 := Lib.hid (HW4.out.next hb5)
    clear hb5 HX4 HB4 HW4 hC4 hk
    by_cases k0 : 0 < k
    · go_wp2_with fail
      refine (l01Below_ g 3 (by unfold I64; omega) _ hC5).mono ?_
      rintro e w6 ⟨j, hj, rfl, hC6, hb6⟩
      have HX6 := Lib.hid (HX5.out.cbj hb6 (by omega))
      have HW6 := Lib.hid (HW5.out.next hb6)
      obtain ⟨n, hn⟩ : ∃ n, 1 + j = n := ⟨_, rfl⟩
      have hnI : (1 : Int) + (j : Int) = (n : Int) := by omega
      have hn3 : 1 ≤ n ∧ n ≤ 3 := by omega
      have hj2 : (j : Int) ≤ 2 := by omega
      clear hb6 HX5 HB5 HW5 hC5 hj hn
      go_wp2_with fail
      refine (sRectangle_ n 3 hn3.1 (by omega) (by omega) (by omega) _).mono ?_
      rintro e w7 ⟨rfl, hb7⟩
      have HX7 := Lib.hid (HX6.out.next hb7)
      have hbel : Below w.heap.size w w7 := hw1.trans (((HW6.out.next (cb_of hb7 g)).mono hw1.size).below (by omega))
      obtain ⟨r0, r1, r2⟩ := HX7.out.cells
      obtain ⟨f0, f1, f2⟩ := HX7.out.soft
      have hlx := HX7.out.lt
      clear hb7 HX6 HW6 hC6 hnI hj2
      go_wp2
      refine bodyPost_ret (v := .agg #[.int .i64 (n : Int), .int .i64 (3 : Int), .int .i64 ((fullN (n * 3) : Nat) : Int)]) (by simp [results, Try.results74, go_sem, *]) rfl ⟨⟨n, 3, (fullN (n * 3) : Nat)⟩, rfl, ?_⟩
      exact ((hbel.setCell (p := ⟨w.heap.size, 0, none⟩) (by simp) _).setCell (p := ⟨w.heap.size, 1, none⟩) (by simp) _).setCell (p := ⟨w.heap.size, 2, none⟩) (by simp) _
    · obtain ⟨c0, c1, c2⟩ := HB5.out.cells
      obtain ⟨r0, r1, r2⟩ := HX5.out.cells
      obtain ⟨f0, f1, f2⟩ := HX5.out.soft
      have hlx := HX5.out.lt
      have hbel : Below w.heap.size w w5 := hw1.trans ((HW5.out.mono hw1.size).below (by omega))
      go_wp2
      refine bodyPost_ret (v := .agg #[.int .i64 b.f, .int .i64 b.o, .int .i64 b.t]) (by simp [results, Try.results74, go_sem, *]) rfl ⟨b, rfl, ?_⟩
      exact ((hbel.setCell (p := ⟨w.heap.size, 0, none⟩) (by simp) _).setCell (p := ⟨w.heap.size, 1, none⟩) (by simp) _).setCell (p := ⟨w.heap.size, 2, none⟩) (by simp) _
  · obtain ⟨c0, c1, c2⟩ := HB4.out.cells
    obtain ⟨r0, r1, r2⟩ := HX4.out.cells
    obtain ⟨f0, f1, f2⟩ := HX4.out.soft
    have hlx := HX4.out.lt
    have hbel : Below w.heap.size w w4 := hw1.trans ((HW4.out.mono hw1.size).below (by omega))
    go_wp2
    refine bodyPost_ret (v := .agg #[.int .i64 b.f, .int .i64 b.o, .int .i64 b.t]) (by simp [results, Try.results74, go_sem, *]) rfl ⟨⟨b, rfl⟩, ?_⟩
    exact ((hbel.setCell (p := ⟨w.heap.size, 0, none⟩) (by simp) _).setCell (p := ⟨w.heap.size, 1, none⟩) (by simp) _).setCell (p := ⟨w.heap.size, 2, none⟩) (by simp) _
end Go.Proofs.Ytbcgokpamhgabaa

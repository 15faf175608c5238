/- The contracts of l14Start, DrawStart, l21Start, DrawAim: small boards, positions, goals. -/
import Derived.Test.YtbcgokpamhgabaaChecked
import Derived.Test.YtbcgokpamhgabaaKb01
import Derived.Tactics
import Derived.Tactics2
import Derived.WalkKit
import Derived.WalkSpells
import Derived.WalkLawsBesides
import Derived.Deep.QuietTactic
import Derived.BigQuiet
import Derived.BigGuardPart
import Derived.Lib.QuietBelow
import Derived.OwnWalk
import Derived.KernelRfl
import Derived.Test.YtbcgokpamhgabaaKb26
import Derived.Test.YtbcgokpamhgabaaKb28
namespace Go.Proofs.Ytbcgokpamhgabaa
set_option linter.unusedVariables false
set_option maxRecDepth 20000
open Go.RowKit Go.Sort

/-- A small board and a position, drawn from a cursor. -/
def GivesStC (T : TypeId) (g : Nat) (w : World) (e : Ending) (w' : World) : Prop :=
  ∃ x y s q : Nat, BdOk x y s ∧ x * y ≤ 16 ∧ posB ⟨x, y, s⟩ q = true ∧ e = .returned (.tuple #[.agg #[.int .i64 x, .int .i64 y, .int .i64 s], .int .i64 q]) ∧ Cur T g w' ∧ Cb w.heap.size g w w'
def GivesSt (w : World) (e : Ending) (w' : World) : Prop :=
  ∃ x y s q : Nat, BdOk x y s ∧ x * y ≤ 16 ∧ posB ⟨x, y, s⟩ q = true ∧ e = .returned (.tuple #[.agg #[.int .i64 x, .int .i64 y, .int .i64 s], .int .i64 q]) ∧ Below w.heap.size w w'
theorem sRect43_ (W : World) : Calls Try.prog 36 #[.int .i64 4, .int .i64 3] W fun e W' => ∃ x y s : Nat, BdOk x y s ∧ x * y ≤ 12 ∧ e = .returned (.agg #[.int .i64 x, .int .i64 y, .int .i64 s]) ∧ Below W.heap.size W W' :=
  (sRectangle_ 4 3 (by omega) (by omega) (by omega) (by omega) W).mono fun _ _ h => ⟨4, 3, 4095, ⟨by omega, by omega, by omega, by omega, by omega, by decide⟩, by omega, h.1, h.2⟩
theorem sRect33_ (W : World) : Calls Try.prog 36 #[.int .i64 3, .int .i64 3] W fun e W' => ∃ x y s : Nat, BdOk x y s ∧ x * y ≤ 9 ∧ e = .returned (.agg #[.int .i64 x, .int .i64 y, .int .i64 s]) ∧ Below W.heap.size W W' :=
  (sRectangle_ 3 3 (by omega) (by omega) (by omega) (by omega) W).mono fun _ _ h => ⟨3, 3, 511, ⟨by omega, by omega, by omega, by omega, by omega, by decide⟩, by omega, h.1, h.2⟩
set_option maxHeartbeats 4000000 in
theorem l14Start_ (g : Nat) (W : World) (hC : Cur 129 g W) :
    Calls Try.prog 122 #[.pointer (some ⟨g, 0, none⟩)] W (GivesStC 129 g W) := by
  have hgl := hC.lt
  go_enter Try.func122, Try.ntmps122
  go_upto_region 2 with (go_at_call 101; refine (l02Small_ g _ (hC.alloc _)).mono ?_; rintro e w1 ⟨x, y, s, hbd, hsm, rfl, hC1, hb1⟩)
  have HBD := Lib.hid hbd
  have HA := Lib.hid hsm.1
  have HX2 := Lib.hid (((box_new 42 W 0 0 0).cb hb1 hgl).alloc (.cells #[.int .i64 x, .int .i64 y, .int .i64 s] 42))
  have HW1 : Cb W.heap.size g W w1 := ((Cb.refl _ _ _).alloc (Nat.le_refl _) _).trans (hb1.mono (by simp))
  have HW2 := Lib.hid (HW1.alloc HW1.size (.cells #[.int .i64 x, .int .i64 y, .int .i64 s] 42))
  have HB2 := Lib.hid (box_new 42 w1 x y s)
  have hC2 := hC1.alloc (.cells #[.int .i64 x, .int .i64 y, .int .i64 s] 42)
  have hgB : g < w1.heap.size := hC1.lt
  have hWB : W.heap.size < w1.heap.size := by have := hb1.size; simp at this; omega
  clear hbd hb1 HW1 hC1 hsm
  generalize w1.alloc (.cells #[.int .i64 x, .int .i64 y, .int .i64 s] 42) = u1 at *
  generalize w1.heap.size = B at *
  have hWB' : W.heap.size ≤ B := by omega
  have hne : ¬ W.heap.size = B := by omega
  have hne' : ¬ B = W.heap.size := by omega
  obtain ⟨c0, c1, c2⟩ := HB2.out.cells
  go_wp2_with fail
  refine (sCountHoles_ x y s HBD.out _).mono ?_
  rintro e w3 ⟨rfl, hb3⟩
  have HX3 := Lib.hid (HX2.out.next hb3)
  have HB3 := Lib.hid (HB2.out.next hb3)
  have HW3 := Lib.hid (HW2.out.next (cb_of hb3 g))
  have hC3 := hC2.next hb3
  clear hb3 HX2 HB2 HW2 hC2 c0 c1 c2
  by_cases hp : (13 : Int) < (popc s : Nat)
  · go_wp2_with fail
    refine (sRect43_ _).mono ?_
    rintro e w4 ⟨xb, yb, sb, hbdb, hxyb, rfl, hb4⟩
    have HX4 := Lib.hid (HX3.out.next hb4)
    have HB4 := Lib.hid (HB3.out.next hb4)
    have HW4 := Lib.hid (HW3.out.next (cb_of hb4 g))
    have hC4 := hC3.next hb4
    obtain ⟨c0, c1, c2⟩ := HB4.out.cells
    obtain ⟨f0, f1, f2⟩ := HB4.out.soft
    have hlb := HB4.out.lt
    have HBD9 := Lib.hid hbdb
    have HA9 := Lib.hid (show xb * yb ≤ 16 by omega)
    clear hb4 HX3 HB3 HW3 hC3 HBD HA hp hbdb hxyb
    go_upto_region 4 with fail
    have HX9 := Lib.hid (((HX4.out.far (p := ⟨B, 0, none⟩) hne' (.int .i64 xb)).far (p := ⟨B, 1, none⟩) hne' (.int .i64 yb)).far (p := ⟨B, 2, none⟩) hne' (.int .i64 sb))
    have HB9 := Lib.hid (HB4.out.set3 xb yb sb)
    have HW9 := Lib.hid (((HW4.out.setCell (p := ⟨B, 0, none⟩) (.inl hWB') (.int .i64 xb)).setCell (p := ⟨B, 1, none⟩) (.inl hWB') (.int .i64 yb)).setCell (p := ⟨B, 2, none⟩) (.inl hWB') (.int .i64 sb))
    have hC9 := ((hC4.setCell (p := ⟨B, 0, none⟩) hgB (.int .i64 xb)).setCell (p := ⟨B, 1, none⟩) hgB (.int .i64 yb)).setCell (p := ⟨B, 2, none⟩) hgB (.int .i64 sb)
    clear c0 c1 c2 f0 f1 f2 HX4 HB4 HW4 hC4 hlb
    obtain ⟨c0, c1, c2⟩ := HB9.out.cells
    obtain ⟨r0, r1, r2⟩ := HX9.out.cells
    obtain ⟨f0, f1, f2⟩ := HX9.out.soft
    have hlx9 := HX9.out.lt
    go_region_held3 (fun w' => w'.cell? ⟨B, 0, none⟩ = some (.int .i64 xb) ∧ w'.cell? ⟨B, 1, none⟩ = some (.int .i64 yb) ∧ w'.cell? ⟨B, 2, none⟩ = some (.int .i64 sb)) (first | exact ⟨c0, c1, c2⟩ | go_keep) (first
      | (go_at_call 112; refine (l06Start_ g (xb) (yb) (sb) HBD9.out _ (Cur.drew hC9)).mono ?_; rintro e wA ⟨q, hq, rfl, hCA, hbA⟩; have HP := Lib.hid (posB_of HBD9.out (sub_pos HBD9.out hq)); have HBA := Lib.hid (HB9.out.drew.cb hbA hgB); have HXA := Lib.hid (HX9.out.drew.cb hbA hgl); have HWA := Lib.hid (HW9.out.drew.next hbA); have hlxA := HXA.out.lt; clear hbA hq c0 c1 c2 r0 r1 r2 f0 f1 f2; obtain ⟨c0, c1, c2⟩ := HBA.out.cells; obtain ⟨r0, r1, r2⟩ := HXA.out.cells; obtain ⟨f0, f1, f2⟩ := HXA.out.soft))
    all_goals
      go_wp2
      refine bodyPost_ret (v := .tuple #[.agg #[.int .i64 xb, .int .i64 yb, .int .i64 sb], .int .i64 q]) (by simp [results, Try.results122, go_sem, *]) rfl ⟨xb, yb, sb, q, HBD9.out, HA9.out, HP.out, rfl, ?_, ?_⟩
      · exact ((hCA.setCell (by simpa using hgl) _).setCell (by simpa using hgl) _).setCell (by simpa using hgl) _
      · exact ((HWA.out.setCell (.inl (by simp)) _).setCell (.inl (by simp)) _).setCell (.inl (by simp)) _
  · have HX9 := HX3
    have HB9 := HB3
    have HW9 := HW3
    have hC9 := hC3
    have HBD9 := HBD
    have HA9 := HA
    clear HX3 HB3 HW3 hC3 HBD HA
    go_wp2_with fail
    obtain ⟨c0, c1, c2⟩ := HB9.out.cells
    obtain ⟨r0, r1, r2⟩ := HX9.out.cells
    obtain ⟨f0, f1, f2⟩ := HX9.out.soft
    have hlx9 := HX9.out.lt
    go_region_held3 (fun w' => w'.cell? ⟨B, 0, none⟩ = some (.int .i64 x) ∧ w'.cell? ⟨B, 1, none⟩ = some (.int .i64 y) ∧ w'.cell? ⟨B, 2, none⟩ = some (.int .i64 s)) (first | exact ⟨c0, c1, c2⟩ | go_keep) (first
      | (go_at_call 112; refine (l06Start_ g (x) (y) (s) HBD9.out _ (Cur.drew hC9)).mono ?_; rintro e wA ⟨q, hq, rfl, hCA, hbA⟩; have HP := Lib.hid (posB_of HBD9.out (sub_pos HBD9.out hq)); have HBA := Lib.hid (HB9.out.drew.cb hbA hgB); have HXA := Lib.hid (HX9.out.drew.cb hbA hgl); have HWA := Lib.hid (HW9.out.drew.next hbA); have hlxA := HXA.out.lt; clear hbA hq c0 c1 c2 r0 r1 r2 f0 f1 f2; obtain ⟨c0, c1, c2⟩ := HBA.out.cells; obtain ⟨r0, r1, r2⟩ := HXA.out.cells; obtain ⟨f0, f1, f2⟩ := HXA.out.soft))
    all_goals
      go_wp2
      refine bodyPost_ret (v := .tuple #[.agg #[.int .i64 x, .int .i64 y, .int .i64 s], .int .i64 q]) (by simp [results, Try.results122, go_sem, *]) rfl ⟨x, y, s, q, HBD9.out, HA9.out, HP.out, rfl, ?_, ?_⟩
      · exact ((hCA.setCell (by simpa using hgl) _).setCell (by simpa using hgl) _).setCell (by simpa using hgl) _
      · exact ((HWA.out.setCell (.inl (by simp)) _).setCell (.inl (by simp)) _).setCell (.inl (by simp)) _
/-- A small board, a position, a goal. -/
def GivesAimC (T : TypeId) (g : Nat) (w : World) (e : Ending) (w' : World) : Prop :=
  ∃ x y s p q : Nat, BdOk x y s ∧ x * y ≤ 16 ∧ posB ⟨x, y, s⟩ p = true ∧ posB ⟨x, y, s⟩ q = true ∧ e = .returned (.tuple #[.agg #[.int .i64 x, .int .i64 y, .int .i64 s], .int .i64 p, .int .i64 q]) ∧ Cur T g w' ∧ Cb w.heap.size g w w'
def GivesAim (w : World) (e : Ending) (w' : World) : Prop :=
  ∃ x y s p q : Nat, BdOk x y s ∧ x * y ≤ 16 ∧ posB ⟨x, y, s⟩ p = true ∧ posB ⟨x, y, s⟩ q = true ∧ e = .returned (.tuple #[.agg #[.int .i64 x, .int .i64 y, .int .i64 s], .int .i64 p, .int .i64 q]) ∧ Below w.heap.size w w'
theorem playR_pos {b : Ln} {p : Int} (h : posB b p = true) (ls : List Ln) : posB b (playR b p ls) = true := by
  unfold playR
  split
  · exact playP_pos h ls
  · exact h
theorem sPlayAll_any (x y s p : Nat) (hp : posB ⟨x, y, s⟩ p = true) (ls : List Ln) (A : Option Addr) (c : Nat) (hm : ls.length ≤ 1048576) (W : World) (rd : Rd W W.heap.size A (flat ls)) :
    Calls Try.prog 41 #[.agg #[.int .i64 x, .int .i64 y, .int .i64 s], .int .i64 p, .slice A ls.length c] W fun e w' => ∃ (r : Nat) (k : Bool), posB ⟨x, y, s⟩ r = true ∧ e = .returned (.tuple #[.int .i64 r, .bool k]) ∧ Below W.heap.size W w' := by
  refine (sPlayAll_ ⟨x, y, s⟩ p (posB_i64 hp) ls A c (by omega) W rd).mono ?_
  rintro e w' ⟨he, hb⟩
  have h := playR_pos hp ls
  obtain ⟨r, hr, -⟩ := posB_nat h
  exact ⟨r, playB ⟨x, y, s⟩ p ls, hr ▸ h, by rw [he, hr], hb⟩
set_option maxHeartbeats 8000000 in
theorem l21Start_ (g : Nat) (W : World) (hC : Cur 129 g W) :
    Calls Try.prog 132 #[.pointer (some ⟨g, 0, none⟩)] W (GivesAimC 129 g W) := by
  have hgl := hC.lt
  go_enter Try.func132, Try.ntmps132
  go_upto_region 2 with (go_at_call 122; refine (l14Start_ g _ (hC.alloc _)).mono ?_; rintro e w1 ⟨x, y, s, p, hbd, hxy, hpp, rfl, hC1, hb1⟩)
  have HBD := Lib.hid hbd
  have HA := Lib.hid hxy
  have HPP := Lib.hid hpp
  have HX2 := Lib.hid (((box_new 42 W 0 0 0).cb hb1 hgl).alloc (.cells #[.int .i64 x, .int .i64 y, .int .i64 s] 42))
  have HW1 : Cb W.heap.size g W w1 := ((Cb.refl _ _ _).alloc (Nat.le_refl _) _).trans (hb1.mono (by simp))
  have HW2 := Lib.hid (HW1.alloc HW1.size (.cells #[.int .i64 x, .int .i64 y, .int .i64 s] 42))
  have HB2 := Lib.hid (box_new 42 w1 x y s)
  have hC2 := hC1.alloc (.cells #[.int .i64 x, .int .i64 y, .int .i64 s] 42)
  have hgB : g < w1.heap.size := hC1.lt
  have hWB : W.heap.size < w1.heap.size := by have := hb1.size; simp at this; omega
  clear hbd hb1 HW1 hC1 hxy hpp
  generalize w1.alloc (.cells #[.int .i64 x, .int .i64 y, .int .i64 s] 42) = u1 at *
  generalize w1.heap.size = B at *
  have hWB' : W.heap.size ≤ B := by omega
  have hne : ¬ W.heap.size = B := by omega
  have hne' : ¬ B = W.heap.size := by omega
  obtain ⟨c0, c1, c2⟩ := HB2.out.cells
  go_wp2_with fail
  refine (sCountHoles_ x y s HBD.out _).mono ?_
  rintro e w3 ⟨rfl, hb3⟩
  have HX3 := Lib.hid (HX2.out.next hb3)
  have HB3 := Lib.hid (HB2.out.next hb3)
  have HW3 := Lib.hid (HW2.out.next (cb_of hb3 g))
  have hC3 := hC2.next hb3
  clear hb3 HX2 HB2 HW2 hC2 c0 c1 c2
  by_cases hpc : (10 : Int) < (popc s : Nat)
  · go_wp2_with fail
    refine (sRect33_ _).mono ?_
    rintro e w4 ⟨xb, yb, sb, hbdb, hxyb, rfl, hb4⟩
    have HX4 := Lib.hid (HX3.out.next hb4)
    have HB4 := Lib.hid (HB3.out.next hb4)
    have HW4 := Lib.hid (HW3.out.next (cb_of hb4 g))
    have hC4 := hC3.next hb4
    obtain ⟨c0, c1, c2⟩ := HB4.out.cells
    obtain ⟨f0, f1, f2⟩ := HB4.out.soft
    have hlb := HB4.out.lt
    have HBD5 := Lib.hid hbdb
    have HA5 := Lib.hid (show xb * yb ≤ 16 by omega)
    clear hb4 HX3 HB3 HW3 hC3 HBD HA HPP hpc hbdb hxyb
    go_wp2_with fail
    have HX6 := Lib.hid (((HX4.out.far (p := ⟨B, 0, none⟩) hne' (.int .i64 xb)).far (p := ⟨B, 1, none⟩) hne' (.int .i64 yb)).far (p := ⟨B, 2, none⟩) hne' (.int .i64 sb))
    have HB6 := Lib.hid (HB4.out.set3 xb yb sb)
    have HW6 := Lib.hid (((HW4.out.setCell (p := ⟨B, 0, none⟩) (.inl hWB') (.int .i64 xb)).setCell (p := ⟨B, 1, none⟩) (.inl hWB') (.int .i64 yb)).setCell (p := ⟨B, 2, none⟩) (.inl hWB') (.int .i64 sb))
    have hC6 := ((hC4.setCell (p := ⟨B, 0, none⟩) hgB (.int .i64 xb)).setCell (p := ⟨B, 1, none⟩) hgB (.int .i64 yb)).setCell (p := ⟨B, 2, none⟩) hgB (.int .i64 sb)
    clear c0 c1 c2 f0 f1 f2 HX4 HB4 HW4 hC4 hlb
    generalize ((w4.setCell ⟨B, 0, none⟩ (.int .i64 xb)).setCell ⟨B, 1, none⟩ (.int .i64 yb)).setCell ⟨B, 2, none⟩ (.int .i64 sb) = w6 at *
    refine (l06Start_ g xb yb sb HBD5.out _ hC6).mono ?_
    rintro e wC ⟨p1, hp1, rfl, hC5, hb5⟩
    have HP5 := Lib.hid (posB_of HBD5.out (sub_pos HBD5.out hp1))
    have HX5 := Lib.hid (HX6.out.cb hb5 hgl)
    have HB5 := Lib.hid (HB6.out.cb hb5 hgB)
    have HW5 := Lib.hid (HW6.out.next hb5)
    clear hp1 hb5 HX6 HB6 HW6 hC6
    obtain ⟨c0, c1, c2⟩ := HB5.out.cells
    go_wp2_with fail
    go_region_held3 (fun w' => w'.cell? ⟨B, 0, none⟩ = some (.int .i64 xb) ∧ w'.cell? ⟨B, 1, none⟩ = some (.int .i64 yb) ∧ w'.cell? ⟨B, 2, none⟩ = some (.int .i64 sb)) (first | exact ⟨c0, c1, c2⟩ | go_keep) (first
      | (go_at_call 114; refine (l01Below_ g 10 (by unfold I64; omega) _ hC5.drew).mono ?_; rintro e w7 ⟨n, hn, rfl, hC7, hb7⟩; have hn' : n ≤ 9 := (by omega); have HB7 := Lib.hid (HB5.out.drew.cb hb7 hgB); have HX7 := Lib.hid (HX5.out.drew.cb hb7 hgl); have HW7 := Lib.hid (HW5.out.drew.next hb7); clear hb7 hn c0 c1 c2; obtain ⟨c0, c1, c2⟩ := HB7.out.cells)
      | (go_at_call 113; refine (l06Play_ g (xb) (yb) (sb) HBD5.out (p1) HP5.out n (by omega) _ hC7).mono ?_; rintro e w8 ⟨ls, A8, c8, h1, h2, rfl, rd8, hlo8, hC8, hb8⟩; have HB8 := Lib.hid (HB7.out.cb hb8 hgB); have HX8 := Lib.hid (HX7.out.cb hb8 hgl); have HW8 := Lib.hid (HW7.out.next hb8); have RD8 := Lib.hid rd8; clear hb8 hlo8 rd8 h2 c0 c1 c2; obtain ⟨c0, c1, c2⟩ := HB8.out.cells)
      | (go_at_call 41; refine (sPlayAll_any (xb) (yb) (sb) (p1) HP5.out ls A8 c8 (by omega) _ RD8.out).mono ?_; rintro e w9 ⟨r, k, hr, rfl, hb9⟩; have HR := Lib.hid hr; have HB9 := Lib.hid (HB8.out.next hb9); have HX9 := Lib.hid (HX8.out.next hb9); have HW9 := Lib.hid (HW8.out.next (cb_of hb9 g)); have hC9 := hC8.next hb9; clear hb9 hr c0 c1 c2; obtain ⟨c0, c1, c2⟩ := HB9.out.cells))
    go_wp2_with fail
    refine (l01Once_ g 8 (by unfold I64; omega) _ hC9).mono ?_
    rintro e wA ⟨t, rfl, hCA, hbA⟩
    have HBA := Lib.hid (HB9.out.cb hbA hgB)
    have HXA := Lib.hid (HX9.out.cb hbA hgl)
    have HWA := Lib.hid (HW9.out.next hbA)
    clear hbA c0 c1 c2
    obtain ⟨c0, c1, c2⟩ := HBA.out.cells
    cases t with
    | true =>
      go_wp2_with fail
      refine (l04Some_ g ⟨xb, yb, sb⟩ _ hCA).mono ?_
      rintro e wB ⟨q, hq, rfl, hCB, hbB⟩
      have HQ := Lib.hid (posB_of HBD5.out (sub_pos HBD5.out hq))
      have HBB := Lib.hid (HBA.out.cb hbB hgB)
      have HXB := Lib.hid (HXA.out.cb hbB hgl)
      have HWB := Lib.hid (HWA.out.next hbB)
      clear hbB hq c0 c1 c2
      obtain ⟨c0, c1, c2⟩ := HBB.out.cells
      obtain ⟨r0, r1, r2⟩ := HXB.out.cells
      obtain ⟨f0, f1, f2⟩ := HXB.out.soft
      have hlxB := HXB.out.lt
      go_wp2
      refine bodyPost_ret (v := .tuple #[.agg #[.int .i64 xb, .int .i64 yb, .int .i64 sb], .int .i64 p1, .int .i64 q]) (by simp [results, Try.results132, go_sem, *]) rfl ⟨xb, yb, sb, p1, q, HBD5.out, HA5.out, HP5.out, HQ.out, rfl, ?_, ?_⟩
      · exact ((hCB.setCell (by simpa using hgl) _).setCell (by simpa using hgl) _).setCell (by simpa using hgl) _
      · exact ((HWB.out.setCell (.inl (by simp)) _).setCell (.inl (by simp)) _).setCell (.inl (by simp)) _
    | false =>
      obtain ⟨r0, r1, r2⟩ := HXA.out.cells
      obtain ⟨f0, f1, f2⟩ := HXA.out.soft
      have hlxA := HXA.out.lt
      go_wp2
      refine bodyPost_ret (v := .tuple #[.agg #[.int .i64 xb, .int .i64 yb, .int .i64 sb], .int .i64 p1, .int .i64 r]) (by simp [results, Try.results132, go_sem, *]) rfl ⟨xb, yb, sb, p1, r, HBD5.out, HA5.out, HP5.out, HR.out, rfl, ?_, ?_⟩
      · exact ((hCA.setCell (by simpa using hgl) _).setCell (by simpa using hgl) _).setCell (by simpa using hgl) _
      · exact ((HWA.out.setCell (.inl (by simp)) _).setCell (.inl (by simp)) _).setCell (.inl (by simp)) _
  · have HX5 := HX3
    have HB5 := HB3
    have HW5 := HW3
    have hC5 := hC3
    have HBD5 := HBD
    have HA5 := HA
    have HP5 := HPP
    clear HX3 HB3 HW3 hC3 HBD HA HPP
    obtain ⟨c0, c1, c2⟩ := HB5.out.cells
    go_wp2_with fail
    go_region_held3 (fun w' => w'.cell? ⟨B, 0, none⟩ = some (.int .i64 x) ∧ w'.cell? ⟨B, 1, none⟩ = some (.int .i64 y) ∧ w'.cell? ⟨B, 2, none⟩ = some (.int .i64 s)) (first | exact ⟨c0, c1, c2⟩ | go_keep) (first
      | (go_at_call 114; refine (l01Below_ g 10 (by unfold I64; omega) _ hC5.drew).mono ?_; rintro e w7 ⟨n, hn, rfl, hC7, hb7⟩; have hn' : n ≤ 9 := (by omega); have HB7 := Lib.hid (HB5.out.drew.cb hb7 hgB); have HX7 := Lib.hid (HX5.out.drew.cb hb7 hgl); have HW7 := Lib.hid (HW5.out.drew.next hb7); clear hb7 hn c0 c1 c2; obtain ⟨c0, c1, c2⟩ := HB7.out.cells)
      | (go_at_call 113; refine (l06Play_ g (x) (y) (s) HBD5.out (p) HP5.out n (by omega) _ hC7).mono ?_; rintro e w8 ⟨ls, A8, c8, h1, h2, rfl, rd8, hlo8, hC8, hb8⟩; have HB8 := Lib.hid (HB7.out.cb hb8 hgB); have HX8 := Lib.hid (HX7.out.cb hb8 hgl); have HW8 := Lib.hid (HW7.out.next hb8); have RD8 := Lib.hid rd8; clear hb8 hlo8 rd8 h2 c0 c1 c2; obtain ⟨c0, c1, c2⟩ := HB8.out.cells)
      | (go_at_call 41; refine (sPlayAll_any (x) (y) (s) (p) HP5.out ls A8 c8 (by omega) _ RD8.out).mono ?_; rintro e w9 ⟨r, k, hr, rfl, hb9⟩; have HR := Lib.hid hr; have HB9 := Lib.hid (HB8.out.next hb9); have HX9 := Lib.hid (HX8.out.next hb9); have HW9 := Lib.hid (HW8.out.next (cb_of hb9 g)); have hC9 := hC8.next hb9; clear hb9 hr c0 c1 c2; obtain ⟨c0, c1, c2⟩ := HB9.out.cells))
    go_wp2_with fail
    refine (l01Once_ g 8 (by unfold I64; omega) _ hC9).mono ?_
    rintro e wA ⟨t, rfl, hCA, hbA⟩
    have HBA := Lib.hid (HB9.out.cb hbA hgB)
    have HXA := Lib.hid (HX9.out.cb hbA hgl)
    have HWA := Lib.hid (HW9.out.next hbA)
    clear hbA c0 c1 c2
    obtain ⟨c0, c1, c2⟩ := HBA.out.cells
    cases t with
    | true =>
      go_wp2_with fail
      refine (l04Some_ g ⟨x, y, s⟩ _ hCA).mono ?_
      rintro e wB ⟨q, hq, rfl, hCB, hbB⟩
      have HQ := Lib.hid (posB_of HBD5.out (sub_pos HBD5.out hq))
      have HBB := Lib.hid (HBA.out.cb hbB hgB)
      have HXB := Lib.hid (HXA.out.cb hbB hgl)
      have HWB := Lib.hid (HWA.out.next hbB)
      clear hbB hq c0 c1 c2
      obtain ⟨c0, c1, c2⟩ := HBB.out.cells
      obtain ⟨r0, r1, r2⟩ := HXB.out.cells
      obtain ⟨f0, f1, f2⟩ := HXB.out.soft
      have hlxB := HXB.out.lt
      go_wp2
      refine bodyPost_ret (v := .tuple #[.agg #[.int .i64 x, .int .i64 y, .int .i64 s], .int .i64 p, .int .i64 q]) (by simp [results, Try.results132, go_sem, *]) rfl ⟨x, y, s, p, q, HBD5.out, HA5.out, HP5.out, HQ.out, rfl, ?_, ?_⟩
      · exact ((hCB.setCell (by simpa using hgl) _).setCell (by simpa using hgl) _).setCell (by simpa using hgl) _
      · exact ((HWB.out.setCell (.inl (by simp)) _).setCell (.inl (by simp)) _).setCell (.inl (by simp)) _
    | false =>
      obtain ⟨r0, r1, r2⟩ := HXA.out.cells
      obtain ⟨f0, f1, f2⟩ := HXA.out.soft
      have hlxA := HXA.out.lt
      go_wp2
      refine bodyPost_ret (v := .tuple #[.agg #[.int .i64 x, .int .i64 y, .int .i64 s], .int .i64 p, .int .i64 r]) (by simp [results, Try.results132, go_sem, *]) rfl ⟨x, y, s, p, r, HBD5.out, HA5.out, HP5.out, HR.out, rfl, ?_, ?_⟩
      · exact ((hCA.setCell (by simpa using hgl) _).setCell (by simpa using hgl) _).setCell (by simpa using hgl) _
      · exact ((HWA.out.setCell (.inl (by simp)) _).setCell (.inl (by simp)) _).setCell (.inl (by simp)) _
theorem Box.cbj {T : TypeId} {w w' : World} {g b : Nat} {x y z : Int} (h : Box T w g x y z) (hb : Cb w.heap.size b w w') (hn : g ≠ b) : Box T w' g x y z := h.keep (hb.block g h.lt hn)
set_option maxHeartbeats 4000000 in
theorem drawStart_ (xs : List UInt8) (A : Option Addr) (c : Nat) (w : World) (rd : Rd w w.heap.size A (bts xs)) (hm : xs.length ≤ 1048576) :
    Calls Try.prog 57 #[.slice A xs.length c] w (GivesSt w) := by
  have rd1 := rd.laid (.cells #[.int .i64 0, .int .i64 0, .int .i64 0] 42)
  go_enter Try.func57, Try.ntmps57
  go_wp2_with fail
  refine (l01New_ xs A c _ rd1 hm).mono ?_
  rintro e w1 ⟨rfl, hC1, hb1⟩
  have HX1 := Lib.hid ((box_new 42 w 0 0 0).next hb1)
  have hw1 : Below w.heap.size w w1 := below_step ((Below.refl _ _).alloc (Nat.le_refl _) _) hb1 (by simp)
  obtain ⟨g, hg⟩ : ∃ g, (w.alloc (.cells #[.int .i64 0, .int .i64 0, .int .i64 0] 42)).heap.size = g := ⟨_, rfl⟩
  have hg0 : g = w.heap.size + 1 := by rw [← hg]; simp
  have HG := Lib.hid hg0
  simp only [hg] at hC1 ⊢
  clear rd1 hb1 hg hg0
  go_wp2_with fail
  refine (l14Start_ g _ hC1).mono ?_
  rintro e w2 ⟨x, y, s, q, hbd, hxy, hp, rfl, hC2, hb2⟩
  have hgB : g < w2.heap.size := hC2.lt
  have HX2 := Lib.hid ((HX1.out.cbj hb2 (by have := HG.out; omega)).alloc (.cells #[.int .i64 x, .int .i64 y, .int .i64 s] 42))
  have HB2 := Lib.hid (box_new 42 w2 x y s)
  have HW2 := Lib.hid (hb2.alloc hb2.size (.cells #[.int .i64 x, .int .i64 y, .int .i64 s] 42))
  have HK := Lib.hid (And.intro hbd (And.intro hxy hp))
  have hlo : w.heap.size < g := by have := HG.out; omega
  obtain ⟨B, hB⟩ : ∃ B, w2.heap.size = B := ⟨_, rfl⟩
  rw [hB] at hgB HB2
  have hneB : ¬ w.heap.size = B := by omega
  have hneB' : ¬ B = w.heap.size := by omega
  clear hbd hxy hp hb2 hC2 HX1
  go_upto_region 2 with fail
  generalize w2.alloc (.cells #[.int .i64 x, .int .i64 y, .int .i64 s] 42) = w3 at *
  clear hB
  obtain ⟨c0, c1, c2⟩ := HB2.out.cells
  obtain ⟨r0, r1, r2⟩ := HX2.out.cells
  obtain ⟨f0, f1, f2⟩ := HX2.out.soft
  have hlx := HX2.out.lt
  have hbel : Below w.heap.size w w3 := hw1.trans ((HW2.out.mono hw1.size).below (by omega))
  go_wp2
  refine bodyPost_ret (v := .tuple #[.agg #[.int .i64 x, .int .i64 y, .int .i64 s], .int .i64 q]) (by simp [results, Try.results57, go_sem, *]) rfl ⟨x, y, s, q, HK.out.1, HK.out.2.1, HK.out.2.2, rfl, ?_⟩
  exact ((hbel.setCell (p := ⟨w.heap.size, 0, none⟩) (by simp) _).setCell (p := ⟨w.heap.size, 1, none⟩) (by simp) _).setCell (p := ⟨w.heap.size, 2, none⟩) (by simp) _
set_option maxHeartbeats 4000000 in
theorem drawAim_ (xs : List UInt8) (A : Option Addr) (c : Nat) (w : World) (rd : Rd w w.heap.size A (bts xs)) (hm : xs.length ≤ 1048576) :
    Calls Try.prog 67 #[.slice A xs.length c] w (GivesAim w) := by
  have rd1 := rd.laid (.cells #[.int .i64 0, .int .i64 0, .int .i64 0] 42)
  go_enter Try.func67, Try.ntmps67
  go_wp2_with fail
  refine (l01New_ xs A c _ rd1 hm).mono ?_
  rintro e w1 ⟨rfl, hC1, hb1⟩
  have HX1 := Lib.hid ((box_new 42 w 0 0 0).next hb1)
  have hw1 : Below w.heap.size w w1 := below_step ((Below.refl _ _).alloc (Nat.le_refl _) _) hb1 (by simp)
  obtain ⟨g, hg⟩ : ∃ g, (w.alloc (.cells #[.int .i64 0, .int .i64 0, .int .i64 0] 42)).heap.size = g := ⟨_, rfl⟩
  have hg0 : g = w.heap.size + 1 := by rw [← hg]; simp
  have HG := Lib.hid hg0
  simp only [hg] at hC1 ⊢
  clear rd1 hb1 hg hg0
  go_wp2_with fail
  refine (l21Start_ g _ hC1).mono ?_
  rintro e w2 ⟨x, y, s, p, q, hbd, hxy, hp, hq, rfl, hC2, hb2⟩
  have hgB : g < w2.heap.size := hC2.lt
  have HX2 := Lib.hid ((HX1.out.cbj hb2 (by have := HG.out; omega)).alloc (.cells #[.int .i64 x, .int .i64 y, .int .i64 s] 42))
  have HB2 := Lib.hid (box_new 42 w2 x y s)
  have HW2 := Lib.hid (hb2.alloc hb2.size (.cells #[.int .i64 x, .int .i64 y, .int .i64 s] 42))
  have HK := Lib.hid (And.intro hbd (And.intro hxy (And.intro hp hq)))
  have hlo : w.heap.size < g := by have := HG.out; omega
  obtain ⟨B, hB⟩ : ∃ B, w2.heap.size = B := ⟨_, rfl⟩
  rw [hB] at hgB HB2
  have hneB : ¬ w.heap.size = B := by omega
  have hneB' : ¬ B = w.heap.size := by omega
  clear hbd hxy hp hq hb2 hC2 HX1
  go_upto_region 2 with fail
  generalize w2.alloc (.cells #[.int .i64 x, .int .i64 y, .int .i64 s] 42) = w3 at *
  clear hB
  obtain ⟨c0, c1, c2⟩ := HB2.out.cells
  obtain ⟨r0, r1, r2⟩ := HX2.out.cells
  obtain ⟨f0, f1, f2⟩ := HX2.out.soft
  have hlx := HX2.out.lt
  have hbel : Below w.heap.size w w3 := hw1.trans ((HW2.out.mono hw1.size).below (by omega))
  go_wp2
  refine bodyPost_ret (v := .tuple #[.agg #[.int .i64 x, .int .i64 y, .int .i64 s], .int .i64 p, .int .i64 q]) (by simp [results, Try.results67, go_sem, *]) rfl ⟨x, y, s, p, q, HK.out.1, HK.out.2.1, HK.out.2.2.1, HK.out.2.2.2, rfl, ?_⟩
  exact ((hbel.setCell (p := ⟨w.heap.size, 0, none⟩) (by simp) _).setCell (p := ⟨w.heap.size, 1, none⟩) (by simp) _).setCell (p := ⟨w.heap.size, 2, none⟩) (by simp) _
end Go.Proofs.Ytbcgokpamhgabaa

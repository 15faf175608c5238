/- The contracts of the functions on jumps, second part. -/
import Derived.Test.YtbcgokpamhgabaaChecked
import Derived.Test.YtbcgokpamhgabaaKb01
import Derived.Tactics
import Derived.Tactics2
import Derived.WalkKit
import Derived.WalkSpells
import Derived.WalkLawsBesides
import Derived.Deep.QuietTactic
import Derived.BigQuiet
import Derived.BigGuardPart
import Derived.Lib.QuietBelow
import Derived.OwnWalk
import Derived.KernelRfl
import Derived.Test.YtbcgokpamhgabaaKb16
namespace Go.Proofs.Ytbcgokpamhgabaa
set_option linter.unusedVariables false
set_option maxRecDepth 20000
open Go.RowKit Go.Sort

/-- Lines of small different holes. -/
def LsOk (ls : List Ln) : Prop := ∀ l ∈ ls, ∃ f o t : Nat, l = ⟨f, o, t⟩ ∧ f < 49 ∧ o < 49 ∧ t < 49 ∧ f ≠ t ∧ o ≠ t
theorem lsOk_of {w h s : Nat} (hb : BdOk w h s) : LsOk (linesL ⟨w, h, s⟩) := fun l hl => by
  obtain ⟨f, o, t, k⟩ := linesL_ok hb hl
  have a := hb.area
  have := k.f1
  have := k.o1
  have := k.t1
  exact ⟨f, o, t, k.eq, by omega, by omega, by omega, k.ft, k.ot⟩
theorem lsOk_b (b : Ln) : LsOk (linesL b) := by
  rcases Bool.eq_false_or_eq_true (boardB b) with hB | hB
  · obtain ⟨w, h, s, rfl, hb⟩ := boardB_nat hB
    exact lsOk_of hb
  · rw [linesL_no hB]
    intro l hl
    simp at hl

set_option maxHeartbeats 1000000 in
theorem isLine_ (b l : Ln) (W : World) :
    Calls Try.prog 162 #[.agg #[.int .i64 b.f, .int .i64 b.o, .int .i64 b.t], .agg #[.int .i64 l.f, .int .i64 l.o, .int .i64 l.t]] W fun e w' => e = .returned (.bool (lineB b l)) ∧ Below W.heap.size W w' := by
  have heq := fun (a b : Ln) (w : World) => line_eql a b w
  rcases Bool.eq_false_or_eq_true (btwB (linesL b) l.f l.t) with h1 | h1
  · have H := Lib.hid (show eqL (btwL (linesL b) l.f l.t) l = lineB b l by simp [lineB, h1])
    go_enter Try.func162, Try.ntmps162
    go_wp2_with fail
    refine (iLineBetween_ b l.f l.t _).mono ?_
    rintro e W1 ⟨rfl, hb1⟩
    obtain ⟨hc, hf⟩ := bcell hb1
    have hz : W.heap.size + 2 ≤ W1.heap.size := by have := hb1.size; simpa using this
    have hW1 : Below W.heap.size W W1 := below_step (((Below.refl _ _).alloc (Nat.le_refl _) _).alloc (by simp) _) hb1 (by simp; omega)
    have r0 : W1.cell? ⟨W.heap.size + 1, 0, none⟩ = some (.int .i64 l.f) := by rw [hc _ _ (by simp)]; simp [go_sem]
    have r1 : W1.cell? ⟨W.heap.size + 1, 1, none⟩ = some (.int .i64 l.o) := by rw [hc _ _ (by simp)]; simp [go_sem]
    have r2 : W1.cell? ⟨W.heap.size + 1, 2, none⟩ = some (.int .i64 l.t) := by rw [hc _ _ (by simp)]; simp [go_sem]
    have hz1 : W.heap.size + 1 < W1.heap.size := by omega
    generalize btwL (linesL b) l.f l.t = m at H ⊢
    clear hc hf hb1
    go_wp2
    go_ret
    refine ⟨ret_bool H.out, ?_⟩
    repeat (first | exact hW1 | refine Below.setCell ?_ (by simp; omega) _ | refine Below.alloc ?_ (by first | omega | (simp; omega)) _)
  · have H := Lib.hid (show lineB b l = false by simp [lineB, h1])
    go_enter Try.func162, Try.ntmps162
    go_wp2_with fail
    refine (iLineBetween_ b l.f l.t _).mono ?_
    rintro e W1 ⟨rfl, hb1⟩
    have hz : W.heap.size + 2 ≤ W1.heap.size := by have := hb1.size; simpa using this
    have hW1 : Below W.heap.size W W1 := below_step (((Below.refl _ _).alloc (Nat.le_refl _) _).alloc (by simp) _) hb1 (by simp; omega)
    generalize btwL (linesL b) l.f l.t = m
    clear hb1
    go_wp2
    go_ret
    refine ⟨ret_bool H.out.symm, ?_⟩
    repeat (first | exact hW1 | refine Below.setCell ?_ (by simp; omega) _ | refine Below.alloc ?_ (by first | omega | (simp; omega)) _)
set_option maxHeartbeats 1000000 in
theorem l05Is_ (b l : Ln) (W : World) :
    Calls Try.prog 158 #[.agg #[.int .i64 b.f, .int .i64 b.o, .int .i64 b.t], .agg #[.int .i64 l.f, .int .i64 l.o, .int .i64 l.t]] W fun e w' => e = .returned (.bool (lineB b l)) ∧ Below W.heap.size W w' := by
  have heq := fun (a b : Ln) (w : World) => line_eql a b w
  rcases Bool.eq_false_or_eq_true (btwB (linesL b) l.f l.t) with h1 | h1
  · have H := Lib.hid (show eqL (btwL (linesL b) l.f l.t) l = lineB b l by simp [lineB, h1])
    go_enter Try.func158, Try.ntmps158
    go_wp2_with fail
    refine (sLineBetween_ b l.f l.t _).mono ?_
    rintro e W1 ⟨rfl, hb1⟩
    obtain ⟨hc, hf⟩ := bcell hb1
    have hz : W.heap.size + 2 ≤ W1.heap.size := by have := hb1.size; simpa using this
    have hW1 : Below W.heap.size W W1 := below_step (((Below.refl _ _).alloc (Nat.le_refl _) _).alloc (by simp) _) hb1 (by simp; omega)
    have r0 : W1.cell? ⟨W.heap.size + 1, 0, none⟩ = some (.int .i64 l.f) := by rw [hc _ _ (by simp)]; simp [go_sem]
    have r1 : W1.cell? ⟨W.heap.size + 1, 1, none⟩ = some (.int .i64 l.o) := by rw [hc _ _ (by simp)]; simp [go_sem]
    have r2 : W1.cell? ⟨W.heap.size + 1, 2, none⟩ = some (.int .i64 l.t) := by rw [hc _ _ (by simp)]; simp [go_sem]
    have hz1 : W.heap.size + 1 < W1.heap.size := by omega
    generalize btwL (linesL b) l.f l.t = m at H ⊢
    clear hc hf hb1
    go_wp2
    go_ret
    refine ⟨ret_bool H.out, ?_⟩
    repeat (first | exact hW1 | refine Below.setCell ?_ (by simp; omega) _ | refine Below.alloc ?_ (by first | omega | (simp; omega)) _)
  · have H := Lib.hid (show lineB b l = false by simp [lineB, h1])
    go_enter Try.func158, Try.ntmps158
    go_wp2_with fail
    refine (sLineBetween_ b l.f l.t _).mono ?_
    rintro e W1 ⟨rfl, hb1⟩
    have hz : W.heap.size + 2 ≤ W1.heap.size := by have := hb1.size; simpa using this
    have hW1 : Below W.heap.size W W1 := below_step (((Below.refl _ _).alloc (Nat.le_refl _) _).alloc (by simp) _) hb1 (by simp; omega)
    generalize btwL (linesL b) l.f l.t = m
    clear hb1
    go_wp2
    go_ret
    refine ⟨ret_bool H.out.symm, ?_⟩
    repeat (first | exact hW1 | refine Below.setCell ?_ (by simp; omega) _ | refine Below.alloc ?_ (by first | omega | (simp; omega)) _)
set_option maxHeartbeats 1000000 in
theorem sCanJump_ (b l : Ln) (p : Int) (hp : I64 p) (W : World) :
    Calls Try.prog 129 #[.agg #[.int .i64 b.f, .int .i64 b.o, .int .i64 b.t], .int .i64 p, .agg #[.int .i64 l.f, .int .i64 l.o, .int .i64 l.t]] W fun e w' => e = .returned (.bool (doB b p l)) ∧ Below W.heap.size W w' := by
  have hbase : Below W.heap.size W ((W.alloc (.cells #[.int .i64 b.f, .int .i64 b.o, .int .i64 b.t] 42)).alloc (.cells #[.int .i64 l.f, .int .i64 l.o, .int .i64 l.t] 34)) := ((Below.refl _ _).alloc (Nat.le_refl _) _).alloc (by simp) _
  have HBASE := Lib.hid hbase
  clear hbase
  have hc : ∀ (a : Addr) (p : Regrown) (W : World), a.block < W.heap.size → (grow (redrawn W p.d) p.os).cell? a = W.cell? a := fun a p W h => (below_regrown W p.d p.os).cell h
  rcases Bool.eq_false_or_eq_true (posB b p) with hP | hP
  · rcases Bool.eq_false_or_eq_true (lineB b l) with hL | hL
    · obtain ⟨w, h, s, q, rfl, rfl, hb, hq⟩ := posB_open hP
      obtain ⟨f, o, t, hl⟩ := lineB_ok hb hL
      have e := hl.eq
      subst e
      have hA := hb.area
      have f1 := hl.f1
      have o1 := hl.o1
      have t1 := hl.t1
      have q63 := b63_area hb (posB_lt hb hq)
      have l63 := b63_area hb (lbits_lt hl)
      have pf := i64_pow f (by omega)
      have po := i64_pow o (by omega)
      have a1 := i64_and q (lbits ⟨f, o, t⟩) q63 l63
      have a2 := i64_or (pow2 f) (pow2 o) (b63_pow2 (by omega)) (b63_pow2 (by omega))
      have H := Lib.hid (show (((q &&& lbits ⟨f, o, t⟩ : Nat) : Int) == ((pow2 f ||| pow2 o : Nat) : Int)) = doB ⟨w, h, s⟩ q ⟨f, o, t⟩ by
        rw [doB_can hP hL, canJ_and hl.ft hl.ot, Bool.eq_iff_iff]; simp; omega)
      generalize hLB : lbits ⟨f, o, t⟩ = L at a1 H
      go_enter Try.func129, Try.ntmps129
      go_wp2_with fail
      refine wp_region_quiet_below (by kernel_rfl) (by kernel_rfl) ?_
      repeat (go_big_quiet_step (first | (go_at_call 107; exact Calls.regrown_of (is_ (sPositionOk_ ⟨w, h, s⟩ q hp _) hP)) | (go_at_call 158; exact Calls.regrown_of (is_ (l05Is_ ⟨w, h, s⟩ ⟨f, o, t⟩ _) hL)) | (go_at_call 110; exact Calls.regrown_of (isI_ (l05Bits_ f o t (by omega) (by omega) (by omega) _) (congrArg Int.ofNat hLB)))))
      refine wpQuiet_nil ?_
      intro w1 hw1
      obtain ⟨p1, hp1⟩ := hw1
      have hb1 := of_rg hp1
      clear hp1 p1
      go_wp2
      go_ret
      exact ⟨ret_bool H.out, below_step HBASE.out hb1 (by simp; omega)⟩
    · have H := Lib.hid (doB_line (p := p) hL)
      go_enter Try.func129, Try.ntmps129
      go_wp2_with fail
      refine wp_region_quiet_below (by kernel_rfl) (by kernel_rfl) ?_
      repeat (go_big_quiet_step (first | (go_at_call 107; exact Calls.regrown_of (is_ (sPositionOk_ b p hp _) hP)) | (go_at_call 158; exact Calls.regrown_of (is_ (l05Is_ b l _) hL))))
      refine wpQuiet_nil ?_
      intro w1 hw1
      obtain ⟨p1, hp1⟩ := hw1
      have hb1 := of_rg hp1
      clear hp1 p1
      go_wp2
      go_ret
      exact ⟨ret_bool H.out.symm, below_step HBASE.out hb1 (by simp; omega)⟩
  · have H := Lib.hid (doB_pos (l := l) hP)
    go_enter Try.func129, Try.ntmps129
    go_wp2_with fail
    refine wp_region_quiet_below (by kernel_rfl) (by kernel_rfl) ?_
    repeat (go_big_quiet_step (first | (go_at_call 107; exact Calls.regrown_of (is_ (sPositionOk_ b p hp _) hP))))
    refine wpQuiet_nil ?_
    intro w1 hw1
    obtain ⟨p1, hp1⟩ := hw1
    have hb1 := of_rg hp1
    clear hp1 p1
    go_wp2
    go_ret
    exact ⟨ret_bool H.out.symm, below_step HBASE.out hb1 (by simp; omega)⟩
set_option maxHeartbeats 1000000 in
theorem sDoJump_ (b l : Ln) (p : Int) (hp : I64 p) (W : World) :
    Calls Try.prog 64 #[.agg #[.int .i64 b.f, .int .i64 b.o, .int .i64 b.t], .int .i64 p, .agg #[.int .i64 l.f, .int .i64 l.o, .int .i64 l.t]] W fun e w' => e = .returned (.tuple #[.int .i64 (doP b p l), .bool (doB b p l)]) ∧ Below W.heap.size W w' := by
  rcases Bool.eq_false_or_eq_true (doB b p l) with hD | hD
  · have hD' := hD
    simp only [doB, Bool.and_eq_true] at hD'
    obtain ⟨hP, hL, hJ⟩ := hD'
    obtain ⟨w, h, s, q, rfl, rfl, hb, hq⟩ := posB_open hP
    obtain ⟨f, o, t, hl⟩ := lineB_ok hb hL
    have e := hl.eq
    subst e
    have hA := hb.area
    have f1 := hl.f1
    have o1 := hl.o1
    have t1 := hl.t1
    have q63 := b63_area hb (posB_lt hb hq)
    have l63 := b63_area hb (lbits_lt hl)
    have a1 := i64_xor q (lbits ⟨f, o, t⟩) q63 l63
    have H := Lib.hid (show ((q ^^^ lbits ⟨f, o, t⟩ : Nat) : Int) = doP ⟨w, h, s⟩ q ⟨f, o, t⟩ from (doP_yes hD).symm)
    rw [hD]
    generalize hLB : lbits ⟨f, o, t⟩ = L at a1 H
    have HLB := Lib.hid hLB
    clear hLB hP hL hJ
    go_enter Try.func64, Try.ntmps64
    go_wp2_with fail
    refine (is_ (sCanJump_ ⟨w, h, s⟩ ⟨f, o, t⟩ q hp _) hD).mono ?_
    rintro e W1 ⟨rfl, hb1⟩
    obtain ⟨hc, hf⟩ := bcell hb1
    have hz : W.heap.size + 2 ≤ W1.heap.size := by have := hb1.size; simpa using this
    have hz1 : W.heap.size + 1 < W1.heap.size := by omega
    have hW1 : Below W.heap.size W W1 := below_step (((Below.refl _ _).alloc (Nat.le_refl _) _).alloc (by simp) _) hb1 (by simp; omega)
    have r0 : W1.cell? ⟨W.heap.size + 1, 0, none⟩ = some (.int .i64 f) := by rw [hc _ _ (by simp)]; simp [go_sem]
    have r1 : W1.cell? ⟨W.heap.size + 1, 1, none⟩ = some (.int .i64 o) := by rw [hc _ _ (by simp)]; simp [go_sem]
    have r2 : W1.cell? ⟨W.heap.size + 1, 2, none⟩ = some (.int .i64 t) := by rw [hc _ _ (by simp)]; simp [go_sem]
    clear hc hf hb1
    go_wp2_with fail
    refine (isI_ (l05Bits_ f o t (by omega) (by omega) (by omega) _) (congrArg Int.ofNat HLB.out)).mono ?_
    rintro e W2 ⟨rfl, hb2⟩
    have e3 : Int.ofNat L = (L : Int) := rfl
    rw [e3]
    clear e3
    go_wp2
    go_ret2
    exact ⟨by rw [← H.out]; rfl, below_next hW1 hb2⟩
  · have H := Lib.hid (doP_no hD)
    rw [hD]
    go_enter Try.func64, Try.ntmps64
    go_wp2_with fail
    refine (is_ (sCanJump_ b l p hp _) hD).mono ?_
    rintro e W1 ⟨rfl, hb1⟩
    have hW1 : Below W.heap.size W W1 := below_step (((Below.refl _ _).alloc (Nat.le_refl _) _).alloc (by simp) _) hb1 (by simp; omega)
    go_wp2
    go_ret2
    exact ⟨by rw [H.out]; rfl, hW1⟩
set_option maxHeartbeats 1000000 in
theorem iDoJump_ (b l : Ln) (p : Int) (hp : I64 p) (W : World) :
    Calls Try.prog 154 #[.agg #[.int .i64 b.f, .int .i64 b.o, .int .i64 b.t], .int .i64 p, .agg #[.int .i64 l.f, .int .i64 l.o, .int .i64 l.t]] W fun e w' => e = .returned (.tuple #[.int .i64 (doP b p l), .bool (doB b p l)]) ∧ Below W.heap.size W w' := by
  rcases Bool.eq_false_or_eq_true (posB b p) with hP | hP
  · rcases Bool.eq_false_or_eq_true (lineB b l) with hL | hL
    · obtain ⟨w, h, s, q, rfl, rfl, hb, hq⟩ := posB_open hP
      obtain ⟨f, o, t, hl⟩ := lineB_ok hb hL
      have e := hl.eq
      subst e
      have hA := hb.area
      have f1 := hl.f1
      have o1 := hl.o1
      have t1 := hl.t1
      have q63 := b63_area hb (posB_lt hb hq)
      have H := Lib.hid (show ((if canJ q ⟨f, o, t⟩ then flip q ⟨f, o, t⟩ else q : Nat) : Int) = doP ⟨w, h, s⟩ q ⟨f, o, t⟩ by
        rw [doP, doB_can hP hL]; split <;> simp)
      have H2 := Lib.hid (doB_can hP hL).symm
      have HL := Lib.hid hl
      clear hl
      go_enter Try.func154, Try.ntmps154
      go_wp2_with fail
      refine (is_ (iPositionOk_ ⟨w, h, s⟩ q hp _) hP).mono ?_
      rintro e W1 ⟨rfl, hb1⟩
      obtain ⟨hc, hf⟩ := bcell hb1
      have hz : W.heap.size + 2 ≤ W1.heap.size := by have := hb1.size; simpa using this
      have hz1 : W.heap.size + 1 < W1.heap.size := by omega
      have hW1 : Below W.heap.size W W1 := below_step (((Below.refl _ _).alloc (Nat.le_refl _) _).alloc (by simp) _) hb1 (by simp; omega)
      have b0 : W1.cell? ⟨W.heap.size, 0, none⟩ = some (.int .i64 w) := by rw [hc _ _ (by simp; try omega)]; simp [go_sem]
      have b1 : W1.cell? ⟨W.heap.size, 1, none⟩ = some (.int .i64 h) := by rw [hc _ _ (by simp; try omega)]; simp [go_sem]
      have b2 : W1.cell? ⟨W.heap.size, 2, none⟩ = some (.int .i64 s) := by rw [hc _ _ (by simp; try omega)]; simp [go_sem]
      have r0 : W1.cell? ⟨W.heap.size + 1, 0, none⟩ = some (.int .i64 f) := by rw [hc _ _ (by simp)]; simp [go_sem]
      have r1 : W1.cell? ⟨W.heap.size + 1, 1, none⟩ = some (.int .i64 o) := by rw [hc _ _ (by simp)]; simp [go_sem]
      have r2 : W1.cell? ⟨W.heap.size + 1, 2, none⟩ = some (.int .i64 t) := by rw [hc _ _ (by simp)]; simp [go_sem]
      clear hc hf hb1
      go_wp2_with fail
      refine (is_ (isLine_ ⟨w, h, s⟩ ⟨f, o, t⟩ _) hL).mono ?_
      rintro e W2 ⟨rfl, hb2⟩
      have s0 := (hb2.cell (p := ⟨W.heap.size + 1, 0, none⟩) hz1).trans r0
      have s1 := (hb2.cell (p := ⟨W.heap.size + 1, 1, none⟩) hz1).trans r1
      have s2 := (hb2.cell (p := ⟨W.heap.size + 1, 2, none⟩) hz1).trans r2
      have hW2 := below_next hW1 hb2
      have hz2 : W.heap.size + 1 < W2.heap.size := by have := hb2.size; omega
      clear b0 b1 b2 r0 r1 r2
      go_wp2_with fail
      refine (jumpFrom_ q f o t q63 (by omega) (by omega) (by omega) HL.out.ft HL.out.ot _).mono ?_
      rintro e W3 ⟨rfl, hb3⟩
      rw [H.out, H2.out]
      generalize hx : doP ⟨w, h, s⟩ q ⟨f, o, t⟩ = x
      generalize hy : doB ⟨w, h, s⟩ q ⟨f, o, t⟩ = y
      have HX := Lib.hid hx
      have HY := Lib.hid hy
      clear s0 s1 s2 hP hL hx hy H H2
      go_wp2
      go_ret2
      exact ⟨by rw [HX.out, HY.out]; rfl, below_next hW2 hb3⟩
    · have HD := Lib.hid (doB_line (p := p) hL)
      have HP := Lib.hid (doP_no HD.out)
      go_enter Try.func154, Try.ntmps154
      go_wp2_with fail
      refine (is_ (iPositionOk_ b p hp _) hP).mono ?_
      rintro e W1 ⟨rfl, hb1⟩
      obtain ⟨hc, hf⟩ := bcell hb1
      have hz : W.heap.size + 2 ≤ W1.heap.size := by have := hb1.size; simpa using this
      have hz1 : W.heap.size + 1 < W1.heap.size := by omega
      have hW1 : Below W.heap.size W W1 := below_step (((Below.refl _ _).alloc (Nat.le_refl _) _).alloc (by simp) _) hb1 (by simp; omega)
      have b0 : W1.cell? ⟨W.heap.size, 0, none⟩ = some (.int .i64 b.f) := by rw [hc _ _ (by simp; try omega)]; simp [go_sem]
      have b1 : W1.cell? ⟨W.heap.size, 1, none⟩ = some (.int .i64 b.o) := by rw [hc _ _ (by simp; try omega)]; simp [go_sem]
      have b2 : W1.cell? ⟨W.heap.size, 2, none⟩ = some (.int .i64 b.t) := by rw [hc _ _ (by simp; try omega)]; simp [go_sem]
      have r0 : W1.cell? ⟨W.heap.size + 1, 0, none⟩ = some (.int .i64 l.f) := by rw [hc _ _ (by simp)]; simp [go_sem]
      have r1 : W1.cell? ⟨W.heap.size + 1, 1, none⟩ = some (.int .i64 l.o) := by rw [hc _ _ (by simp)]; simp [go_sem]
      have r2 : W1.cell? ⟨W.heap.size + 1, 2, none⟩ = some (.int .i64 l.t) := by rw [hc _ _ (by simp)]; simp [go_sem]
      clear hc hf hb1
      go_wp2_with fail
      refine (is_ (isLine_ b l _) hL).mono ?_
      rintro e W2 ⟨rfl, hb2⟩
      go_wp2
      go_ret2
      exact ⟨by rw [HD.out, HP.out]; rfl, below_next hW1 hb2⟩
  · have HD := Lib.hid (doB_pos (l := l) hP)
    have HP := Lib.hid (doP_no HD.out)
    go_enter Try.func154, Try.ntmps154
    go_wp2_with fail
    refine (is_ (iPositionOk_ b p hp _) hP).mono ?_
    rintro e W1 ⟨rfl, hb1⟩
    have hW1 : Below W.heap.size W W1 := below_step (((Below.refl _ _).alloc (Nat.le_refl _) _).alloc (by simp) _) hb1 (by simp; omega)
    go_wp2
    go_ret2
    exact ⟨by rw [HD.out, HP.out]; rfl, hW1⟩
set_option maxHeartbeats 1000000 in
theorem stuckIn_ (ls : List Ln) (A : Option Addr) (c p : Nat) (hp : B63 p) (hls : LsOk ls) (hm : ls.length ≤ 9223372036854775807) (w : World) (rd : Rd w w.heap.size A (flat ls)) :
    Calls Try.prog 125 #[.slice A ls.length c, .int .i64 p] w fun e w' => e = .returned (.bool (stuckL ls p)) ∧ Below w.heap.size w w' := by
  have HLS := Lib.hid hls
  clear hls
  go_enter Try.func125, Try.ntmps125
  go_wp2_with fail
  go_loopw [11] (fun iv wr => ∃ i : Nat, i ≤ ls.length ∧ iv = .int .i64 i ∧ stuckL (ls.take i) p = true ∧ Below w.heap.size w wr) (fun iv _ => ls.length - (intOf iv).toNat)
  case atStart => exact ⟨0, Nat.zero_le _, rfl, rfl, Below.refl _ _⟩
  case round =>
    obtain ⟨i, hi, rfl, hst, hw⟩ := hrel
    have HST := Lib.hid hst
    have hsz := hw.size
    clear hst
    by_cases hlt : i < ls.length
    · obtain ⟨bb, off, l, rfl, hbl, hx, x0, x1, x2⟩ := (rd.below hw).line hlt
      obtain ⟨f, o, t, rfl, f1, o1, t1, hft, hot⟩ := HLS.out l (List.mem_of_getElem? hx)
      have HX := Lib.hid hx
      have i0 : (0 : Int) ≤ (i : Int) := by omega
      have i1 : (i : Int) < (ls.length : Int) := by omega
      have HF := Lib.hid hft
      have HO := Lib.hid hot
      clear hx hft hot
      have hbz : bb < wr.heap.size := by omega
      rcases Bool.eq_false_or_eq_true (canJ p ⟨f, o, t⟩) with h1 | h1
      · have HS := Lib.hid (stuck_no HX.out h1)
        go_wp2_with fail
        refine (jumpFrom_ p f o t hp (by omega) (by omega) (by omega) HF.out HO.out _).mono ?_
        rintro e w1 ⟨rfl, hb1⟩
        have hw1 := below_step (hw.alloc hsz _) hb1 (by simp; omega)
        go_wp2
        go_ret
        exact ⟨ret_bool HS.out.symm, hw1⟩
      · have HS := Lib.hid (stuck_next HX.out h1 HST.out)
        go_wp2_with fail
        refine (jumpFrom_ p f o t hp (by omega) (by omega) (by omega) HF.out HO.out _).mono ?_
        rintro e w1 ⟨rfl, hb1⟩
        have hw1 := below_step (hw.alloc hsz _) hb1 (by simp; omega)
        go_wp2
        go_roundw
        case rel => exact ⟨i + 1, by omega, by go_num, HS.out, hw1⟩
        case measure => simp [intOf]; omega
    · have e : i = ls.length := by omega
      subst e
      have HS : Hid (stuckL ls p = true) := Lib.hid (by have := HST.out; rwa [List.take_length] at this)
      go_wp2
      go_ret
      exact ⟨ret_bool HS.out.symm, hw⟩
end Go.Proofs.Ytbcgokpamhgabaa

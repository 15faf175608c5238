/- Jumps and games on a board as plain functions. No program in sight. The contracts of the functions on jumps. -/
import Derived.Test.YtbcgokpamhgabaaKc08
import Derived.Test.YtbcgokpamhgabaaChecked
import Derived.Test.YtbcgokpamhgabaaKc01
import Derived.Tactics
import Derived.Tactics2
import Derived.WalkKit
import Derived.WalkSpells
import Derived.WalkLawsBesides
import Derived.Deep.QuietTactic
import Derived.BigQuiet
import Derived.BigGuardPart
import Derived.Lib.QuietBelow
import Derived.OwnWalk
import Derived.KernelRfl
import Derived.Test.YtbcgokpamhgabaaKc12
namespace Go.Proofs.Ytbcgokpamhgabaa
set_option linter.unusedVariables false

/-- The first line of a list from one hole to another. -/
def findL (ls : List Ln) (a c : Int) : Option Ln := ls.find? fun l => l.f == a && l.t == c
def btwL (ls : List Ln) (a c : Int) : Ln := (findL ls a c).getD ⟨0, 0, 0⟩
def btwB (ls : List Ln) (a c : Int) : Bool := (findL ls a c).isSome
theorem find_take {ls : List Ln} {a c : Int} {i : Nat} {l : Ln} (h0 : findL (ls.take i) a c = none) (hl : ls[i]? = some l) (hn : (l.f == a && l.t == c) = false) : findL (ls.take (i + 1)) a c = none := by
  obtain ⟨hi, e⟩ := List.getElem?_eq_some_iff.1 hl
  unfold findL at *
  rw [List.take_succ_eq_append_getElem hi, List.find?_append, h0, e]
  simp [List.find?, hn]
theorem find_hit {ls : List Ln} {a c : Int} {i : Nat} {l : Ln} (h0 : findL (ls.take i) a c = none) (hl : ls[i]? = some l) (hn : (l.f == a && l.t == c) = true) : findL ls a c = some l := by
  obtain ⟨hi, e⟩ := List.getElem?_eq_some_iff.1 hl
  unfold findL at *
  rw [← List.take_append_drop i ls, List.find?_append, h0, List.drop_eq_getElem_cons hi, e]
  simp [List.find?, hn]
theorem find_all {ls : List Ln} {a c : Int} (h0 : findL (ls.take ls.length) a c = none) : findL ls a c = none := by rwa [List.take_length] at h0

/-- Is l one of the board's lines? -/
def lineB (b : Ln) (l : Ln) : Bool := btwB (linesL b) l.f l.t && eqL (btwL (linesL b) l.f l.t) l
theorem eqL_eq {a c : Ln} (h : eqL a c = true) : a = c := by simpa [eqL] using h
theorem lineB_mem {b l : Ln} (h : lineB b l = true) : l ∈ linesL b := by
  simp only [lineB, Bool.and_eq_true] at h
  obtain ⟨h1, h2⟩ := h
  have h2 := eqL_eq h2
  unfold btwB at h1
  unfold btwL at h2
  cases hf : findL (linesL b) l.f l.t with
  | none => rw [hf] at h1; cases h1
  | some m =>
    rw [hf] at h2
    simp only [Option.getD_some] at h2
    subst h2
    exact List.mem_of_find?_eq_some hf
theorem lineB_ok {w h s : Nat} {l : Ln} (hb : BdOk w h s) (hl : lineB ⟨w, h, s⟩ l = true) : ∃ f o t, LnOk w h s l f o t := linesL_ok hb (lineB_mem hl)
theorem lineB_no {b l : Ln} (h : boardB b = false) : lineB b l = false := by simp [lineB, btwB, findL, linesL_no h]

/-- A jump that is possible, and what it leads to. -/
def doB (b : Ln) (p : Int) (l : Ln) : Bool := posB b p && (lineB b l && canJ p.toNat l)
def doP (b : Ln) (p : Int) (l : Ln) : Int := if doB b p l then (flip p.toNat l : Nat) else p
theorem doB_pos {b l : Ln} {p : Int} (h : posB b p = false) : doB b p l = false := by simp [doB, h]
theorem doB_line {b l : Ln} {p : Int} (h : lineB b l = false) : doB b p l = false := by simp [doB, h]
theorem doB_can {b l : Ln} {p : Nat} (h : posB b p = true) (h1 : lineB b l = true) : doB b p l = canJ p l := by simp [doB, h, h1]
theorem doP_no {b l : Ln} {p : Int} (h : doB b p l = false) : doP b p l = p := by simp [doP, h]
theorem doP_yes {b l : Ln} {p : Nat} (h : doB b p l = true) : doP b p l = (flip p l : Nat) := by simp [doP, h]
theorem posB_lt {w h s q : Nat} (hb : BdOk w h s) (hq : q &&& s = q) : q < 2 ^ (w * h) := Nat.lt_of_le_of_lt (sub_le hq) hb.s2
theorem b63_area {w h s q : Nat} (hb : BdOk w h s) (hq : q < 2 ^ (w * h)) : B63 q := by
  have := Nat.lt_of_lt_of_le hq (Nat.pow_le_pow_right (n := 2) (by omega) hb.area.2)
  unfold B63; omega
theorem doP_pos {b l : Ln} {p : Int} (h : posB b p = true) : posB b (doP b p l) = true := by
  rcases Bool.eq_false_or_eq_true (doB b p l) with hd | hd
  · obtain ⟨w, hh, s, q, rfl, rfl, hb, hq⟩ := posB_open h
    rw [doP_yes hd]
    simp only [doB, Bool.and_eq_true] at hd
    obtain ⟨f, o, t, hl⟩ := lineB_ok hb hd.2.1
    exact posB_of hb (flip_sub hl hq)
  · rw [doP_no hd]; exact h
/-- p fits 64 bits. -/
def I64' (x : Int) : Prop := -9223372036854775808 ≤ x ∧ x ≤ 9223372036854775807
theorem posB_i64 {b : Ln} {p : Int} (h : posB b p = true) : I64' p := by
  obtain ⟨w, hh, s, q, rfl, rfl, hb, hq⟩ := posB_open h
  have := b63_area hb (posB_lt hb hq)
  unfold B63 at this
  unfold I64'
  omega

/-- Jumps played one after another, as far as i: are all possible? where do they lead? -/
def playP (b : Ln) (p : Int) (ls : List Ln) : Int := ls.foldl (doP b) p
def playsB (b : Ln) : Int → List Ln → Bool
  | _, [] => true
  | p, l :: ls => doB b p l && playsB b (doP b p l) ls
def playB (b : Ln) (p : Int) (ls : List Ln) : Bool := posB b p && (decide (ls.length ≤ 60) && playsB b p ls)
def playR (b : Ln) (p : Int) (ls : List Ln) : Int := if playB b p ls then playP b p ls else p
theorem playsB_append (b : Ln) (a c : List Ln) : ∀ p, playsB b p (a ++ c) = (playsB b p a && playsB b (playP b p a) c) := by
  induction a with
  | nil => intro p; rfl
  | cons x a ih => intro p; simp only [List.cons_append, playsB, ih, playP, List.foldl_cons, Bool.and_assoc]
theorem playP_take {b : Ln} {p : Int} {ls : List Ln} {i : Nat} {l : Ln} (hl : ls[i]? = some l) : playP b p (ls.take (i + 1)) = doP b (playP b p (ls.take i)) l := by
  obtain ⟨hi, e⟩ := List.getElem?_eq_some_iff.1 hl
  rw [List.take_succ_eq_append_getElem hi, e]
  simp [playP]
theorem playsB_take {b : Ln} {p : Int} {ls : List Ln} {i : Nat} {l : Ln} (hl : ls[i]? = some l) : playsB b p (ls.take (i + 1)) = (playsB b p (ls.take i) && doB b (playP b p (ls.take i)) l) := by
  obtain ⟨hi, e⟩ := List.getElem?_eq_some_iff.1 hl
  rw [List.take_succ_eq_append_getElem hi, e, playsB_append]
  simp [playsB]
theorem playsB_cut {b : Ln} {p : Int} {ls : List Ln} {i : Nat} (h : playsB b p (ls.take i) = false) : playsB b p ls = false := by
  rw [← List.take_append_drop i ls, playsB_append, h]; rfl
theorem playP_pos {b : Ln} {p : Int} (h : posB b p = true) (ls : List Ln) : posB b (playP b p ls) = true := by
  unfold playP
  induction ls generalizing p with
  | nil => exact h
  | cons x ls ih => exact ih (doP_pos h)
theorem playP_same {b : Ln} {p : Int} (h : posB b p = false) (ls : List Ln) : playP b p ls = p := by
  unfold playP
  induction ls with
  | nil => rfl
  | cons x ls ih => rw [List.foldl_cons, doP_no (doB_pos h)]; exact ih

/-- The jumps that are possible. -/
def jumpsL (b : Ln) (p : Int) : List Ln := if posB b p then (linesL b).filter (canJ p.toNat) else []
theorem filter_yes {ls : List Ln} {f : Ln → Bool} {i : Nat} {l : Ln} (hl : ls[i]? = some l) (hf : f l = true) : (ls.take (i + 1)).filter f = (ls.take i).filter f ++ [l] := by
  obtain ⟨hi, e⟩ := List.getElem?_eq_some_iff.1 hl
  rw [List.take_succ_eq_append_getElem hi, e]
  simp [hf]
theorem filter_no {ls : List Ln} {f : Ln → Bool} {i : Nat} {l : Ln} (hl : ls[i]? = some l) (hf : f l = false) : (ls.take (i + 1)).filter f = (ls.take i).filter f := by
  obtain ⟨hi, e⟩ := List.getElem?_eq_some_iff.1 hl
  rw [List.take_succ_eq_append_getElem hi, e]
  simp [hf]
def stuckL (ls : List Ln) (p : Nat) : Bool := !ls.any (canJ p)
theorem stuck_no {ls : List Ln} {p : Nat} {i : Nat} {l : Ln} (hl : ls[i]? = some l) (hf : canJ p l = true) : stuckL ls p = false := by
  simp only [stuckL, Bool.not_eq_false', List.any_eq_true]
  exact ⟨l, List.mem_of_getElem? hl, hf⟩
theorem stuck_next {ls : List Ln} {p : Nat} {i : Nat} {l : Ln} (hl : ls[i]? = some l) (hf : canJ p l = false) (h : stuckL (ls.take i) p = true) : stuckL (ls.take (i + 1)) p = true := by
  obtain ⟨hi, e⟩ := List.getElem?_eq_some_iff.1 hl
  simp only [stuckL, Bool.not_eq_true'] at *
  rw [List.take_succ_eq_append_getElem hi, e, List.any_append, h]
  simp [hf]
theorem stuck_jumps {b : Ln} {p : Nat} (h : posB b p = true) : stuckL (linesL b) p = decide ((jumpsL b p).length = 0) := by
  rw [Bool.eq_iff_iff]
  simp [stuckL, jumpsL, h]
def stuckB (b : Ln) (p : Int) : Bool := posB b p && decide ((jumpsL b p).length = 0)
def smallB (b : Ln) : Bool := boardB b && decide (b.f * b.o ≤ 16)
end Go.Proofs.Ytbcgokpamhgabaa
namespace Go.Proofs.Ytbcgokpamhgabaa
set_option linter.unusedVariables false
set_option maxRecDepth 20000
open Go.RowKit Go.Sort

theorem l05Bits_ (f o t : Nat) (hf : f < 63) (ho : o < 63) (ht : t < 63) (W : World) :
    Calls Try.prog 110 #[.agg #[.int .i64 f, .int .i64 o, .int .i64 t]] W fun e w' => e = .returned (.int .i64 (lbits ⟨f, o, t⟩ : Nat)) ∧ Below W.heap.size W w' := by
  have pf := i64_pow f hf
  have po := i64_pow o ho
  have pt := i64_pow t ht
  have o1 := i64_or (pow2 f) (pow2 o) (b63_pow2 hf) (b63_pow2 ho)
  have o2 := i64_or (pow2 f ||| pow2 o) (pow2 t) (b63_or (b63_pow2 hf) (b63_pow2 ho)) (b63_pow2 ht)
  have H := Lib.hid (show (pow2 f ||| pow2 o ||| pow2 t) = lbits ⟨f, o, t⟩ by simp [lbits])
  go_enter Try.func110, Try.ntmps110
  go_wp2_with fail
  go_quiet (fail)
  go_wp2
  go_ret
  exact ⟨ret_int (by rw [H.out]), below_drewN ((Below.refl _ _).alloc (Nat.le_refl _) _) _⟩
set_option maxHeartbeats 1000000 in
theorem jumpFrom_ (p f o t : Nat) (hp : B63 p) (hf : f < 63) (ho : o < 63) (ht : t < 63) (hft : f ≠ t) (hot : o ≠ t) (W : World) :
    Calls Try.prog 148 #[.int .i64 p, .agg #[.int .i64 f, .int .i64 o, .int .i64 t]] W fun e w' =>
      e = .returned (.tuple #[.int .i64 ((if canJ p ⟨f, o, t⟩ then flip p ⟨f, o, t⟩ else p : Nat) : Int), .bool (canJ p ⟨f, o, t⟩)]) ∧ Below W.heap.size W w' := by
  rcases Bool.eq_false_or_eq_true (p.testBit f) with h1 | h1
  · rcases Bool.eq_false_or_eq_true (p.testBit o) with h2 | h2
    · rcases Bool.eq_false_or_eq_true (p.testBit t) with h3 | h3
      · have hc : canJ p ⟨f, o, t⟩ = false := by simp [canJ, h3]
        rw [hc]
        go_enter Try.func148, Try.ntmps148
        go_wp2_with (go_at_call 98; refine (hasBit_ p _ hp (by omega) _).mono ?_; rintro e w' ⟨rfl, rfl⟩)
        go_ret2
        exact ⟨rfl, (Below.refl _ _).alloc (Nat.le_refl _) _⟩
      · have hc : canJ p ⟨f, o, t⟩ = true := by simp [canJ, h1, h2, h3]
        have hfl := flip_jump hc hft hot
        rw [hc, if_pos rfl]
        have HF := Lib.hid hfl
        have pf := i64_pow f hf
        have po := i64_pow o ho
        have pt := i64_pow t ht
        have a1 := i64_andNot p (pow2 f) hp (b63_pow2 hf)
        have a2 := i64_andNot (adiff p (pow2 f)) (pow2 o) (b63_adiff hp) (b63_pow2 ho)
        have a3 := i64_or (adiff (adiff p (pow2 f)) (pow2 o)) (pow2 t) (b63_adiff (b63_adiff hp)) (b63_pow2 ht)
        clear hfl hc
        go_enter Try.func148, Try.ntmps148
        go_wp2_with (go_at_call 98; refine (hasBit_ p _ hp (by omega) _).mono ?_; rintro e w' ⟨rfl, rfl⟩)
        go_quiet (fail)
        go_wp2
        go_ret2
        exact ⟨by rw [← HF.out]; rfl, below_drewN ((Below.refl _ _).alloc (Nat.le_refl _) _) _⟩
    · have hc : canJ p ⟨f, o, t⟩ = false := by simp [canJ, h2]
      rw [hc]
      go_enter Try.func148, Try.ntmps148
      go_wp2_with (go_at_call 98; refine (hasBit_ p _ hp (by omega) _).mono ?_; rintro e w' ⟨rfl, rfl⟩)
      go_ret2
      exact ⟨rfl, (Below.refl _ _).alloc (Nat.le_refl _) _⟩
  · have hc : canJ p ⟨f, o, t⟩ = false := by simp [canJ, h1]
    rw [hc]
    go_enter Try.func148, Try.ntmps148
    go_wp2_with (go_at_call 98; refine (hasBit_ p _ hp (by omega) _).mono ?_; rintro e w' ⟨rfl, rfl⟩)
    go_ret2
    exact ⟨rfl, (Below.refl _ _).alloc (Nat.le_refl _) _⟩
set_option maxHeartbeats 1000000 in
theorem iLineBetween_ (b : Ln) (x y : Int) (W : World) :
    Calls Try.prog 171 #[.agg #[.int .i64 b.f, .int .i64 b.o, .int .i64 b.t], .int .i64 x, .int .i64 y] W fun e w' =>
      e = .returned (.tuple #[.agg #[.int .i64 (btwL (linesL b) x y).f, .int .i64 (btwL (linesL b) x y).o, .int .i64 (btwL (linesL b) x y).t], .bool (btwB (linesL b) x y)]) ∧ Below W.heap.size W w' := by
  have hle := linesL_le b
  obtain ⟨ls, hls⟩ : ∃ ls, linesL b = ls := ⟨_, rfl⟩
  rw [hls] at hle ⊢
  have HLS := Lib.hid hls
  clear hls
  go_enter Try.func171, Try.ntmps171
  go_wp2_with fail
  refine (iLinesOf_ b _).mono ?_
  rintro e W1 ⟨A1, c1, rfl, rd1, hb1⟩
  rw [HLS.out] at rd1 ⊢
  obtain ⟨hc, hf⟩ := bcell hb1
  have hz : W.heap.size + 2 ≤ W1.heap.size := by have := hb1.size; simpa using this
  have r0 : W1.cell? ⟨W.heap.size + 1, 0, none⟩ = some (.int .i64 0) := by rw [hc _ _ (by simp)]; simp [go_sem]
  have r1 : W1.cell? ⟨W.heap.size + 1, 1, none⟩ = some (.int .i64 0) := by rw [hc _ _ (by simp)]; simp [go_sem]
  have r2 : W1.cell? ⟨W.heap.size + 1, 2, none⟩ = some (.int .i64 0) := by rw [hc _ _ (by simp)]; simp [go_sem]
  have z0 : W1.frozen? ⟨W.heap.size + 1, 0, none⟩ = false := by rw [hf _ _ (by simp)]; simp [go_sem]
  have z1 : W1.frozen? ⟨W.heap.size + 1, 1, none⟩ = false := by rw [hf _ _ (by simp)]; simp [go_sem]
  have z2 : W1.frozen? ⟨W.heap.size + 1, 2, none⟩ = false := by rw [hf _ _ (by simp)]; simp [go_sem]
  have hW1 : Below W.heap.size W W1 := below_step (((Below.refl _ _).alloc (Nat.le_refl _) _).alloc (by simp) _) hb1 (by simp; omega)
  clear hc hf hb1
  go_wp2_with fail
  go_loopw [13] (fun iv wr => ∃ (i : Nat), i ≤ ls.length ∧ iv = .int .i64 i ∧ findL (ls.take i) x y = none ∧ Below W1.heap.size W1 wr) (fun iv _ => ls.length - (intOf iv).toNat)
  case atStart => exact ⟨0, Nat.zero_le _, rfl, rfl, Below.refl _ _⟩
  case round =>
    obtain ⟨i, hi, rfl, hfd, hw⟩ := hrel
    have hsz := hw.size
    have hzz : W.heap.size + 1 < wr.heap.size := by omega
    have q0 := (hw.cell (p := ⟨W.heap.size + 1, 0, none⟩) (show W.heap.size + 1 < W1.heap.size by omega)).trans r0
    have q1 := (hw.cell (p := ⟨W.heap.size + 1, 1, none⟩) (show W.heap.size + 1 < W1.heap.size by omega)).trans r1
    have q2 := (hw.cell (p := ⟨W.heap.size + 1, 2, none⟩) (show W.heap.size + 1 < W1.heap.size by omega)).trans r2
    have y0 := (hw.frozen (p := ⟨W.heap.size + 1, 0, none⟩) (show W.heap.size + 1 < W1.heap.size by omega)).trans z0
    have y1 := (hw.frozen (p := ⟨W.heap.size + 1, 1, none⟩) (show W.heap.size + 1 < W1.heap.size by omega)).trans z1
    have y2 := (hw.frozen (p := ⟨W.heap.size + 1, 2, none⟩) (show W.heap.size + 1 < W1.heap.size by omega)).trans z2
    clear r0 r1 r2 z0 z1 z2
    have HFD := Lib.hid hfd
    clear hfd
    have hw' := below_next hW1 hw
    by_cases hlt : i < ls.length
    · obtain ⟨bb, off, l, rfl, hbl, hx, x0, x1, x2⟩ := (rd1.below hw).line hlt
      have HX := Lib.hid hx
      have i0 : (0 : Int) ≤ (i : Int) := by omega
      have i1 : (i : Int) < (ls.length : Int) := by omega
      clear hx
      have hbz : bb < wr.heap.size := by omega
      rcases Bool.eq_false_or_eq_true (l.f == x) with h1 | h1
      · rcases Bool.eq_false_or_eq_true (l.t == y) with h2 | h2
        · have hh := find_hit HFD.out HX.out (by rw [h1, h2]; rfl)
          have HL : Hid (btwL ls x y = l) := Lib.hid (by simp [btwL, hh])
          have HB : Hid (btwB ls x y = true) := Lib.hid (by simp [btwB, hh])
          clear hh
          go_wp2
          refine bodyPost_ret (v := .tuple #[.agg #[.int .i64 l.f, .int .i64 l.o, .int .i64 l.t], .bool true]) (by simp [results, Try.results171, go_sem, *]) rfl ⟨by rw [HL.out, HB.out], ?_⟩
          repeat (first | exact hw' | refine Below.setCell ?_ (by simp) _ | refine Below.alloc ?_ (by have := hw'.size; first | omega | (simp; omega)) _)
        · have HN := Lib.hid (find_take HFD.out HX.out (show (l.f == x && l.t == y) = false by rw [h2, Bool.and_false]))
          go_wp2
          go_roundw
          case rel => exact ⟨i + 1, by omega, by go_num, HN.out, by repeat (first | exact hw | refine Below.alloc ?_ (by first | omega | (simp; omega)) _)⟩
          case measure => simp [intOf]; omega
      · have HN := Lib.hid (find_take HFD.out HX.out (show (l.f == x && l.t == y) = false by rw [h1, Bool.false_and]))
        go_wp2
        go_roundw
        case rel => exact ⟨i + 1, by omega, by go_num, HN.out, by repeat (first | exact hw | refine Below.alloc ?_ (by first | omega | (simp; omega)) _)⟩
        case measure => simp [intOf]; omega
    · have e : i = ls.length := by omega
      subst e
      have hh := find_all HFD.out
      have HL : Hid (btwL ls x y = ⟨0, 0, 0⟩) := Lib.hid (by simp [btwL, hh])
      have HB : Hid (btwB ls x y = false) := Lib.hid (by simp [btwB, hh])
      clear hh
      go_wp2
      refine bodyPost_ret (v := .tuple #[.agg #[.int .i64 0, .int .i64 0, .int .i64 0], .bool false]) (by simp [results, Try.results171, go_sem, *]) rfl ⟨by rw [HL.out, HB.out], ?_⟩
      repeat (first | exact hw' | refine Below.setCell ?_ (by simp) _ | refine Below.alloc ?_ (by have := hw'.size; first | omega | (simp; omega)) _)
set_option maxHeartbeats 1000000 in
theorem sLineBetween_ (b : Ln) (x y : Int) (W : World) :
    Calls Try.prog 168 #[.agg #[.int .i64 b.f, .int .i64 b.o, .int .i64 b.t], .int .i64 x, .int .i64 y] W fun e w' =>
      e = .returned (.tuple #[.agg #[.int .i64 (btwL (linesL b) x y).f, .int .i64 (btwL (linesL b) x y).o, .int .i64 (btwL (linesL b) x y).t], .bool (btwB (linesL b) x y)]) ∧ Below W.heap.size W w' := by
  have hle := linesL_le b
  obtain ⟨ls, hls⟩ : ∃ ls, linesL b = ls := ⟨_, rfl⟩
  rw [hls] at hle ⊢
  have HLS := Lib.hid hls
  clear hls
  go_enter Try.func168, Try.ntmps168
  go_wp2_with fail
  refine (sLinesOf_ b _).mono ?_
  rintro e W1 ⟨A1, c1, rfl, rd1, hb1⟩
  rw [HLS.out] at rd1 ⊢
  obtain ⟨hc, hf⟩ := bcell hb1
  have hz : W.heap.size + 2 ≤ W1.heap.size := by have := hb1.size; simpa using this
  have r0 : W1.cell? ⟨W.heap.size + 1, 0, none⟩ = some (.int .i64 0) := by rw [hc _ _ (by simp)]; simp [go_sem]
  have r1 : W1.cell? ⟨W.heap.size + 1, 1, none⟩ = some (.int .i64 0) := by rw [hc _ _ (by simp)]; simp [go_sem]
  have r2 : W1.cell? ⟨W.heap.size + 1, 2, none⟩ = some (.int .i64 0) := by rw [hc _ _ (by simp)]; simp [go_sem]
  have z0 : W1.frozen? ⟨W.heap.size + 1, 0, none⟩ = false := by rw [hf _ _ (by simp)]; simp [go_sem]
  have z1 : W1.frozen? ⟨W.heap.size + 1, 1, none⟩ = false := by rw [hf _ _ (by simp)]; simp [go_sem]
  have z2 : W1.frozen? ⟨W.heap.size + 1, 2, none⟩ = false := by rw [hf _ _ (by simp)]; simp [go_sem]
  have hW1 : Below W.heap.size W W1 := below_step (((Below.refl _ _).alloc (Nat.le_refl _) _).alloc (by simp) _) hb1 (by simp; omega)
  clear hc hf hb1
  go_wp2_with fail
  go_loopw [9] (fun iv wr => ∃ (i : Nat), i ≤ ls.length ∧ iv = .int .i64 i ∧ findL (ls.take i) x y = none ∧ Below W1.heap.size W1 wr) (fun iv _ => ls.length - (intOf iv).toNat)
  case atStart => exact ⟨0, Nat.zero_le _, rfl, rfl, Below.refl _ _⟩
  case round =>
    obtain ⟨i, hi, rfl, hfd, hw⟩ := hrel
    have hsz := hw.size
    have hzz : W.heap.size + 1 < wr.heap.size := by omega
    have q0 := (hw.cell (p := ⟨W.heap.size + 1, 0, none⟩) (show W.heap.size + 1 < W1.heap.size by omega)).trans r0
    have q1 := (hw.cell (p := ⟨W.heap.size + 1, 1, none⟩) (show W.heap.size + 1 < W1.heap.size by omega)).trans r1
    have q2 := (hw.cell (p := ⟨W.heap.size + 1, 2, none⟩) (show W.heap.size + 1 < W1.heap.size by omega)).trans r2
    have y0 := (hw.frozen (p := ⟨W.heap.size + 1, 0, none⟩) (show W.heap.size + 1 < W1.heap.size by omega)).trans z0
    have y1 := (hw.frozen (p := ⟨W.heap.size + 1, 1, none⟩) (show W.heap.size + 1 < W1.heap.size by omega)).trans z1
    have y2 := (hw.frozen (p := ⟨W.heap.size + 1, 2, none⟩) (show W.heap.size + 1 < W1.heap.size by omega)).trans z2
    clear r0 r1 r2 z0 z1 z2
    have HFD := Lib.hid hfd
    clear hfd
    have hw' := below_next hW1 hw
    by_cases hlt : i < ls.length
    · obtain ⟨bb, off, l, rfl, hbl, hx, x0, x1, x2⟩ := (rd1.below hw).line hlt
      have HX := Lib.hid hx
      have i0 : (0 : Int) ≤ (i : Int) := by omega
      have i1 : (i : Int) < (ls.length : Int) := by omega
      clear hx
      have hbz : bb < wr.heap.size := by omega
      rcases Bool.eq_false_or_eq_true (l.f == x) with h1 | h1
      · rcases Bool.eq_false_or_eq_true (l.t == y) with h2 | h2
        · have hh := find_hit HFD.out HX.out (by rw [h1, h2]; rfl)
          have HL : Hid (btwL ls x y = l) := Lib.hid (by simp [btwL, hh])
          have HB : Hid (btwB ls x y = true) := Lib.hid (by simp [btwB, hh])
          clear hh
          go_wp2
          refine bodyPost_ret (v := .tuple #[.agg #[.int .i64 l.f, .int .i64 l.o, .int .i64 l.t], .bool true]) (by simp [results, Try.results168, go_sem, *]) rfl ⟨by rw [HL.out, HB.out], ?_⟩
          repeat (first | exact hw' | refine Below.setCell ?_ (by simp) _ | refine Below.alloc ?_ (by have := hw'.size; first | omega | (simp; omega)) _)
        · have HN := Lib.hid (find_take HFD.out HX.out (show (l.f == x && l.t == y) = false by rw [h2, Bool.and_false]))
          go_wp2
          go_roundw
          case rel => exact ⟨i + 1, by omega, by go_num, HN.out, by repeat (first | exact hw | refine Below.alloc ?_ (by first | omega | (simp; omega)) _)⟩
          case measure => simp [intOf]; omega
      · have HN := Lib.hid (find_take HFD.out HX.out (show (l.f == x && l.t == y) = false by rw [h1, Bool.false_and]))
        go_wp2
        go_roundw
        case rel => exact ⟨i + 1, by omega, by go_num, HN.out, by repeat (first | exact hw | refine Below.alloc ?_ (by first | omega | (simp; omega)) _)⟩
        case measure => simp [intOf]; omega
    · have e : i = ls.length := by omega
      subst e
      have hh := find_all HFD.out
      have HL : Hid (btwL ls x y = ⟨0, 0, 0⟩) := Lib.hid (by simp [btwL, hh])
      have HB : Hid (btwB ls x y = false) := Lib.hid (by simp [btwB, hh])
      clear hh
      go_wp2
      refine bodyPost_ret (v := .tuple #[.agg #[.int .i64 0, .int .i64 0, .int .i64 0], .bool false]) (by simp [results, Try.results168, go_sem, *]) rfl ⟨by rw [HL.out, HB.out], ?_⟩
      repeat (first | exact hw' | refine Below.setCell ?_ (by simp) _ | refine Below.alloc ?_ (by have := hw'.size; first | omega | (simp; omega)) _)
end Go.Proofs.Ytbcgokpamhgabaa

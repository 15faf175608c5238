/- Jumps and games on a board as plain functions. No program in sight. -/
import Derived.Test.YtbcgokpamhgabaaKb10
namespace Go.Proofs.Ytbcgokpamhgabaa
set_option linter.unusedVariables false

/-- The first line of a list from one hole to another. -/
def findL (ls : List Ln) (a c : Int) : Option Ln := ls.find? fun l => l.f == a && l.t == c
def btwL (ls : List Ln) (a c : Int) : Ln := (findL ls a c).getD ⟨0, 0, 0⟩
def btwB (ls : List Ln) (a c : Int) : Bool := (findL ls a c).isSome
theorem find_take {ls : List Ln} {a c : Int} {i : Nat} {l : Ln} (h0 : findL (ls.take i) a c = none) (hl : ls[i]? = some l) (hn : (l.f == a && l.t == c) = false) : findL (ls.take (i + 1)) a c = none := by
  obtain ⟨hi, e⟩ := List.getElem?_eq_some_iff.1 hl
  unfold findL at *
  rw [List.take_succ_eq_append_getElem hi, List.find?_append, h0, e]
  simp [List.find?, hn]
theorem find_hit {ls : List Ln} {a c : Int} {i : Nat} {l : Ln} (h0 : findL (ls.take i) a c = none) (hl : ls[i]? = some l) (hn : (l.f == a && l.t == c) = true) : findL ls a c = some l := by
  obtain ⟨hi, e⟩ := List.getElem?_eq_some_iff.1 hl
  unfold findL at *
  rw [← List.take_append_drop i ls, List.find?_append, h0, List.drop_eq_getElem_cons hi, e]
  simp [List.find?, hn]
theorem find_all {ls : List Ln} {a c : Int} (h0 : findL (ls.take ls.length) a c = none) : findL ls a c = none := by rwa [List.take_length] at h0

/-- Is l one of the board's lines? -/
def lineB (b : Ln) (l : Ln) : Bool := btwB (linesL b) l.f l.t && eqL (btwL (linesL b) l.f l.t) l
theorem eqL_eq {a c : Ln} (h : eqL a c = true) : a = c := by simpa [eqL] using h
theorem lineB_mem {b l : Ln} (h : lineB b l = true) : l ∈ linesL b := by
  simp only [lineB, Bool.and_eq_true] at h
  obtain ⟨h1, h2⟩ := h
  have h2 := eqL_eq h2
  unfold btwB at h1
  unfold btwL at h2
  cases hf : findL (linesL b) l.f l.t with
  | none => rw [hf] at h1; cases h1
  | some m =>
    rw [hf] at h2
    simp only [Option.getD_some] at h2
    subst h2
    exact List.mem_of_find?_eq_some hf
theorem lineB_ok {w h s : Nat} {l : Ln} (hb : BdOk w h s) (hl : lineB ⟨w, h, s⟩ l = true) : ∃ f o t, LnOk w h s l f o t := linesL_ok hb (lineB_mem hl)
theorem lineB_no {b l : Ln} (h : boardB b = false) : lineB b l = false := by simp [lineB, btwB, findL, linesL_no h]

/-- A jump that is possible, and what it leads to. -/
def doB (b : Ln) (p : Int) (l : Ln) : Bool := posB b p && (lineB b l && canJ p.toNat l)
def doP (b : Ln) (p : Int) (l : Ln) : Int := if doB b p l then (flip p.toNat l : Nat) else p
theorem doB_pos {b l : Ln} {p : Int} (h : posB b p = false) : doB b p l = false := by simp [doB, h]
theorem doB_line {b l : Ln} {p : Int} (h : lineB b l = false) : doB b p l = false := by simp [doB, h]
theorem doB_can {b l : Ln} {p : Nat} (h : posB b p = true) (h1 : lineB b l = true) : doB b p l = canJ p l := by simp [doB, h, h1]
theorem doP_no {b l : Ln} {p : Int} (h : doB b p l = false) : doP b p l = p := by simp [doP, h]
theorem doP_yes {b l : Ln} {p : Nat} (h : doB b p l = true) : doP b p l = (flip p l : Nat) := by simp [doP, h]
theorem posB_lt {w h s q : Nat} (hb : BdOk w h s) (hq : q &&& s = q) : q < 2 ^ (w * h) := Nat.lt_of_le_of_lt (sub_le hq) hb.s2
theorem b63_area {w h s q : Nat} (hb : BdOk w h s) (hq : q < 2 ^ (w * h)) : B63 q := by
  have := Nat.lt_of_lt_of_le hq (Nat.pow_le_pow_right (n := 2) (by omega) hb.area.2)
  unfold B63; omega
theorem doP_pos {b l : Ln} {p : Int} (h : posB b p = true) : posB b (doP b p l) = true := by
  rcases Bool.eq_false_or_eq_true (doB b p l) with hd | hd
  · obtain ⟨w, hh, s, q, rfl, rfl, hb, hq⟩ := posB_open h
    rw [doP_yes hd]
    simp only [doB, Bool.and_eq_true] at hd
    obtain ⟨f, o, t, hl⟩ := lineB_ok hb hd.2.1
    exact posB_of hb (flip_sub hl hq)
  · rw [doP_no hd]; exact h
/-- p fits 64 bits. -/
def I64' (x : Int) : Prop := -9223372036854775808 ≤ x ∧ x ≤ 9223372036854775807
theorem posB_i64 {b : Ln} {p : Int} (h : posB b p = true) : I64' p := by
  obtain ⟨w, hh, s, q, rfl, rfl, hb, hq⟩ := posB_open h
  have := b63_area hb (posB_lt hb hq)
  unfold B63 at this
  unfold I64'
  omega

/-- Jumps played one after another, as far as i: are all possible? where do they lead? -/
def playP (b : Ln) (p : Int) (ls : List Ln) : Int := ls.foldl (doP b) p
def playsB (b : Ln) : Int → List Ln → Bool
  | _, [] => true
  | p, l :: ls => doB b p l && playsB b (doP b p l) ls
def playB (b : Ln) (p : Int) (ls : List Ln) : Bool := posB b p && (decide (ls.length ≤ 60) && playsB b p ls)
def playR (b : Ln) (p : Int) (ls : List Ln) : Int := if playB b p ls then playP b p ls else p
theorem playsB_append (b : Ln) (a c : List Ln) : ∀ p, playsB b p (a ++ c) = (playsB b p a && playsB b (playP b p a) c) := by
  induction a with
  | nil => intro p; rfl
  | cons x a ih => intro p; simp only [List.cons_append, playsB, ih, playP, List.foldl_cons, Bool.and_assoc]
theorem playP_take {b : Ln} {p : Int} {ls : List Ln} {i : Nat} {l : Ln} (hl : ls[i]? = some l) : playP b p (ls.take (i + 1)) = doP b (playP b p (ls.take i)) l := by
  obtain ⟨hi, e⟩ := List.getElem?_eq_some_iff.1 hl
  rw [List.take_succ_eq_append_getElem hi, e]
  simp [playP]
theorem playsB_take {b : Ln} {p : Int} {ls : List Ln} {i : Nat} {l : Ln} (hl : ls[i]? = some l) : playsB b p (ls.take (i + 1)) = (playsB b p (ls.take i) && doB b (playP b p (ls.take i)) l) := by
  obtain ⟨hi, e⟩ := List.getElem?_eq_some_iff.1 hl
  rw [List.take_succ_eq_append_getElem hi, e, playsB_append]
  simp [playsB]
theorem playsB_cut {b : Ln} {p : Int} {ls : List Ln} {i : Nat} (h : playsB b p (ls.take i) = false) : playsB b p ls = false := by
  rw [← List.take_append_drop i ls, playsB_append, h]; rfl
theorem playP_pos {b : Ln} {p : Int} (h : posB b p = true) (ls : List Ln) : posB b (playP b p ls) = true := by
  unfold playP
  induction ls generalizing p with
  | nil => exact h
  | cons x ls ih => exact ih (doP_pos h)
theorem playP_same {b : Ln} {p : Int} (h : posB b p = false) (ls : List Ln) : playP b p ls = p := by
  unfold playP
  induction ls with
  | nil => rfl
  | cons x ls ih => rw [List.foldl_cons, doP_no (doB_pos h)]; exact ih

/-- The jumps that are possible. -/
def jumpsL (b : Ln) (p : Int) : List Ln := if posB b p then (linesL b).filter (canJ p.toNat) else []
theorem filter_yes {ls : List Ln} {f : Ln → Bool} {i : Nat} {l : Ln} (hl : ls[i]? = some l) (hf : f l = true) : (ls.take (i + 1)).filter f = (ls.take i).filter f ++ [l] := by
  obtain ⟨hi, e⟩ := List.getElem?_eq_some_iff.1 hl
  rw [List.take_succ_eq_append_getElem hi, e]
  simp [hf]
theorem filter_no {ls : List Ln} {f : Ln → Bool} {i : Nat} {l : Ln} (hl : ls[i]? = some l) (hf : f l = false) : (ls.take (i + 1)).filter f = (ls.take i).filter f := by
  obtain ⟨hi, e⟩ := List.getElem?_eq_some_iff.1 hl
  rw [List.take_succ_eq_append_getElem hi, e]
  simp [hf]
def stuckL (ls : List Ln) (p : Nat) : Bool := !ls.any (canJ p)
theorem stuck_no {ls : List Ln} {p : Nat} {i : Nat} {l : Ln} (hl : ls[i]? = some l) (hf : canJ p l = true) : stuckL ls p = false := by
  simp only [stuckL, Bool.not_eq_false', List.any_eq_true]
  exact ⟨l, List.mem_of_getElem? hl, hf⟩
theorem stuck_next {ls : List Ln} {p : Nat} {i : Nat} {l : Ln} (hl : ls[i]? = some l) (hf : canJ p l = false) (h : stuckL (ls.take i) p = true) : stuckL (ls.take (i + 1)) p = true := by
  obtain ⟨hi, e⟩ := List.getElem?_eq_some_iff.1 hl
  simp only [stuckL, Bool.not_eq_true'] at *
  rw [List.take_succ_eq_append_getElem hi, e, List.any_append, h]
  simp [hf]
theorem stuck_jumps {b : Ln} {p : Nat} (h : posB b p = true) : stuckL (linesL b) p = decide ((jumpsL b p).length = 0) := by
  rw [Bool.eq_iff_iff]
  simp [stuckL, jumpsL, h]
def stuckB (b : Ln) (p : Int) : Bool := posB b p && decide ((jumpsL b p).length = 0)
def smallB (b : Ln) : Bool := boardB b && decide (b.f * b.o ≤ 16)
end Go.Proofs.Ytbcgokpamhgabaa

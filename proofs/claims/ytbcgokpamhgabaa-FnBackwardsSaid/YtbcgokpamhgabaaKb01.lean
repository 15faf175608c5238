/- Small facts on rows of lines and of numbers in memory; no program in sight. -/
import Derived.Test.YtbcgokpamhgabaaKb00
namespace Go.Proofs.Ytbcgokpamhgabaa
set_option linter.unusedVariables false
open Go.RowKit Go.Sort

def zln : Ln := ⟨0, 0, 0⟩

theorem own_at3 {w : World} {base g n c : Nat} {e : TypeId} {L : List Ln} (h : w.ownsRow base e 3 (.slice (some ⟨g, 0, none⟩) n c) n (flat L)) {k : Nat} (hk : k < n) :
    ∃ l, L[k]? = some l ∧ w.cell? ⟨g, k * 3, none⟩ = some (.int .i64 l.f) ∧ w.cell? ⟨g, k * 3 + 1, none⟩ = some (.int .i64 l.o) ∧ w.cell? ⟨g, k * 3 + 2, none⟩ = some (.int .i64 l.t) ∧
      w.frozen? ⟨g, k * 3, none⟩ = false ∧ w.frozen? ⟨g, k * 3 + 1, none⟩ = false ∧ w.frozen? ⟨g, k * 3 + 2, none⟩ = false := by
  have hl := h.1
  rw [flat_length] at hl
  have hL : L[k]? = some L[k] := List.getElem?_eq_getElem (by omega)
  have g3 := flat_get hL
  exact ⟨L[k], hL, (h.cellAt _ (by omega)).trans g3.1, (h.cellAt _ (by omega)).trans g3.2.1, (h.cellAt _ (by omega)).trans g3.2.2, h.frozenAt _, h.frozenAt _, h.frozenAt _⟩

theorem own_at1 {w : World} {base g n c : Nat} {e : TypeId} {L : List Int} (h : w.ownsRow base e 1 (.slice (some ⟨g, 0, none⟩) n c) n (ints L)) {k : Nat} (hk : k < n) :
    ∃ x, L[k]? = some x ∧ w.cell? ⟨g, k, none⟩ = some (.int .i64 x) ∧ w.frozen? ⟨g, k, none⟩ = false := by
  have hl := h.1
  rw [ints_length] at hl
  have hL : L[k]? = some L[k] := List.getElem?_eq_getElem (by omega)
  exact ⟨L[k], hL, (h.cellAt _ (by omega)).trans (by simp [ints, hL]), h.frozenAt _⟩

theorem flat_set {L : List Ln} {k : Nat} (l : Ln) : flat (L.set k l) = (((flat L).set (k * 3) (.int .i64 l.f)).set (k * 3 + 1) (.int .i64 l.o)).set (k * 3 + 2) (.int .i64 l.t) := by
  induction L generalizing k with
  | nil => simp [flat_nil]
  | cons x L ih =>
    cases k with
    | zero => simp [flat_cons]
    | succ k =>
      rw [show (k + 1) * 3 = k * 3 + 3 by omega, List.set_cons_succ, flat_cons, flat_cons, ih]
      simp [List.set_cons_succ]

theorem own_set3 {w : World} {base g n c : Nat} {e : TypeId} {L : List Ln} (h : w.ownsRow base e 3 (.slice (some ⟨g, 0, none⟩) n c) n (flat L)) (k : Nat) (l : Ln) :
    (((w.setCell ⟨g, k * 3, none⟩ (.int .i64 l.f)).setCell ⟨g, k * 3 + 1, none⟩ (.int .i64 l.o)).setCell ⟨g, k * 3 + 2, none⟩ (.int .i64 l.t)).ownsRow base e 3 (.slice (some ⟨g, 0, none⟩) n c) n (flat (L.set k l)) := by
  rw [flat_set]
  exact (((h.stored _ _).1.stored _ _).1.stored _ _).1

theorem own_set1 {w : World} {base g n c : Nat} {e : TypeId} {L : List Int} (h : w.ownsRow base e 1 (.slice (some ⟨g, 0, none⟩) n c) n (ints L)) (k : Nat) (x : Int) :
    (w.setCell ⟨g, k, none⟩ (.int .i64 x)).ownsRow base e 1 (.slice (some ⟨g, 0, none⟩) n c) n (ints (L.set k x)) := by
  rw [show ints (L.set k x) = (ints L).set k (.int .i64 x) by simp [ints, List.map_set]]
  exact (h.stored _ _).1

theorem set_fill {α : Type} (ls : List α) (z : α) {k : Nat} {l : α} (hl : ls[k]? = some l) :
    (ls.take k ++ List.replicate (ls.length - k) z).set k l = ls.take (k + 1) ++ List.replicate (ls.length - (k + 1)) z := by
  obtain ⟨hk, he⟩ := List.getElem?_eq_some_iff.1 hl
  have e1 : (ls.take k).length = k := by simp; omega
  rw [List.set_append_right _ _ (by omega), e1, Nat.sub_self, show ls.length - k = (ls.length - (k + 1)) + 1 by omega, List.replicate_succ, List.set_cons_zero, List.take_succ_eq_append_getElem hk, he]
  simp

theorem made_flat (n : Nat) : (madeCells (Value.agg #[.int .i64 0, .int .i64 0, .int .i64 0]).cells (n * 3)).toList = flat (List.replicate n zln) := by
  apply List.ext_getElem?
  intro j
  by_cases hj : j < n * 3
  · have hq : j / 3 < n := by omega
    have hr : (List.replicate n zln)[j / 3]? = some zln := by simp [hq]
    have g := flat_get hr
    have hm : j % 3 = 0 ∨ j % 3 = 1 ∨ j % 3 = 2 := by omega
    have hc : (madeCells (Value.agg #[.int .i64 0, .int .i64 0, .int .i64 0]).cells (n * 3)).toList[j]? = some (.int .i64 0) := by
      simp only [madeCells, Value.cells, Array.getElem?_toList, Array.getElem?_map, Array.getElem?_range, hj, if_true, Option.map_some]
      rcases hm with h | h | h <;> simp [h]
    rw [hc]
    rcases hm with h | h | h
    · rw [show j = j / 3 * 3 by omega, g.1]; rfl
    · rw [show j = j / 3 * 3 + 1 by omega, g.2.1]; rfl
    · rw [show j = j / 3 * 3 + 2 by omega, g.2.2]; rfl
  · rw [List.getElem?_eq_none (by simp [size_madeCells]; omega), List.getElem?_eq_none (by rw [flat_length]; simp; omega)]

theorem made_ints (n : Nat) : (madeCells (Value.int .i64 0).cells (n * 1)).toList = ints (List.replicate n 0) := by
  rw [Nat.mul_one]
  show (madeCells #[Value.int .i64 0] n).toList = _
  rw [toList_madeCells_one]
  simp [ints]

def bools (xs : List Bool) : List Value := xs.map Value.bool
theorem bools_length (xs : List Bool) : (bools xs).length = xs.length := by simp [bools]
theorem own_atB {w : World} {base g n c : Nat} {e : TypeId} {L : List Bool} (h : w.ownsRow base e 1 (.slice (some ⟨g, 0, none⟩) n c) n (bools L)) {k : Nat} (hk : k < n) :
    ∃ x, L[k]? = some x ∧ w.cell? ⟨g, k, none⟩ = some (.bool x) ∧ w.frozen? ⟨g, k, none⟩ = false := by
  have hl := h.1
  rw [bools_length] at hl
  have hL : L[k]? = some L[k] := List.getElem?_eq_getElem (by omega)
  exact ⟨L[k], hL, (h.cellAt _ (by omega)).trans (by simp [bools, hL]), h.frozenAt _⟩
theorem own_setB {w : World} {base g n c : Nat} {e : TypeId} {L : List Bool} (h : w.ownsRow base e 1 (.slice (some ⟨g, 0, none⟩) n c) n (bools L)) (k : Nat) (x : Bool) :
    (w.setCell ⟨g, k, none⟩ (.bool x)).ownsRow base e 1 (.slice (some ⟨g, 0, none⟩) n c) n (bools (L.set k x)) := by
  rw [show bools (L.set k x) = (bools L).set k (.bool x) by simp [bools, List.map_set]]
  exact (h.stored _ _).1
theorem made_bools (n : Nat) : (madeCells (Value.bool false).cells (n * 1)).toList = bools (List.replicate n false) := by
  rw [Nat.mul_one]
  show (madeCells #[Value.bool false] n).toList = _
  rw [toList_madeCells_one]
  simp [bools]

/-- The cells of a slice with an address, as an append reads them. -/
theorem rd_news {w : World} {B : Nat} {ad : Addr} {xs : List Value} (h : Rd w B (some ad) xs) : ∀ j u, xs[j]? = some u → w.cell? (ad.add j) = some u := by
  intro j u hu
  have hpos : 0 < xs.length := by have := (List.getElem?_eq_some_iff.1 hu).1; omega
  obtain ⟨b, off, e, _, hc⟩ := h hpos
  injection e with e
  subst e
  have hx := hc j u hu
  unfold Addr.add
  split
  · subst_vars; exact hx
  · exact hx
theorem rd_none {w : World} {B : Nat} {xs : List Value} (h : Rd w B none xs) : xs = [] := by
  cases xs with
  | nil => rfl
  | cons x xs =>
    obtain ⟨b, off, e, _⟩ := h (by simp)
    cases e

/-- Equality of two lists as a test that the walk leaves alone. -/
def eqB {α : Type} [DecidableEq α] (a b : List α) : Bool := decide (a = b)
theorem eqB_refl {α : Type} [DecidableEq α] (a : List α) : eqB a a = true := by simp [eqB]
theorem eqB_of {α : Type} [DecidableEq α] {a b : List α} (h : a = b) : eqB a b = true := by simp [eqB, h]
theorem eqB_no {α : Type} [DecidableEq α] {a b : List α} (h : a ≠ b) : eqB a b = false := by simp [eqB, h]
def eqL (a b : Ln) : Bool := decide (a = b)
theorem eqL_iff {a b : Ln} : eqL a b = true ↔ a = b := by simp [eqL]
theorem eqL_false {a b : Ln} : eqL a b = false ↔ a ≠ b := by simp [eqL]

theorem take_next {α : Type} {a b : List α} {k : Nat} {x : α} (h : a.take k = b.take k) (ha : a[k]? = some x) (hb : b[k]? = some x) : a.take (k + 1) = b.take (k + 1) := by
  rw [List.take_add_one, List.take_add_one, ha, hb, h]
theorem ne_of_get {α : Type} {a b : List α} {k : Nat} {x y : α} (ha : a[k]? = some x) (hb : b[k]? = some y) (h : x ≠ y) : a ≠ b := by
  rintro rfl
  rw [ha] at hb
  exact h (by injection hb)

/-- The marks k, k+1, .. that the laws write into a slice of numbers, and of lines. -/
def marks (k : Int) : Nat → List Int
  | 0 => []
  | n + 1 => k :: marks (k + 1) n
def marks3 (k : Int) : Nat → List Ln
  | 0 => []
  | n + 1 => ⟨k, k + 1, k + 2⟩ :: marks3 (k + 3) n
theorem marks_length (k : Int) (n : Nat) : (marks k n).length = n := by induction n generalizing k with
  | zero => rfl
  | succ n ih => simp [marks, ih]
theorem marks3_length (k : Int) (n : Nat) : (marks3 k n).length = n := by induction n generalizing k with
  | zero => rfl
  | succ n ih => simp [marks3, ih]
theorem marks_get (k : Int) (n i : Nat) (h : i < n) : (marks k n)[i]? = some (k + i) := by
  induction n generalizing k i with
  | zero => omega
  | succ n ih => cases i with
    | zero => simp [marks]
    | succ i => simp only [marks, List.getElem?_cons_succ]; rw [ih (k + 1) i (by omega)]; congr 1; omega
theorem marks3_get (k : Int) (n i : Nat) (h : i < n) : (marks3 k n)[i]? = some ⟨k + 3 * i, k + 3 * i + 1, k + 3 * i + 2⟩ := by
  induction n generalizing k i with
  | zero => omega
  | succ n ih => cases i with
    | zero => simp [marks3]
    | succ i =>
      simp only [marks3, List.getElem?_cons_succ]
      rw [ih (k + 3) i (by omega)]
      simp only [Option.some.injEq, Ln.ext_iff']
      omega
theorem mark_set {k : Int} {L : List Int} {i n : Nat} (hL : L.length = n) (hi : i < n) :
    ((marks k n).take i ++ L.drop i).set i (k + i) = (marks k n).take (i + 1) ++ L.drop (i + 1) := by
  have e1 : ((marks k n).take i).length = i := by simp [marks_length]; omega
  have e2 : L.drop i = L[i] :: L.drop (i + 1) := List.drop_eq_getElem_cons (by omega)
  rw [List.set_append_right _ _ (by omega), e1, Nat.sub_self, e2, List.set_cons_zero, List.take_add_one, marks_get k n i hi]
  simp
theorem mark3_set {k : Int} {L : List Ln} {i n : Nat} (hL : L.length = n) (hi : i < n) :
    ((marks3 k n).take i ++ L.drop i).set i ⟨k + 3 * i, k + 3 * i + 1, k + 3 * i + 2⟩ = (marks3 k n).take (i + 1) ++ L.drop (i + 1) := by
  have e1 : ((marks3 k n).take i).length = i := by simp [marks3_length]; omega
  have e2 : L.drop i = L[i] :: L.drop (i + 1) := List.drop_eq_getElem_cons (by omega)
  rw [List.set_append_right _ _ (by omega), e1, Nat.sub_self, e2, List.set_cons_zero, List.take_add_one, marks3_get k n i hi]
  simp
end Go.Proofs.Ytbcgokpamhgabaa

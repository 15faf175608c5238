/- How the arguments of the laws read: numbers, lines, boards, packages, slices of lines, of numbers and of bytes. Sets of bits as natural numbers: what &, |, ^, &^, << and >> on numbers of 64 bits do to them. No program in sight. -/
import Derived.Test.YtbcgokpamhgabaaRows
import Derived.Test.YtbcgokpamhgabaaKc01
import Derived.WalkKit
import Derived.ProofKit
import Derived.OpenShut
import Derived.ChangeOld
import Derived.Below
import Derived.Lib.SmallJoins
import Derived.Deep.Slices
import Derived.Deep.Fields
import Derived.ChangeSame
import Derived.Laws.BitsAllLaws
import Derived.Laws.BitsLemmas
namespace Go.Proofs.Ytbcgokpamhgabaa
set_option linter.unusedVariables false
open Go.ChangeShapes Go.WideShapes Go.ChangeAt Go.RowKit Go.Joins Go.Deep

theorem own : ownKnob Try.prog.godebug = none := by kernel_rfl
theorem laidOut : laidOutB Try.prog = true := by kernel_rfl

def I64 (x : Int) : Prop := -9223372036854775808 ≤ x ∧ x ≤ 9223372036854775807
theorem i64_of {x : Int} (h : (Lit.int .i64 x).wf = true) : I64 x := by
  simpa [Lit.wf, IntKind.min, IntKind.max, IntKind.signed, IntKind.bits, I64] using h

section
variable {H : Type} {enc : TypeId × Value → H} {P : Program} {w : World} {base : Nat} {spare : Nat → Bool} {held : Bool}
theorem open_slice_fields {t e : TypeId} {fs : Array Field} {fuel : Nat} {cs : List Value} {x : DataW H × List MemPlace} (ht : P.underlying t = some (.slice e)) (he : P.underlying e = some (.struct fs))
    (hone : oneCellFields P fs = true) (hC : P.cellsOf e = fs.size) (h : DataW.trod enc P w base spare held fuel t cs = some x) :
    (cs = [.slice none 0 0] ∧ x = (.nil, [])) ∨
    ∃ (a : Addr) (len cap m : Nat) (D : Nat → DataW H) (Pl : Nat → List MemPlace), cs = [.slice (some a) len cap] ∧ base ≤ a.block ∧ len ≤ cap ∧ cap ≤ maxLen ∧ m = (if spare a.block then cap else len) ∧
      x = (.slice ((List.range len).map D) ((List.range (m - len)).map fun j => D (len + j)), MemPlace.row a (m * fs.size) ++ (List.range m).flatMap Pl) ∧
      ∀ i, i < m → ∃ (ys : List (DataW H × List MemPlace)) (n : Nat), D i = .agg (ys.map (·.1)) ∧ Pl i = ys.flatMap (·.2) ∧ ys.length = fs.size ∧
        ∀ (j : Nat) (f : Field), fs[j]? = some f → ∃ (v : Value) (y : DataW H × List MemPlace), w.cell? (a.add (i * fs.size + j)) = some v ∧ ys[j]? = some y ∧ DataW.trod enc P w base spare held n f.type [v] = some y := by
  rcases open_slice ht h with h0 | ⟨a, len, cap, m, n, D, Pl, hcs, hb, hl, hm, hmm, hx, hi⟩
  · exact .inl h0
  · refine .inr ⟨a, len, cap, m, D, Pl, hcs, hb, hl, hm, hmm, by rw [hC] at hx; exact hx, fun i him => ?_⟩
    obtain ⟨cs', hc, ht'⟩ := hi i him
    rw [hC] at hc
    obtain ⟨ys, n', hn', hy, hlen, hyl, hf⟩ := DataW.trod_struct he ht'
    obtain ⟨_, hcl, hat⟩ := World.cells?_some hc
    simp only [Prod.mk.injEq] at hy
    refine ⟨ys, n', hy.1, hy.2, hyl, fun j f hj => ?_⟩
    obtain ⟨ho, hk⟩ := hone_of hone j f hj
    have hjl : j < fs.size := (Array.getElem?_eq_some_iff.1 hj).1
    have hcell := hat j hjl
    have hv : cs'[j]? = some (cs'[j]'(by omega)) := List.getElem?_eq_getElem (by omega)
    have h1 := hf j f hj
    rw [ho, hk] at h1
    have hone' : (cs'.drop j).take 1 = [cs'[j]'(by omega)] := by
      rw [List.drop_eq_getElem_cons (by omega)]
      rfl
    rw [hone'] at h1
    have hys : ys[j]? = some (ys[j]'(by omega)) := List.getElem?_eq_getElem (by omega)
    refine ⟨_, _, ?_, hys, h1.trans hys⟩
    rw [← Go.Deep.add_add, hcell, hv]

theorem add_cell {w : World} {a : Addr} {j : Nat} {v : Value} (h0 : a.spot = none) (h : w.cell? (a.add j) = some v) : w.cell? ⟨a.block, a.off + j, none⟩ = some v := by
  obtain ⟨b, o, s⟩ := a
  subst h0
  unfold Addr.add at h
  split at h
  · subst_vars; exact h
  · exact h

/-- A slice of structs of three numbers, read as lines. -/
theorem open_lines {t e ti : TypeId} {f0 f1 f2 : Field} {d : DataW H} {p : List MemPlace} {A : Option Addr} {n c : Nat}
    (ht : P.underlying t = some (.slice e)) (he : P.underlying e = some (.struct #[f0, f1, f2])) (hone : oneCellFields P #[f0, f1, f2] = true) (hC : P.cellsOf e = 3)
    (e0 : f0.type = ti) (e1 : f1.type = ti) (e2 : f2.type = ti) (hti : P.underlying ti = some (.int .i64))
    (h : DataW.Trod enc P w base spare held t (.slice A n c) d p) : ∃ ls : List Ln, ls.length = n ∧ Rd w w.heap.size A (flat ls) ∧ n ≤ 9223372036854775807 ∧ ∀ l ∈ ls, I64 l.f ∧ I64 l.o ∧ I64 l.t := by
  obtain ⟨fuel, hf⟩ := h
  rcases open_slice_fields ht he hone hC hf with ⟨hcs, _⟩ | ⟨a, len, cap, m, D, Pl, hcs, _, hl, hm, hmm, hx, hi⟩
  · simp [Value.cells] at hcs
    obtain ⟨rfl, rfl, rfl⟩ := hcs
    exact ⟨[], rfl, Rd.nil, by omega, by simp⟩
  · simp [Value.cells] at hcs
    obtain ⟨rfl, rfl, rfl⟩ := hcs
    have hge : n ≤ m := by subst hmm; split <;> omega
    have each : ∀ i, i < n → ∃ l : Ln, w.cell? (a.add (i * 3)) = some (.int .i64 l.f) ∧ w.cell? (a.add (i * 3 + 1)) = some (.int .i64 l.o) ∧ w.cell? (a.add (i * 3 + 2)) = some (.int .i64 l.t) ∧ I64 l.f ∧ I64 l.o ∧ I64 l.t := by
      intro i hin
      obtain ⟨ys, fu, _, _, _, hj⟩ := hi i (by omega)
      obtain ⟨v0, y0, c0, _, t0⟩ := hj 0 f0 rfl
      obtain ⟨v1, y1, c1, _, t1⟩ := hj 1 f1 rfl
      obtain ⟨v2, y2, c2, _, t2⟩ := hj 2 f2 rfl
      rw [e0] at t0; rw [e1] at t1; rw [e2] at t2
      obtain ⟨n0, h0, _, w0⟩ := DataW.trod_int hti t0
      obtain ⟨n1, h1, _, w1⟩ := DataW.trod_int hti t1
      obtain ⟨n2, h2, _, w2⟩ := DataW.trod_int hti t2
      simp at h0 h1 h2
      subst h0 h1 h2
      exact ⟨⟨n0, n1, n2⟩, c0, c1, c2, i64_of w0, i64_of w1, i64_of w2⟩
    have hch : ∃ F : Nat → Ln, ∀ i, i < n → w.cell? (a.add (i * 3)) = some (.int .i64 (F i).f) ∧ w.cell? (a.add (i * 3 + 1)) = some (.int .i64 (F i).o) ∧ w.cell? (a.add (i * 3 + 2)) = some (.int .i64 (F i).t) ∧ I64 (F i).f ∧ I64 (F i).o ∧ I64 (F i).t := by
      refine ⟨fun i => if h : i < n then (each i h).choose else default, fun i hin => ?_⟩
      simp only [hin, dif_pos]
      exact (each i hin).choose_spec
    obtain ⟨F, hF⟩ := hch
    refine ⟨(List.range n).map F, by simp, ?_, by simp only [maxLen] at hm; omega, ?_⟩
    · intro hpos
      have hn : 0 < n := by
        rw [flat_length] at hpos
        simp at hpos
        omega
      have hsp : a.spot = none := by
        have h0 := (hF 0 hn).1
        obtain ⟨b, o, s⟩ := a
        simpa [Addr.add] using World.cell?_spot h0
      refine ⟨a.block, a.off, by obtain ⟨b, o, s⟩ := a; simp at hsp; subst hsp; rfl, ?_, ?_⟩
      · have h0 := add_cell hsp (hF 0 hn).1
        have := World.block_lt_of_cell? w (⟨a.block, a.off + 0 * 3, none⟩ : Addr) h0
        exact this
      · intro j u hu
        have hjl : j < n * 3 := by
          have := (List.getElem?_eq_some_iff.1 hu).1
          rw [flat_length] at this
          simpa using this
        have hq : j / 3 < n := by omega
        have g := flat_get (ls := (List.range n).map F) (k := j / 3) (l := F (j / 3)) (by simp [hq])
        have hc := hF (j / 3) hq
        obtain h | h | h : j = j / 3 * 3 ∨ j = j / 3 * 3 + 1 ∨ j = j / 3 * 3 + 2 := by omega
        · rw [h] at hu ⊢; rw [g.1] at hu; injection hu with hu; subst hu; exact add_cell hsp hc.1
        · rw [h] at hu ⊢; rw [g.2.1] at hu; injection hu with hu; subst hu; exact add_cell hsp hc.2.1
        · rw [h] at hu ⊢; rw [g.2.2] at hu; injection hu with hu; subst hu; exact add_cell hsp hc.2.2.1
    · intro l hl'
      simp at hl'
      obtain ⟨i, hin, rfl⟩ := hl'
      exact (hF i hin).2.2.2

/-- A slice of numbers of 64 bits. -/
theorem open_numbers {t e : TypeId} {d : DataW H} {p : List MemPlace} {A : Option Addr} {n c : Nat}
    (ht : P.underlying t = some (.slice e)) (he : P.underlying e = some (.int .i64)) (hC : P.cellsOf e = 1)
    (h : DataW.Trod enc P w base spare held t (.slice A n c) d p) : ∃ xs : List Int, xs.length = n ∧ Rd w w.heap.size A (ints xs) ∧ n ≤ 9223372036854775807 ∧ ∀ x ∈ xs, I64 x := by
  obtain ⟨fuel, hf⟩ := h
  rcases open_ints ht he hC hf with ⟨hcs, _⟩ | ⟨a, len, cap, zs, hcs, _, hl, hm, hz, _, hcell, hwz⟩
  · simp [Value.cells] at hcs
    obtain ⟨rfl, rfl, rfl⟩ := hcs
    exact ⟨[], rfl, Rd.nil, by omega, by simp⟩
  · simp [Value.cells] at hcs
    obtain ⟨rfl, rfl, rfl⟩ := hcs
    have hge : n ≤ zs.length := by rw [hz]; split <;> omega
    refine ⟨zs.take n, by simp; omega, ?_, by simp only [maxLen] at hm; omega, fun x hx => i64_of (hwz x (List.mem_of_mem_take hx))⟩
    intro hpos
    have hn : 0 < zs.length := by simp [ints] at hpos; omega
    obtain ⟨b, off, rfl, hc⟩ := ints_at hcell hn
    refine ⟨b, off, rfl, World.block_lt_of_cell? w (⟨b, off + 0, none⟩ : Addr) (hc 0 hn), fun j u hu => ?_⟩
    have hj : j < n := by
      have := (List.getElem?_eq_some_iff.1 hu).1
      simp [ints] at this
      omega
    rw [hc j (by omega), ← hu]
    simp [ints, hj, List.getD_eq_getElem?_getD, List.getElem?_eq_getElem (show j < zs.length by omega)]

/-- A struct of three numbers, by value. -/
theorem open_three {r : Reach} {b0 : Nat} {t ti : TypeId} {f0 f1 f2 : Field} {v : Value} {d : DataW H} {p : List MemPlace} (hs : P.underlying t = some (.struct #[f0, f1, f2])) (hone : oneCellFields P #[f0, f1, f2] = true) (hC : P.cellsOf t = 3)
    (e0 : f0.type = ti) (e1 : f1.type = ti) (e2 : f2.type = ti) (hti : P.underlying ti = some (.int .i64))
    (hv : Value.okWide P w r b0 t v) (h : DataW.Trod enc P w base spare held t v d p) : ∃ l : Ln, v = .agg #[.int .i64 l.f, .int .i64 l.o, .int .i64 l.t] ∧ I64 l.f ∧ I64 l.o ∧ I64 l.t := by
  obtain ⟨v0, v1, v2, y0, y1, y2, n, rfl, _, _, h0, h1, h2⟩ := open_agg3 hs hone hC hv h
  rw [e0] at h0; rw [e1] at h1; rw [e2] at h2
  obtain ⟨n0, h0, _, w0⟩ := DataW.trod_int hti h0
  obtain ⟨n1, h1, _, w1⟩ := DataW.trod_int hti h1
  obtain ⟨n2, h2, _, w2⟩ := DataW.trod_int hti h2
  simp at h0 h1 h2
  subst h0 h1 h2
  exact ⟨⟨n0, n1, n2⟩, rfl, i64_of w0, i64_of w1, i64_of w2⟩
end
end Go.Proofs.Ytbcgokpamhgabaa
namespace Go.Proofs.Ytbcgokpamhgabaa
set_option linter.unusedVariables false
open Go.RowKit

/-- A number that fits 63 bits. -/
def B63 (n : Nat) : Prop := n < 9223372036854775808
def pow2 (k : Nat) : Nat := 2 ^ k
/-- a without the bits of b. -/
def adiff (a b : Nat) : Nat := a ^^^ (a &&& b)

theorem b63_of {n : Nat} (h : n < 9223372036854775808) : B63 n := h
theorem b63_le {a b : Nat} (h : a ≤ b) (hb : B63 b) : B63 a := Nat.lt_of_le_of_lt h hb
theorem b63_and {a b : Nat} (ha : B63 a) : B63 (a &&& b) := Nat.lt_of_le_of_lt Nat.and_le_left ha
theorem b63_or {a b : Nat} (ha : B63 a) (hb : B63 b) : B63 (a ||| b) := by
  unfold B63 at *
  exact Nat.or_lt_two_pow (n := 63) ha hb
theorem b63_xor {a b : Nat} (ha : B63 a) (hb : B63 b) : B63 (a ^^^ b) := by
  unfold B63 at *
  exact Nat.xor_lt_two_pow (n := 63) ha hb
theorem b63_adiff {a b : Nat} (ha : B63 a) : B63 (adiff a b) := b63_xor ha (b63_and ha)
theorem b63_pow2 {k : Nat} (h : k < 63) : B63 (pow2 k) := by
  unfold B63 pow2
  exact Nat.pow_lt_pow_of_lt (a := 2) (m := 63) (by omega) h

theorem ofInt_i64 (a : Nat) (ha : B63 a) : (BitVec.ofInt 64 (a : Int)).toNat = a := by
  unfold B63 at ha
  rw [BitVec.ofInt_natCast, BitVec.toNat_ofNat]; exact Nat.mod_eq_of_lt (by omega)
theorem i64_and (a b : Nat) (ha : B63 a) (hb : B63 b) : bits .and .i64 (a : Int) (b : Int) = ((a &&& b : Nat) : Int) := by
  have hx := b63_and (b := b) ha
  unfold B63 at hx
  show IntKind.i64.wrap ((BitVec.ofInt 64 (a : Int) &&& BitVec.ofInt 64 (b : Int)).toNat : Int) = _
  rw [BitVec.toNat_and, ofInt_i64 a ha, ofInt_i64 b hb, IntKind.wrap_i64]
  omega
theorem i64_or (a b : Nat) (ha : B63 a) (hb : B63 b) : bits .or .i64 (a : Int) (b : Int) = ((a ||| b : Nat) : Int) := by
  have hx := b63_or ha hb
  unfold B63 at hx
  show IntKind.i64.wrap ((BitVec.ofInt 64 (a : Int) ||| BitVec.ofInt 64 (b : Int)).toNat : Int) = _
  rw [BitVec.toNat_or, ofInt_i64 a ha, ofInt_i64 b hb, IntKind.wrap_i64]
  omega
theorem i64_xor (a b : Nat) (ha : B63 a) (hb : B63 b) : bits .xor .i64 (a : Int) (b : Int) = ((a ^^^ b : Nat) : Int) := by
  have hx := b63_xor ha hb
  unfold B63 at hx
  show IntKind.i64.wrap ((BitVec.ofInt 64 (a : Int) ^^^ BitVec.ofInt 64 (b : Int)).toNat : Int) = _
  rw [BitVec.toNat_xor, ofInt_i64 a ha, ofInt_i64 b hb, IntKind.wrap_i64]
  omega
theorem testBit_adiff (a b i : Nat) : (adiff a b).testBit i = (a.testBit i && !b.testBit i) := by
  unfold adiff
  rw [Nat.testBit_xor, Nat.testBit_and]
  cases a.testBit i <;> cases b.testBit i <;> rfl
theorem i64_andNot (a b : Nat) (ha : B63 a) (hb : B63 b) : bits .andNot .i64 (a : Int) (b : Int) = ((adiff a b : Nat) : Int) := by
  have hx := b63_adiff (b := b) ha
  have e : (BitVec.ofInt 64 (a : Int) &&& ~~~ (BitVec.ofInt 64 (b : Int))).toNat = adiff a b := by
    apply Nat.eq_of_testBit_eq
    intro i
    rw [testBit_adiff, BitVec.toNat_and, Nat.testBit_and, ofInt_i64 a ha]
    rcases Nat.lt_or_ge i 64 with h | h
    · have : (~~~ (BitVec.ofInt 64 (b : Int))).toNat.testBit i = !b.testBit i := by
        rw [BitVec.testBit_toNat, BitVec.getLsbD_not]
        simp only [h, decide_true, Bool.true_and]
        rw [← BitVec.testBit_toNat, ofInt_i64 b hb]
      rw [this]
    · have : a.testBit i = false := Nat.testBit_lt_two_pow (Nat.lt_of_lt_of_le ha (Nat.pow_le_pow_right (n := 2) (i := 63) (j := i) (by omega) (show 63 ≤ i by omega)))
      rw [this]; simp
  unfold B63 at hx
  show IntKind.i64.wrap ((BitVec.ofInt 64 (a : Int) &&& ~~~ (BitVec.ofInt 64 (b : Int))).toNat : Int) = _
  rw [e, IntKind.wrap_i64]
  omega
theorem i64_pow (k : Nat) (h : k < 63) : wrap64 ((2 : Int) ^ k) = ((pow2 k : Nat) : Int) := by
  have hb := b63_pow2 h
  unfold B63 at hb
  have e : ((2 : Int) ^ k) = ((pow2 k : Nat) : Int) := by simp [pow2]
  rw [e]
  unfold wrap64
  omega
theorem bit_of (s k : Nat) (hs : B63 s) : (bits .and .i64 ((s : Int) / 2 ^ k) 1 == 1) = s.testBit k := by
  have e : ((s : Int) / 2 ^ k) = ((s / 2 ^ k : Nat) : Int) := by simp
  have hb : B63 (s / 2 ^ k) := b63_le (Nat.div_le_self _ _) hs
  rw [e, show (1 : Int) = ((1 : Nat) : Int) from rfl, i64_and _ _ hb (by unfold B63; omega)]
  rw [Nat.and_one_is_mod, Nat.testBit_eq_decide_div_mod_eq, Bool.eq_iff_iff]
  simp only [beq_iff_eq, decide_eq_true_eq]
  omega
theorem and_eq_iff {p s : Nat} : p &&& s = p ↔ adiff p s = 0 := by
  constructor
  · intro h
    unfold adiff
    rw [h, Nat.xor_self]
  · intro h
    apply Nat.eq_of_testBit_eq
    intro i
    have := congrArg (fun x => x.testBit i) h
    simp only [testBit_adiff, Nat.zero_testBit] at this
    rw [Nat.testBit_and]
    revert this
    cases p.testBit i <;> cases s.testBit i <;> simp
theorem testBit_pow2 (k i : Nat) : (pow2 k).testBit i = decide (k = i) := by
  unfold pow2
  rw [Nat.testBit_two_pow]
theorem sub_test {p s i : Nat} (h : p &&& s = p) (hi : p.testBit i = true) : s.testBit i = true := by
  have := congrArg (fun x => x.testBit i) h
  simp only [Nat.testBit_and, hi, Bool.true_and] at this
  exact this
theorem sub_le {p s : Nat} (h : p &&& s = p) : p ≤ s := by
  rw [← h]
  exact Nat.and_le_right
theorem bit_lt {s n i : Nat} (h : s < 2 ^ n) (hi : s.testBit i = true) : i < n := by
  rcases Nat.lt_or_ge i n with h' | h'
  · exact h'
  · have := Nat.testBit_lt_two_pow (Nat.lt_of_lt_of_le h (Nat.pow_le_pow_right (n := 2) (by omega) h'))
    rw [this] at hi
    cases hi
end Go.Proofs.Ytbcgokpamhgabaa

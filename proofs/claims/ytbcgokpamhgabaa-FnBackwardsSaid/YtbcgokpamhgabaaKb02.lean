/- How the arguments of the laws read: numbers, lines, boards, packages, slices of lines, of numbers and of bytes. -/
import Derived.Test.YtbcgokpamhgabaaRows
import Derived.Test.YtbcgokpamhgabaaKb01
import Derived.WalkKit
import Derived.ProofKit
import Derived.OpenShut
import Derived.ChangeOld
import Derived.Below
import Derived.Lib.SmallJoins
import Derived.Deep.Slices
import Derived.Deep.Fields
import Derived.ChangeSame
namespace Go.Proofs.Ytbcgokpamhgabaa
set_option linter.unusedVariables false
open Go.ChangeShapes Go.WideShapes Go.ChangeAt Go.RowKit Go.Joins Go.Deep

theorem own : ownKnob Try.prog.godebug = none := by kernel_rfl
theorem laidOut : laidOutB Try.prog = true := by kernel_rfl

def I64 (x : Int) : Prop := -9223372036854775808 ≤ x ∧ x ≤ 9223372036854775807
theorem i64_of {x : Int} (h : (Lit.int .i64 x).wf = true) : I64 x := by
  simpa [Lit.wf, IntKind.min, IntKind.max, IntKind.signed, IntKind.bits, I64] using h

section
variable {H : Type} {enc : TypeId × Value → H} {P : Program} {w : World} {base : Nat} {spare : Nat → Bool} {held : Bool}
theorem open_slice_fields {t e : TypeId} {fs : Array Field} {fuel : Nat} {cs : List Value} {x : DataW H × List MemPlace} (ht : P.underlying t = some (.slice e)) (he : P.underlying e = some (.struct fs))
    (hone : oneCellFields P fs = true) (hC : P.cellsOf e = fs.size) (h : DataW.trod enc P w base spare held fuel t cs = some x) :
    (cs = [.slice none 0 0] ∧ x = (.nil, [])) ∨
    ∃ (a : Addr) (len cap m : Nat) (D : Nat → DataW H) (Pl : Nat → List MemPlace), cs = [.slice (some a) len cap] ∧ base ≤ a.block ∧ len ≤ cap ∧ cap ≤ maxLen ∧ m = (if spare a.block then cap else len) ∧
      x = (.slice ((List.range len).map D) ((List.range (m - len)).map fun j => D (len + j)), MemPlace.row a (m * fs.size) ++ (List.range m).flatMap Pl) ∧
      ∀ i, i < m → ∃ (ys : List (DataW H × List MemPlace)) (n : Nat), D i = .agg (ys.map (·.1)) ∧ Pl i = ys.flatMap (·.2) ∧ ys.length = fs.size ∧
        ∀ (j : Nat) (f : Field), fs[j]? = some f → ∃ (v : Value) (y : DataW H × List MemPlace), w.cell? (a.add (i * fs.size + j)) = some v ∧ ys[j]? = some y ∧ DataW.trod enc P w base spare held n f.type [v] = some y := by
  rcases open_slice ht h with h0 | ⟨a, len, cap, m, n, D, Pl, hcs, hb, hl, hm, hmm, hx, hi⟩
  · exact .inl h0
  · refine .inr ⟨a, len, cap, m, D, Pl, hcs, hb, hl, hm, hmm, by rw [hC] at hx; exact hx, fun i him => ?_⟩
    obtain ⟨cs', hc, ht'⟩ := hi i him
    rw [hC] at hc
    obtain ⟨ys, n', hn', hy, hlen, hyl, hf⟩ := DataW.trod_struct he ht'
    obtain ⟨_, hcl, hat⟩ := World.cells?_some hc
    simp only [Prod.mk.injEq] at hy
    refine ⟨ys, n', hy.1, hy.2, hyl, fun j f hj => ?_⟩
    obtain ⟨ho, hk⟩ := hone_of hone j f hj
    have hjl : j < fs.size := (Array.getElem?_eq_some_iff.1 hj).1
    have hcell := hat j hjl
    have hv : cs'[j]? = some (cs'[j]'(by omega)) := List.getElem?_eq_getElem (by omega)
    have h1 := hf j f hj
    rw [ho, hk] at h1
    have hone' : (cs'.drop j).take 1 = [cs'[j]'(by omega)] := by
      rw [List.drop_eq_getElem_cons (by omega)]
      rfl
    rw [hone'] at h1
    have hys : ys[j]? = some (ys[j]'(by omega)) := List.getElem?_eq_getElem (by omega)
    refine ⟨_, _, ?_, hys, h1.trans hys⟩
    rw [← Go.Deep.add_add, hcell, hv]

theorem add_cell {w : World} {a : Addr} {j : Nat} {v : Value} (h0 : a.spot = none) (h : w.cell? (a.add j) = some v) : w.cell? ⟨a.block, a.off + j, none⟩ = some v := by
  obtain ⟨b, o, s⟩ := a
  subst h0
  unfold Addr.add at h
  split at h
  · subst_vars; exact h
  · exact h

/-- A slice of structs of three numbers, read as lines. -/
theorem open_lines {t e ti : TypeId} {f0 f1 f2 : Field} {d : DataW H} {p : List MemPlace} {A : Option Addr} {n c : Nat}
    (ht : P.underlying t = some (.slice e)) (he : P.underlying e = some (.struct #[f0, f1, f2])) (hone : oneCellFields P #[f0, f1, f2] = true) (hC : P.cellsOf e = 3)
    (e0 : f0.type = ti) (e1 : f1.type = ti) (e2 : f2.type = ti) (hti : P.underlying ti = some (.int .i64))
    (h : DataW.Trod enc P w base spare held t (.slice A n c) d p) : ∃ ls : List Ln, ls.length = n ∧ Rd w w.heap.size A (flat ls) ∧ n ≤ 9223372036854775807 ∧ ∀ l ∈ ls, I64 l.f ∧ I64 l.o ∧ I64 l.t := by
  obtain ⟨fuel, hf⟩ := h
  rcases open_slice_fields ht he hone hC hf with ⟨hcs, _⟩ | ⟨a, len, cap, m, D, Pl, hcs, _, hl, hm, hmm, hx, hi⟩
  · simp [Value.cells] at hcs
    obtain ⟨rfl, rfl, rfl⟩ := hcs
    exact ⟨[], rfl, Rd.nil, by omega, by simp⟩
  · simp [Value.cells] at hcs
    obtain ⟨rfl, rfl, rfl⟩ := hcs
    have hge : n ≤ m := by subst hmm; split <;> omega
    have each : ∀ i, i < n → ∃ l : Ln, w.cell? (a.add (i * 3)) = some (.int .i64 l.f) ∧ w.cell? (a.add (i * 3 + 1)) = some (.int .i64 l.o) ∧ w.cell? (a.add (i * 3 + 2)) = some (.int .i64 l.t) ∧ I64 l.f ∧ I64 l.o ∧ I64 l.t := by
      intro i hin
      obtain ⟨ys, fu, _, _, _, hj⟩ := hi i (by omega)
      obtain ⟨v0, y0, c0, _, t0⟩ := hj 0 f0 rfl
      obtain ⟨v1, y1, c1, _, t1⟩ := hj 1 f1 rfl
      obtain ⟨v2, y2, c2, _, t2⟩ := hj 2 f2 rfl
      rw [e0] at t0; rw [e1] at t1; rw [e2] at t2
      obtain ⟨n0, h0, _, w0⟩ := DataW.trod_int hti t0
      obtain ⟨n1, h1, _, w1⟩ := DataW.trod_int hti t1
      obtain ⟨n2, h2, _, w2⟩ := DataW.trod_int hti t2
      simp at h0 h1 h2
      subst h0 h1 h2
      exact ⟨⟨n0, n1, n2⟩, c0, c1, c2, i64_of w0, i64_of w1, i64_of w2⟩
    have hch : ∃ F : Nat → Ln, ∀ i, i < n → w.cell? (a.add (i * 3)) = some (.int .i64 (F i).f) ∧ w.cell? (a.add (i * 3 + 1)) = some (.int .i64 (F i).o) ∧ w.cell? (a.add (i * 3 + 2)) = some (.int .i64 (F i).t) ∧ I64 (F i).f ∧ I64 (F i).o ∧ I64 (F i).t := by
      refine ⟨fun i => if h : i < n then (each i h).choose else default, fun i hin => ?_⟩
      simp only [hin, dif_pos]
      exact (each i hin).choose_spec
    obtain ⟨F, hF⟩ := hch
    refine ⟨(List.range n).map F, by simp, ?_, by simp only [maxLen] at hm; omega, ?_⟩
    · intro hpos
      have hn : 0 < n := by
        rw [flat_length] at hpos
        simp at hpos
        omega
      have hsp : a.spot = none := by
        have h0 := (hF 0 hn).1
        obtain ⟨b, o, s⟩ := a
        simpa [Addr.add] using World.cell?_spot h0
      refine ⟨a.block, a.off, by obtain ⟨b, o, s⟩ := a; simp at hsp; subst hsp; rfl, ?_, ?_⟩
      · have h0 := add_cell hsp (hF 0 hn).1
        have := World.block_lt_of_cell? w (⟨a.block, a.off + 0 * 3, none⟩ : Addr) h0
        exact this
      · intro j u hu
        have hjl : j < n * 3 := by
          have := (List.getElem?_eq_some_iff.1 hu).1
          rw [flat_length] at this
          simpa using this
        have hq : j / 3 < n := by omega
        have g := flat_get (ls := (List.range n).map F) (k := j / 3) (l := F (j / 3)) (by simp [hq])
        have hc := hF (j / 3) hq
        obtain h | h | h : j = j / 3 * 3 ∨ j = j / 3 * 3 + 1 ∨ j = j / 3 * 3 + 2 := by omega
        · rw [h] at hu ⊢; rw [g.1] at hu; injection hu with hu; subst hu; exact add_cell hsp hc.1
        · rw [h] at hu ⊢; rw [g.2.1] at hu; injection hu with hu; subst hu; exact add_cell hsp hc.2.1
        · rw [h] at hu ⊢; rw [g.2.2] at hu; injection hu with hu; subst hu; exact add_cell hsp hc.2.2.1
    · intro l hl'
      simp at hl'
      obtain ⟨i, hin, rfl⟩ := hl'
      exact (hF i hin).2.2.2

/-- A slice of numbers of 64 bits. -/
theorem open_numbers {t e : TypeId} {d : DataW H} {p : List MemPlace} {A : Option Addr} {n c : Nat}
    (ht : P.underlying t = some (.slice e)) (he : P.underlying e = some (.int .i64)) (hC : P.cellsOf e = 1)
    (h : DataW.Trod enc P w base spare held t (.slice A n c) d p) : ∃ xs : List Int, xs.length = n ∧ Rd w w.heap.size A (ints xs) ∧ n ≤ 9223372036854775807 ∧ ∀ x ∈ xs, I64 x := by
  obtain ⟨fuel, hf⟩ := h
  rcases open_ints ht he hC hf with ⟨hcs, _⟩ | ⟨a, len, cap, zs, hcs, _, hl, hm, hz, _, hcell, hwz⟩
  · simp [Value.cells] at hcs
    obtain ⟨rfl, rfl, rfl⟩ := hcs
    exact ⟨[], rfl, Rd.nil, by omega, by simp⟩
  · simp [Value.cells] at hcs
    obtain ⟨rfl, rfl, rfl⟩ := hcs
    have hge : n ≤ zs.length := by rw [hz]; split <;> omega
    refine ⟨zs.take n, by simp; omega, ?_, by simp only [maxLen] at hm; omega, fun x hx => i64_of (hwz x (List.mem_of_mem_take hx))⟩
    intro hpos
    have hn : 0 < zs.length := by simp [ints] at hpos; omega
    obtain ⟨b, off, rfl, hc⟩ := ints_at hcell hn
    refine ⟨b, off, rfl, World.block_lt_of_cell? w (⟨b, off + 0, none⟩ : Addr) (hc 0 hn), fun j u hu => ?_⟩
    have hj : j < n := by
      have := (List.getElem?_eq_some_iff.1 hu).1
      simp [ints] at this
      omega
    rw [hc j (by omega), ← hu]
    simp [ints, hj, List.getD_eq_getElem?_getD, List.getElem?_eq_getElem (show j < zs.length by omega)]

/-- A struct of three numbers, by value. -/
theorem open_three {r : Reach} {b0 : Nat} {t ti : TypeId} {f0 f1 f2 : Field} {v : Value} {d : DataW H} {p : List MemPlace} (hs : P.underlying t = some (.struct #[f0, f1, f2])) (hone : oneCellFields P #[f0, f1, f2] = true) (hC : P.cellsOf t = 3)
    (e0 : f0.type = ti) (e1 : f1.type = ti) (e2 : f2.type = ti) (hti : P.underlying ti = some (.int .i64))
    (hv : Value.okWide P w r b0 t v) (h : DataW.Trod enc P w base spare held t v d p) : ∃ l : Ln, v = .agg #[.int .i64 l.f, .int .i64 l.o, .int .i64 l.t] ∧ I64 l.f ∧ I64 l.o ∧ I64 l.t := by
  obtain ⟨v0, v1, v2, y0, y1, y2, n, rfl, _, _, h0, h1, h2⟩ := open_agg3 hs hone hC hv h
  rw [e0] at h0; rw [e1] at h1; rw [e2] at h2
  obtain ⟨n0, h0, _, w0⟩ := DataW.trod_int hti h0
  obtain ⟨n1, h1, _, w1⟩ := DataW.trod_int hti h1
  obtain ⟨n2, h2, _, w2⟩ := DataW.trod_int hti h2
  simp at h0 h1 h2
  subst h0 h1 h2
  exact ⟨⟨n0, n1, n2⟩, rfl, i64_of w0, i64_of w1, i64_of w2⟩
end
end Go.Proofs.Ytbcgokpamhgabaa

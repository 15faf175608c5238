/- How a package among the arguments of the laws reads. -/
import Derived.Test.YtfbpnfjaheeooaaOpen
set_option linter.unusedVariables false
namespace Go.Proofs.Ytfbpnfjaheeooaa
open Go.ChangeShapes Go.WideShapes Go.ChangeAt Go.RowKit Go.Joins Go.Deep

section
variable {H : Type} {enc : TypeId × Value → H} {P : Program} {w : World} {base : Nat} {spare : Nat → Bool} {held : Bool}
/-- A package: two numbers and a slice of lines, by value. -/
theorem open_package {r : Reach} {b0 : Nat} {t ti ts te : TypeId} {f0 f1 f2 g0 g1 g2 : Field} {v : Value} {d : DataW H} {p : List MemPlace} (hs : P.underlying t = some (.struct #[f0, f1, f2])) (hone : oneCellFields P #[f0, f1, f2] = true) (hC : P.cellsOf t = 3)
    (e0 : f0.type = ti) (e1 : f1.type = ti) (e2 : f2.type = ts) (hti : P.underlying ti = some (.int .i64)) (hts : P.underlying ts = some (.slice te)) (hte : P.underlying te = some (.struct #[g0, g1, g2])) (hone2 : oneCellFields P #[g0, g1, g2] = true) (hC2 : P.cellsOf te = 3)
    (k0 : g0.type = ti) (k1 : g1.type = ti) (k2 : g2.type = ti)
    (hv : Value.okWide P w r b0 t v) (h : DataW.Trod enc P w base spare held t v d p) : ∃ (ls : List Ln) (A : Option Addr) (c : Nat) (x : Int × Int), v = .agg #[.int .i64 x.1, .int .i64 x.2, .slice A ls.length c] ∧ Rd w w.heap.size A (flat ls) ∧ ls.length ≤ 9223372036854775807 ∧ I64 x.1 ∧ I64 x.2 ∧ ∀ l ∈ ls, I64 l.f ∧ I64 l.o ∧ I64 l.t := by
  obtain ⟨v0, v1, v2, y0, y1, y2, n, rfl, _, _, h0, h1, h2⟩ := open_agg3 hs hone hC hv h
  rw [e0] at h0; rw [e1] at h1; rw [e2] at h2
  obtain ⟨n0, h0, _, w0⟩ := DataW.trod_int hti h0
  obtain ⟨n1, h1, _, w1⟩ := DataW.trod_int hti h1
  simp at h0 h1
  subst h0 h1
  obtain ⟨A, m, c, rfl⟩ : ∃ A m c, v2 = .slice A m c := by
    rcases open_slice hts h2 with ⟨hcs, _⟩ | ⟨a, len, cap, m, n', D, Pl, hcs, _⟩
    · simp at hcs; exact ⟨_, _, _, hcs⟩
    · simp at hcs; exact ⟨_, _, _, hcs⟩
  obtain ⟨ls, rfl, rd, hm, hl⟩ := open_lines (d := y2.1) (p := y2.2) hts hte hone2 hC2 k0 k1 k2 hti ⟨n, by simpa [Value.cells] using h2⟩
  exact ⟨ls, A, c, (n0, n1), rfl, rd, hm, i64_of w0, i64_of w1, hl⟩
end
end Go.Proofs.Ytfbpnfjaheeooaa

/- Slices of slices of lines in memory. No program in sight. -/
import Derived.Test.YtbcgokpamhgabaaGrid
import Derived.Test.YtbcgokpamhgabaaLayersP
set_option linter.unusedVariables false
namespace Go.Proofs.Ytbcgokpamhgabaa
open Go.RowKit Go.Sort

theorem Grid.row {w : World} {base T E : Nat} {A : Option Addr} {n c i : Nat} {vs : List Value} {rs : List (List Ln)} (h : Grid w base T E 3 (.slice A n c) vs (flats rs)) (hi : i < rs.length) :
    ∃ g Ai ci r, A = some ⟨g, 0, none⟩ ∧ g < w.heap.size ∧ rs[i]? = some r ∧ vs[i]? = some (.slice Ai r.length ci) ∧ w.ownsRow base E 3 (.slice Ai r.length ci) r.length (flat r) ∧ w.cell? ⟨g, i, none⟩ = some (.slice Ai r.length ci) ∧ w.frozen? ⟨g, i, none⟩ = false := by
  obtain ⟨g, u, xs, m, hA, hg, hu, hx, ho, hc, hf⟩ := h.at (i := i) (by rw [flats_len]; exact hi)
  obtain ⟨r, hr, rfl⟩ := flats_get hx
  obtain rfl := own_lines ho
  obtain ⟨Ai, ci, rfl⟩ := own_value ho
  exact ⟨g, Ai, ci, r, hA, hg, hr, hu, ho, hc, hf⟩
/-- The call hands back rows of lines of its own making. -/
def GivesRows (w : World) (T E : Nat) (rs : List (List Ln)) (e : Ending) (w' : World) : Prop :=
  ∃ A c vs, e = .returned (.slice A rs.length c) ∧ Grid w' w.heap.size T E 3 (.slice A rs.length c) vs (flats rs) ∧ Below w.heap.size w w'
/-- The i-th row has got the jump l behind it. -/
theorem Grid.add {w w2 : World} {base T E : Nat} {vs : List Value} {rs : List (List Ln)} {i g n cap : Nat} {u u' : Value} {r : List Ln} {l : Ln} {m : Nat}
    (h : Grid w base T E 3 (.slice (some ⟨g, 0, none⟩) n cap) vs (flats rs)) (hi : vs[i]? = some u) (hr : rs[i]? = some r)
    (ho : w2.ownsRow base E 3 u' m (flat r ++ lnC l)) (hg : w.grownBy w2 u.ownBlock) (hb : u'.ownBlock = u.ownBlock ∨ u'.ownBlock = some w.heap.size) :
    Grid (w2.setCell ⟨g, i, none⟩ u') base T E 3 (.slice (some ⟨g, 0, none⟩) n cap) (vs.set i u') (flats (addAt rs i l)) := by
  have := h.put (ys := flat (r ++ [l])) rfl hi hg (u' := u') (m := m) (by rw [flat_append]; simpa [flat] using ho) hb
  rw [addAt_eq l hr, flats_set]
  exact this
/-- An empty row has been put behind. -/
theorem Grid.room {w w' : World} {base T E : Nat} {v v' u : Value} {vs : List Value} {rs : List (List Ln)} {m : Nat}
    (h : Grid w base T E 3 v vs (flats rs)) (hu : w.ownsRow base E 3 u 0 []) (hf : ∀ g, u.ownBlock = some g → v.ownBlock ≠ some g ∧ ∀ x ∈ vs, x.ownBlock ≠ some g)
    (hm : m = vs.length + 1) (ho : w'.ownsRow base T 1 v' m (vs ++ [u])) (hg : w.grownBy w' v.ownBlock)
    (hb : v'.ownBlock = v.ownBlock ∨ v'.ownBlock = some w.heap.size) : Grid w' base T E 3 v' (vs ++ [u]) (flats (rs ++ [[]])) := by
  have := h.push hu hf hm ho hg hb
  rw [flats_append]
  exact this
theorem grid_len {w : World} {base T E : Nat} {v : Value} {vs : List Value} {rs : List (List Ln)} (h : Grid w base T E 3 v vs (flats rs)) : vs.length = rs.length := by
  rw [← h.len, flats_len]
theorem Grid.own {w : World} {base T E : Nat} {v : Value} {vs : List Value} {rs : List (List Ln)} (h : Grid w base T E 3 v vs (flats rs)) : w.ownsRow base T 1 v rs.length vs := by rw [← grid_len h]; exact h.outer
/-- A line's box. -/
def BoxL (w : World) (b : Nat) (l : Ln) : Prop := b < w.heap.size ∧ w.cell? ⟨b, 0, none⟩ = some (.int .i64 l.f) ∧ w.cell? ⟨b, 1, none⟩ = some (.int .i64 l.o) ∧ w.cell? ⟨b, 2, none⟩ = some (.int .i64 l.t)
theorem BoxL.kept {w w' : World} {b : Nat} {l : Ln} {row : Option Nat} (h : BoxL w b l) (hg : w.grownBy w' row) (hne : some b ≠ row) : BoxL w' b l := by
  obtain ⟨h0, a, b', c⟩ := h
  have hb := hg.block b h0 hne
  exact ⟨Nat.lt_of_lt_of_le h0 hg.size, (World.cell?_of_block (a := ⟨b, 0, none⟩) hb).trans a, (World.cell?_of_block (a := ⟨b, 1, none⟩) hb).trans b', (World.cell?_of_block (a := ⟨b, 2, none⟩) hb).trans c⟩
theorem BoxL.next {w w' : World} {b : Nat} {l : Ln} (h : BoxL w b l) (hb : Below w.heap.size w w') : BoxL w' b l :=
  h.kept (row := none) ⟨hb.os, hb.tape, hb.output, hb.size, fun k hk _ => hb.block k hk⟩ (by simp)
theorem boxL_new (w : World) (l : Ln) (t : TypeId) : BoxL (w.alloc (.cells #[.int .i64 l.f, .int .i64 l.o, .int .i64 l.t] t)) w.heap.size l := ⟨by simp, by simp [go_sem], by simp [go_sem], by simp [go_sem]⟩
/-- A cell ahead of a fresh block and an append elsewhere. -/
theorem held_cell {w w4 : World} {row : Option Nat} {o : Obj} (hg : ((w.alloc o).drew).grownBy w4 row) {b off : Nat} {v : Value} (hb : b < w.heap.size) (hne : some b ≠ row) (h : w.cell? ⟨b, off, none⟩ = some v) : w4.cell? ⟨b, off, none⟩ = some v := by
  rw [World.cell?_of_block (w := (w.alloc o).drew) (a := ⟨b, off, none⟩) (hg.block b (by simp; omega) hne)]
  show (w.alloc o).cell? ⟨b, off, none⟩ = some v
  rw [World.cell?_alloc_lt _ _ _ hb]
  exact h
theorem held_frozen {w w4 : World} {row : Option Nat} {o : Obj} (hg : ((w.alloc o).drew).grownBy w4 row) {b off : Nat} {v : Bool} (hb : b < w.heap.size) (hne : some b ≠ row) (h : w.frozen? ⟨b, off, none⟩ = v) : w4.frozen? ⟨b, off, none⟩ = v := by
  rw [World.frozen?_of_block (w := (w.alloc o).drew) (a := ⟨b, off, none⟩) (hg.block b (by simp; omega) hne)]
  show (w.alloc o).frozen? ⟨b, off, none⟩ = v
  rw [World.frozen?_of_block (w := w) (a := ⟨b, off, none⟩) (heap_alloc_old w o hb)]
  exact h
end Go.Proofs.Ytbcgokpamhgabaa

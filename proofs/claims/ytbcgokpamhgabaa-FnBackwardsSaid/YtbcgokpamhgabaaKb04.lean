/- A frame that lets one block go, and a cursor (bytes, an index, a number) that lies in that block. No program in sight. -/
import Derived.Test.YtbcgokpamhgabaaKb00
import Derived.Test.YtbcgokpamhgabaaKb03
namespace Go.Proofs.Ytbcgokpamhgabaa
set_option linter.unusedVariables false
open Go.RowKit Go.Sort

/-- Below block B the world w' is as w was, but for block b. -/
structure Cb (B b : Nat) (w w' : World) : Prop where
  os : w'.os = w.os
  tape : w'.tape = w.tape
  output : w'.output = w.output
  size : w.heap.size ≤ w'.heap.size
  block : ∀ k, k < B → k ≠ b → w'.heap[k]? = w.heap[k]?

theorem Cb.refl (B b : Nat) (w : World) : Cb B b w w := ⟨rfl, rfl, rfl, Nat.le_refl _, fun _ _ _ => rfl⟩
theorem Cb.trans {B b : Nat} {x y z : World} (h : Cb B b x y) (k : Cb B b y z) : Cb B b x z :=
  ⟨k.os.trans h.os, k.tape.trans h.tape, k.output.trans h.output, Nat.le_trans h.size k.size, fun i hi hn => (k.block i hi hn).trans (h.block i hi hn)⟩
theorem Cb.mono {B B' b : Nat} {w w' : World} (h : Cb B b w w') (hB : B' ≤ B) : Cb B' b w w' := ⟨h.os, h.tape, h.output, h.size, fun k hk hn => h.block k (Nat.lt_of_lt_of_le hk hB) hn⟩
theorem cb_of {B : Nat} {w w' : World} (h : Below B w w') (b : Nat) : Cb B b w w' := ⟨h.os, h.tape, h.output, h.size, fun k hk _ => h.block k hk⟩
theorem Cb.below {B b : Nat} {w w' : World} (h : Cb B b w w') (hb : B ≤ b) : Below B w w' := ⟨h.os, h.tape, h.output, h.size, fun k hk => h.block k hk (by omega)⟩
theorem Cb.drew {B b : Nat} {a w : World} (h : Cb B b a w) : Cb B b a w.drew := ⟨h.os, h.tape, h.output, h.size, h.block⟩
theorem Cb.drewN {B b : Nat} {a w : World} (h : Cb B b a w) (n : Nat) : Cb B b a (w.drewN n) := ⟨h.os, h.tape, h.output, h.size, h.block⟩
theorem Cb.alloc {B b : Nat} {a w : World} (h : Cb B b a w) (hB : B ≤ w.heap.size) (o : Obj) : Cb B b a (w.alloc o) := h.trans (cb_of ((Below.refl _ _).alloc hB o) b)
theorem Cb.setCell {B b : Nat} {a w : World} (h : Cb B b a w) {p : Addr} (hp : B ≤ p.block ∨ p.block = b) (u : Value) : Cb B b a (w.setCell p u) :=
  h.trans ⟨rfl, rfl, rfl, by simp [World.setCell], fun k hk hn => Below.heap_setCell _ _ _ _ (by omega)⟩
theorem Cb.then {B b : Nat} {a w w' : World} (h : Cb B b a w) (k : Below w.heap.size w w') (hB : B ≤ w.heap.size) : Cb B b a w' := h.trans (cb_of (k.mono hB) b)
theorem Cb.next {b : Nat} {a w w' : World} (h : Cb a.heap.size b a w) (k : Cb w.heap.size b w w') : Cb a.heap.size b a w' := h.trans (k.mono h.size)
theorem Cb.grown {B b : Nat} {a w w' : World} {row : Option Nat} (h : Cb B b a w) (hg : w.grownBy w' row) (hB : B ≤ w.heap.size) (hr : ∀ k, row = some k → B ≤ k) : Cb B b a w' :=
  h.trans (cb_of ((Below.refl _ _).grown hg hB hr) b)
theorem Cb.cell {B b : Nat} {w w' : World} (h : Cb B b w w') {p : Addr} (hp : p.block < B) (hn : p.block ≠ b) : w'.cell? p = w.cell? p := World.cell?_of_block (w := w) (h.block p.block hp hn)
theorem Cb.frozen {B b : Nat} {w w' : World} (h : Cb B b w w') {p : Addr} (hp : p.block < B) (hn : p.block ≠ b) : w'.frozen? p = w.frozen? p := World.frozen?_of_block (w := w) (h.block p.block hp hn)
/-- The cells above the cursor's block are as before. -/
theorem Cb.cells {b : Nat} {W w1 : World} (hb : Cb W.heap.size b W w1) : (∀ k o, b < k → k < W.heap.size → w1.cell? ⟨k, o, none⟩ = W.cell? ⟨k, o, none⟩) ∧ (∀ k o, b < k → k < W.heap.size → w1.frozen? ⟨k, o, none⟩ = W.frozen? ⟨k, o, none⟩) :=
  ⟨fun k o h1 h2 => hb.cell (p := ⟨k, o, none⟩) h2 (by show k ≠ b; omega), fun k o h1 h2 => hb.frozen (p := ⟨k, o, none⟩) h2 (by show k ≠ b; omega)⟩
theorem own_cb {w w' : World} {base b n : Nat} {e : TypeId} {size : Nat} {v : Value} {xs : List Value} (h : w.ownsRow base e size v n xs) (hb : Cb w.heap.size b w w') (hB : b < base) : w'.ownsRow base e size v n xs := by
  refine ⟨h.1, ?_⟩
  rcases h.2 with hn | ⟨g, cap, cur, rfl, hg, hgg, rest⟩
  · exact .inl hn
  · exact .inr ⟨g, cap, cur, rfl, hg, by rw [hb.block g (Array.getElem?_eq_some_iff.1 hgg).1 (by omega)]; exact hgg, rest⟩
/-- A reading that does not lie in the cursor's block: it lies below it, or between it and B. -/
def RdC (w : World) (b B : Nat) (A : Option Addr) (xs : List Value) : Prop :=
  0 < xs.length → ∃ g off, A = some ⟨g, off, none⟩ ∧ g ≠ b ∧ g < B ∧ ∀ j u, xs[j]? = some u → w.cell? ⟨g, off + j, none⟩ = some u
theorem RdC.cb {w w' : World} {b : Nat} {A : Option Addr} {xs : List Value} (h : RdC w b w.heap.size A xs) (hb : Cb w.heap.size b w w') : RdC w' b w'.heap.size A xs := fun hn => by
  obtain ⟨g, off, e, h1, h2, hc⟩ := h hn
  exact ⟨g, off, e, h1, Nat.lt_of_lt_of_le h2 hb.size, fun j u hu => (hb.cell (p := ⟨g, off + j, none⟩) h2 h1).trans (hc j u hu)⟩
theorem RdC.drew {w : World} {b : Nat} {A : Option Addr} {xs : List Value} (h : RdC w b w.heap.size A xs) : RdC w.drew b w.drew.heap.size A xs := h
theorem RdC.rd {w : World} {b B : Nat} {A : Option Addr} {xs : List Value} (h : RdC w b B A xs) : Rd w B A xs := fun hn => by
  obtain ⟨g, off, e, _, h2, hc⟩ := h hn
  exact ⟨g, off, e, h2, hc⟩

/-- Bytes in cells. -/
def bts (xs : List UInt8) : List Value := xs.map fun x => .int .u8 (x.toNat : Int)
theorem bts_length (xs : List UInt8) : (bts xs).length = xs.length := by simp [bts]

/-- In block b lies a cursor over bytes that lie below it. -/
def Cur (T : TypeId) (b : Nat) (w : World) : Prop :=
  ∃ (xs : List UInt8) (A : Option Addr) (c i : Nat) (h : Int), w.heap[b]? = some (.cells #[.slice A xs.length c, .int .i64 i, .int .i64 h] T (0, 0)) ∧ Rd w b A (bts xs) ∧ i ≤ xs.length ∧ xs.length ≤ 1048576
section
variable {T : TypeId} {b : Nat} {w w' : World}
theorem Cur.lt (h : Cur T b w) : b < w.heap.size := by
  obtain ⟨xs, A, c, i, n, h1, _⟩ := h
  exact (Array.getElem?_eq_some_iff.1 h1).1
theorem Cur.keep (h : Cur T b w) (hb : ∀ k, k ≤ b → w'.heap[k]? = w.heap[k]?) : Cur T b w' := by
  obtain ⟨xs, A, c, i, n, h1, h2, h3, h4⟩ := h
  refine ⟨xs, A, c, i, n, by rw [hb b (Nat.le_refl _)]; exact h1, h2.keep fun k o hk => World.cell?_of_block (w := w) (hb k (by omega)), h3, h4⟩
theorem Cur.next (h : Cur T b w) (hb : Below w.heap.size w w') : Cur T b w' := h.keep fun k hk => hb.block k (by have := h.lt; omega)
theorem Cur.alloc (h : Cur T b w) (o : Obj) : Cur T b (w.alloc o) := h.next ((Below.refl _ _).alloc (Nat.le_refl _) o)
theorem Cur.setCell (h : Cur T b w) {p : Addr} (hp : b < p.block) (u : Value) : Cur T b (w.setCell p u) := h.keep fun k hk => Below.heap_setCell _ _ _ _ (by omega)
theorem Cur.drew (h : Cur T b w) : Cur T b w.drew := h
theorem Cur.grown {row : Option Nat} (h : Cur T b w) (hg : w.grownBy w' row) (hr : ∀ k, row = some k → b < k) : Cur T b w' :=
  h.keep fun k hk => hg.block k (by have := h.lt; omega) (fun e => by have := hr k e.symm; omega)
theorem cur_new (w : World) (xs : List UInt8) (A : Option Addr) (c : Nat) (n : Int) (rd : Rd w w.heap.size A (bts xs)) (hm : xs.length ≤ 1048576) :
    Cur T w.heap.size (w.alloc (.cells #[.slice A xs.length c, .int .i64 0, .int .i64 n] T)) := by
  refine ⟨xs, A, c, 0, n, ?_, rd.keep fun k o hk => World.cell?_of_block (w := w) (Below.heap_alloc _ _ _ hk), Nat.zero_le _, hm⟩
  show (w.heap.push _)[w.heap.size]? = _
  rw [Array.getElem?_push, if_pos rfl]
  rfl
end

/-- A struct of three numbers that lies in a block of its own. -/
def Box (T : TypeId) (w : World) (g : Nat) (x y z : Int) : Prop := w.heap[g]? = some (.cells #[.int .i64 x, .int .i64 y, .int .i64 z] T (0, 0))
section
variable {T : TypeId} {w w' : World} {g b : Nat} {x y z : Int}
theorem Box.lt (h : Box T w g x y z) : g < w.heap.size := (Array.getElem?_eq_some_iff.1 h).1
theorem Box.cells (h : Box T w g x y z) : w.cell? ⟨g, 0, none⟩ = some (.int .i64 x) ∧ w.cell? ⟨g, 1, none⟩ = some (.int .i64 y) ∧ w.cell? ⟨g, 2, none⟩ = some (.int .i64 z) := by
  unfold Box at h
  simp [World.cell?, h]
theorem Box.soft (h : Box T w g x y z) : w.frozen? ⟨g, 0, none⟩ = false ∧ w.frozen? ⟨g, 1, none⟩ = false ∧ w.frozen? ⟨g, 2, none⟩ = false := by
  unfold Box at h
  simp [World.frozen?, h]
theorem Box.keep (h : Box T w g x y z) (hb : w'.heap[g]? = w.heap[g]?) : Box T w' g x y z := hb.trans h
theorem Box.cb (h : Box T w g x y z) (hb : Cb w.heap.size b w w') (hn : b < g) : Box T w' g x y z := h.keep (hb.block g h.lt (by omega))
theorem Box.next (h : Box T w g x y z) (hb : Below w.heap.size w w') : Box T w' g x y z := h.keep (hb.block g h.lt)
theorem Box.alloc (h : Box T w g x y z) (o : Obj) : Box T (w.alloc o) g x y z := h.next ((Below.refl _ _).alloc (Nat.le_refl _) o)
theorem Box.drew (h : Box T w g x y z) : Box T w.drew g x y z := h
theorem Box.drewN (h : Box T w g x y z) (n : Nat) : Box T (w.drewN n) g x y z := h
theorem Box.far (h : Box T w g x y z) {p : Addr} (hp : p.block ≠ g) (u : Value) : Box T (w.setCell p u) g x y z := h.keep (Below.heap_setCell _ _ _ _ (by omega))
theorem Box.set2 (h : Box T w g x y z) (z' : Int) : Box T (w.setCell ⟨g, 2, none⟩ (.int .i64 z')) g x y z' := by
  unfold Box at *
  simp only [World.setCell, Array.getElem?_modify, if_pos, h]
  rfl
theorem Box.set0 (h : Box T w g x y z) (x' : Int) : Box T (w.setCell ⟨g, 0, none⟩ (.int .i64 x')) g x' y z := by
  unfold Box at *
  simp only [World.setCell, Array.getElem?_modify, if_pos, h]
  rfl
theorem Box.set3 (h : Box T w g x y z) (x' y' z' : Int) : Box T (((w.setCell ⟨g, 0, none⟩ (.int .i64 x')).setCell ⟨g, 1, none⟩ (.int .i64 y')).setCell ⟨g, 2, none⟩ (.int .i64 z')) g x' y' z' := by
  unfold Box at *
  simp only [World.setCell, Array.getElem?_modify, if_pos, h]
  rfl
theorem box_new (T : TypeId) (w : World) (x y z : Int) : Box T (w.alloc (.cells #[.int .i64 x, .int .i64 y, .int .i64 z] T)) w.heap.size x y z := by
  show (w.heap.push _)[w.heap.size]? = _
  rw [Array.getElem?_push, if_pos rfl]
end

/-- The low eight bits of whatever number. -/
theorem and255 (a : Int) : ∃ n : Nat, bits .and .i64 a 255 = (n : Int) ∧ n ≤ 255 := by
  refine ⟨(BitVec.ofInt 64 a &&& BitVec.ofInt 64 255).toNat, ?_, ?_⟩
  · have h : (BitVec.ofInt 64 a &&& BitVec.ofInt 64 255).toNat ≤ 255 := by
      rw [BitVec.toNat_and]
      exact Nat.le_trans Nat.and_le_right (by decide)
    show IntKind.i64.wrap ((BitVec.ofInt 64 a &&& BitVec.ofInt 64 255).toNat : Int) = _
    rw [IntKind.wrap_i64]
    omega
  · rw [BitVec.toNat_and]
    exact Nat.le_trans Nat.and_le_right (by decide)
end Go.Proofs.Ytbcgokpamhgabaa

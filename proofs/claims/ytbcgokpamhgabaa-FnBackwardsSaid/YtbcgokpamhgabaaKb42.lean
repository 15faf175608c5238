/- A slice of pairs (slices of two numbers) of the call's own, in memory. No program in sight. -/
import Derived.Maps.AppendAt
import Derived.Test.YtbcgokpamhgabaaKb13
import Derived.Test.YtbcgokpamhgabaaKb01
namespace Go.Proofs.Ytbcgokpamhgabaa
set_option linter.unusedVariables false
open Go.RowKit Go.Sort

theorem grown_or2 {a b c : World} {row row2 : Option Nat} (h : a.grownBy b row) (k : b.grownBy c row2) (hr : ∀ g, row2 = some g → row = some g ∨ a.heap.size ≤ g) : a.grownBy c row :=
  ⟨k.os.trans h.os, k.tape.trans h.tape, k.output.trans h.output, Nat.le_trans h.size k.size, fun i hi hne => (k.block i (Nat.lt_of_lt_of_le hi h.size) (fun e => by
    rcases hr i e.symm with h1 | h1
    · exact hne h1.symm
    · omega)).trans (h.block i hi hne)⟩
theorem grown_of {B : Nat} {w w' : World} (h : Below B w w') (hB : w.heap.size ≤ B) (row : Option Nat) : w.grownBy w' row := ⟨h.os, h.tape, h.output, h.size, fun k hk _ => h.block k (by omega)⟩
section
variable {P : Program} (w : World)
theorem run_append_slab_at (base : Nat) (v0 : Option Addr) (t ty e : TypeId) (i : TypeInfo) (z : Value) (size bytes : Nat) (ht : P.underlying t = some (.slice e)) (hi : P.info? e = some i) (hz : i.zero = some z)
    (hsize : i.size = size) (hby : i.bytes = bytes) (hzs : z.cells.size = size) (hsz : 0 < size)
    (v : Value) (n : Nat) (xs : List Value) (hown : Slab w base v0 e size v n xs)
    (a : Addr) (m c : Nat) (news : List Value) (hl : news.length = m * size) (hnews : ∀ j u, news[j]? = some u → w.cell? (a.add j) = some u) (h1 : ∀ u ∈ news, u.oneCell' = true)
    (hm : 0 < m) (h63 : n + m ≤ maxLen) (hbytes : (n + m) * bytes ≤ 140737488355328) (hbase : base ≤ w.heap.size) :
    ∃ g cap w', (Builtin.append_ #[t, t] ty #[v, .slice (some a) m c]).run P w = .ok (.slice (some ⟨g, 0, none⟩) (n + m) cap) w' ∧ w'.ownsRow base e size (.slice (some ⟨g, 0, none⟩) (n + m) cap) (n + m) (xs ++ news) ∧ Below base w w' ∧
      w.grownBy w' v.ownBlock ∧ ((Value.slice (some ⟨g, 0, none⟩) (n + m) cap).ownBlock = v.ownBlock ∨ (Value.slice (some ⟨g, 0, none⟩) (n + m) cap).ownBlock = some w.heap.size) := by
  rcases hown with hown | ⟨rfl, rfl, ⟨ad, rfl⟩, rfl⟩
  · obtain ⟨v', w', hr, h2, h3, h4, h5⟩ := run_append_own_at (P := P) w base t ty e i z size bytes ht hi hz hsize hby hzs hsz v n xs hown a m c news hl hnews h1 h63 hbytes hbase
    obtain ⟨g, cap, rfl, _⟩ := h2.form (by omega)
    exact ⟨g, cap, w', hr, h2, (Below.refl base w).grown h3 hbase (fun k hk => (hown.lt k hk).1), h3, h5⟩
  · subst hsize
    subst hby
    have hr := run_append_grow (P := P) w t ty e i z ht hi hz ad 0 0 [] (by simp) (by simp) a m c news hl hnews (by omega) (by simp only [maxLen] at h63; omega) (growslice_fits (by omega) (by simpa using hbytes))
    have hge := grownCap_ge w (0 + m) 0 e
    have hcm : grownCap w (0 + m) 0 e ≤ maxLen := grownCap_le_maxLen w (0 + m) 0 e h63
    refine ⟨_, _, _, hr, ⟨by simpa using hl, .inr ⟨w.heap.size, _, _, rfl, hbase, heap_alloc_new w.drew _, hge, hcm, ?_, ?_⟩⟩, ((Below.refl base w).drew).alloc hbase _, grown_of (((Below.refl w.heap.size w).drew).alloc (Nat.le_refl _) _) (Nat.le_refl _) _, .inr rfl⟩
    · simp only [Array.size_append, List.size_toArray, size_zeroCells, hzs, List.length_nil, hl]
      rw [Nat.zero_add, ← Nat.add_mul]
      congr 1
      omega
    · simp only [Array.toList_append, List.append_assoc]
      rw [show (0 + m) * i.size = ([] ++ news).length by simp [hl], ← List.append_assoc]
      exact List.take_left
theorem wpList_append_slab_at {ops : Array Oper} {rest : List Oper} {o : Oper} {a : Act} {Q : Exit → Act → World → Prop} (hgd : o.guard = none) (s x : Operand) (t : TypeId)
    (ho : o.op = .call { callee := .builtin .append, args := #[s, x], argTypes := #[t, t] })
    (base : Nat) (v0 : Option Addr) (e : TypeId) (i : TypeInfo) (z : Value) (size bytes : Nat) (ht : P.underlying t = some (.slice e)) (hi : P.info? e = some i) (hz : i.zero = some z)
    (hsize : i.size = size) (hby : i.bytes = bytes) (hzs : z.cells.size = size) (hsz : 0 < size)
    (v : Value) (n : Nat) (xs : List Value) (hs : a.eval s = v) (hown : Slab w base v0 e size v n xs)
    (ad : Addr) (m c : Nat) (news : List Value) (hx : a.eval x = .slice (some ad) m c) (hl : news.length = m * size) (hnews : ∀ j u, news[j]? = some u → w.cell? (ad.add j) = some u) (h1 : ∀ u ∈ news, u.oneCell' = true)
    (hm : 0 < m) (h63 : n + m ≤ maxLen) (hbytes : (n + m) * bytes ≤ 140737488355328) (hbase : base ≤ w.heap.size)
    (h : ∀ g cap w', w'.ownsRow base e size (.slice (some ⟨g, 0, none⟩) (n + m) cap) (n + m) (xs ++ news) → Below base w w' → w.grownBy w' v.ownBlock →
      ((Value.slice (some ⟨g, 0, none⟩) (n + m) cap).ownBlock = v.ownBlock ∨ (Value.slice (some ⟨g, 0, none⟩) (n + m) cap).ownBlock = some w.heap.size) → wpList P ops Q rest (a.put o.dst (.slice (some ⟨g, 0, none⟩) (n + m) cap)) w') :
    wpList P ops Q (o :: rest) a w := by
  refine wpList_plain hgd fun K hK => ?_
  obtain ⟨g, cap, w', hr, h2, h3, h4, h5⟩ := run_append_slab_at (P := P) w base v0 t o.type e i z size bytes ht hi hz hsize hby hzs hsz v n xs hown ad m c news hl hnews h1 hm h63 hbytes hbase
  unfold Oper.wp execOp
  simp only [ho, resolve, invoke, builtin, Sem.run_bind, Sem.run_pure, Result.andThen_ok, List.map_toArray, List.map_cons, List.map_nil, hs, hx, hr]
  exact hK _ _ (h g cap w' h2 h3 h4 h5)
end
/-- The row u holds the two numbers of x, in a block of its own that is not v's. -/
def PairAt (w : World) (v u : Value) (x : Nat × Nat) : Prop :=
  ∃ b, u = .slice (some ⟨b, 0, none⟩) 2 2 ∧ b < w.heap.size ∧ w.cell? ⟨b, 0, none⟩ = some (.int .i64 x.1) ∧ w.cell? ⟨b, 1, none⟩ = some (.int .i64 x.2) ∧ v.ownBlock ≠ some b
/-- The slice value v holds rows of two numbers each. -/
def PrsV (w : World) (base : Nat) (v0 : Option Addr) (T : TypeId) (v : Value) (ps : List (Nat × Nat)) (vs : List Value) : Prop :=
  Slab w base v0 T 1 v ps.length vs ∧ vs.length = ps.length ∧ ∀ (i : Nat) (u : Value) (x : Nat × Nat), vs[i]? = some u → ps[i]? = some x → PairAt w v u x
def Prs (w : World) (base : Nat) (v0 : Option Addr) (T : TypeId) (v : Value) (ps : List (Nat × Nat)) : Prop := ∃ vs, PrsV w base v0 T v ps vs
section
variable {w w' : World} {base T : Nat} {v0 : Option Addr} {v : Value} {ps : List (Nat × Nat)} {vs : List Value}
theorem PairAt.below {u : Value} {x : Nat × Nat} (h : PairAt w v u x) (hb : Below w.heap.size w w') : PairAt w' v u x := by
  obtain ⟨b, e, hlt, c0, c1, hne⟩ := h
  exact ⟨b, e, by have := hb.size; omega, (hb.cell (p := ⟨b, 0, none⟩) hlt).trans c0, (hb.cell (p := ⟨b, 1, none⟩) hlt).trans c1, hne⟩
theorem PrsV.next (h : PrsV w base v0 T v ps vs) (hb : Below w.heap.size w w') : PrsV w' base v0 T v ps vs :=
  ⟨h.1.next hb, h.2.1, fun i u x hu hx => (h.2.2 i u x hu hx).below hb⟩
theorem Prs.next (h : Prs w base v0 T v ps) (hb : Below w.heap.size w w') : Prs w' base v0 T v ps := by
  obtain ⟨vs, h⟩ := h
  exact ⟨vs, h.next hb⟩
theorem prs_nil (w : World) (base : Nat) (ad : Addr) (T : TypeId) : Prs w base (some ad) T (.slice (some ad) 0 0) [] :=
  ⟨[], slab_zero _ _ _ _ _, rfl, fun i u x hu => by simp at hu⟩
theorem Slab.olt {n : Nat} (h : Slab w base v0 T 1 v n vs) (hv0 : ∀ g, (Value.slice v0 0 0).ownBlock = some g → g < base) (hB : base ≤ w.heap.size) : ∀ g, v.ownBlock = some g → g < w.heap.size := by
  intro g hg
  rcases h with h | ⟨_, _, _, rfl⟩
  · exact (h.lt g hg).2
  · exact Nat.lt_of_lt_of_le (hv0 g hg) hB
/-- A pair is put behind: its row lies in a new block, the append's argument in the next one. -/
theorem PrsV.push {v' : Value} {k m E : Nat} (h : PrsV w base v0 T v ps vs) (hv0 : ∀ g, (Value.slice v0 0 0).ownBlock = some g → g < base) (hB : base ≤ w.heap.size)
    (ho : w'.ownsRow base T 1 v' (ps.length + 1) (vs ++ [.slice (some ⟨w.heap.size, 0, none⟩) 2 2]))
    (hg : ((w.alloc (.cells #[.int .i64 k, .int .i64 m] E)).alloc (.cells #[.slice (some ⟨w.heap.size, 0, none⟩) 2 2] T)).grownBy w' v.ownBlock)
    (hat : v'.ownBlock = v.ownBlock ∨ v'.ownBlock = some (w.heap.size + 2)) : Prs w' base v0 T v' (ps ++ [(k, m)]) := by
  obtain ⟨hs, hl, hi⟩ := h
  have hlt := hs.olt hv0 hB
  have hz := hg.size
  simp at hz
  have hbel : Below w.heap.size w ((w.alloc (.cells #[.int .i64 k, .int .i64 m] E)).alloc (.cells #[.slice (some ⟨w.heap.size, 0, none⟩) 2 2] T)) := ((Below.refl _ _).alloc (Nat.le_refl _) _).alloc (by simp) _
  refine ⟨_, .inl (by simpa using ho), by simp [hl], fun i u x hu hx => ?_⟩
  rw [List.getElem?_append] at hu hx
  split at hu
  · rename_i h1
    rw [if_pos (by omega)] at hx
    obtain ⟨b, e, hb, c0, c1, hne⟩ := hi i u x hu hx
    have hblk := hg.block b (by simp; omega) (fun e => hne e.symm)
    refine ⟨b, e, by omega, (World.cell?_of_block (a := ⟨b, 0, none⟩) hblk).trans ((hbel.cell (p := ⟨b, 0, none⟩) hb).trans c0), (World.cell?_of_block (a := ⟨b, 1, none⟩) hblk).trans ((hbel.cell (p := ⟨b, 1, none⟩) hb).trans c1), ?_⟩
    rcases hat with h | h
    · rw [h]; exact hne
    · rw [h]; intro e; injection e with e; omega
  · rename_i h1
    rw [if_neg (by omega)] at hx
    have hi0 : i - vs.length = 0 := by
      have := (List.getElem?_eq_some_iff.1 hu).1
      simp at this
      omega
    rw [hi0] at hu
    rw [← hl, hi0] at hx
    simp at hu hx
    subst hu hx
    have hne : v.ownBlock ≠ some w.heap.size := fun e => by have := hlt _ e; omega
    have hblk := hg.block w.heap.size (by simp; omega) (fun e => hne e.symm)
    have hnew : ((w.alloc (.cells #[.int .i64 k, .int .i64 m] E)).alloc (.cells #[.slice (some ⟨w.heap.size, 0, none⟩) 2 2] T)).heap[w.heap.size]? = some (.cells #[.int .i64 k, .int .i64 m] E (0, 0)) := by
      show ((w.heap.push _).push _)[w.heap.size]? = _
      rw [Array.getElem?_push, if_neg (by simp), Array.getElem?_push, if_pos rfl]
    refine ⟨w.heap.size, rfl, by omega, (World.cell?_of_block (a := ⟨w.heap.size, 0, none⟩) hblk).trans ?_, (World.cell?_of_block (a := ⟨w.heap.size, 1, none⟩) hblk).trans ?_, ?_⟩
    · simp [World.cell?, hnew]
    · simp [World.cell?, hnew]
    · rcases hat with h | h
      · rw [h]; exact hne
      · rw [h]; intro e; injection e with e; omega
/-- The i-th pair, read. -/
theorem Prs.row {A : Option Addr} {n c i : Nat} {x : Nat × Nat} (h : Prs w base v0 T (.slice A n c) ps) (hn : ps.length = n) (hx : ps[i]? = some x) :
    ∃ g off b, A = some ⟨g, off, none⟩ ∧ g < w.heap.size ∧ w.cell? ⟨g, off + i, none⟩ = some (.slice (some ⟨b, 0, none⟩) 2 2) ∧ b < w.heap.size ∧ w.cell? ⟨b, 0, none⟩ = some (.int .i64 x.1) ∧ w.cell? ⟨b, 1, none⟩ = some (.int .i64 x.2) := by
  obtain ⟨vs, hs, hl, hi⟩ := h
  subst hn
  have rd := rd_of_slab hs
  have hlt : i < vs.length := by rw [hl]; exact (List.getElem?_eq_some_iff.1 hx).1
  have hu : vs[i]? = some vs[i] := List.getElem?_eq_getElem hlt
  obtain ⟨b, e, hb, c0, c1, -⟩ := hi i _ x hu hx
  obtain ⟨g, off, e2, hg, hc⟩ := rd (by omega)
  exact ⟨g, off, b, e2, hg, (hc i _ hu).trans (by rw [e]), hb, c0, c1⟩
end
end Go.Proofs.Ytbcgokpamhgabaa

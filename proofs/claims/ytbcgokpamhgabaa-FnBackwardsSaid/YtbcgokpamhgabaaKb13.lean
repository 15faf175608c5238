/- append onto a slice of the call's own, where nothing may be appended, at a step of a region that draws its order. No program in sight. append onto a slice of the call's own, or onto an empty one without room: only blocks from 'base' on turn. Functions that hand back a slice to be read. No program in sight. -/
import Derived.Deep.AppendLies
import Derived.Test.YtbcgokpamhgabaaKb01
namespace Go.Proofs.Ytbcgokpamhgabaa
set_option linter.unusedVariables false
open Go.RowKit Go.Sort

theorem step_append_own {P : Program} (w : World) {ops : Array Oper} {o : Oper} {a : Act} {K : Act → World → Prop} {Q : Exit → Act → World → Prop} {E : Prop} (hgd : o.guard = none) (s x : Operand) (t : TypeId)
    (ho : o.op = .call { callee := .builtin .append, args := #[s, x], argTypes := #[t, t] })
    (base : Nat) (e : TypeId) (i : TypeInfo) (z : Value) (size bytes : Nat) (ht : P.underlying t = some (.slice e)) (hi : P.info? e = some i) (hz : i.zero = some z)
    (hsize : i.size = size) (hby : i.bytes = bytes) (hzs : z.cells.size = size) (hsz : 0 < size)
    (v : Value) (n : Nat) (xs : List Value) (hs : a.eval s = v) (hown : w.ownsRow base e size v n xs)
    (ad : Addr) (m c : Nat) (news : List Value) (hx : a.eval x = .slice (some ad) m c) (hl : news.length = m * size) (hnews : ∀ j u, news[j]? = some u → w.cell? (ad.add j) = some u) (h1 : ∀ u ∈ news, u.oneCell' = true)
    (h63 : n + m ≤ maxLen) (hbytes : (n + m) * bytes ≤ 140737488355328) (hbase : base ≤ w.heap.size)
    (h : ∀ v' w', w'.ownsRow base e size v' (n + m) (xs ++ news) → w.grownBy w' v.ownBlock → (v'.ownBlock = v.ownBlock ∨ v'.ownBlock = some w.heap.size) → K (a.put o.dst v') w') :
    if Region.wanted o (yielded ops a.tmps) = true then Oper.wp P o a w K Q else E := by
  have hw : Region.wanted o (yielded ops a.tmps) = true := by simp [Region.wanted, hgd]
  rw [if_pos hw]
  obtain ⟨v', w', hr, h2, h3, _, h5⟩ := run_append_own_at (P := P) w base t o.type e i z size bytes ht hi hz hsize hby hzs hsz v n xs hown ad m c news hl hnews h1 h63 hbytes hbase
  unfold Oper.wp execOp
  simp only [ho, resolve, invoke, builtin, Sem.run_bind, Sem.run_pure, Result.andThen_ok, List.map_toArray, List.map_cons, List.map_nil, hs, hx, hr]
  exact h v' w' h2 h3 h5

theorem own_cap {w : World} {base : Nat} {e : TypeId} {size n c : Nat} {A : Option Addr} {xs : List Value} (h : w.ownsRow base e size (.slice A n c) n xs) : n ≤ c := by
  rcases h.2 with ⟨hv, h0⟩ | ⟨g, cap, cur, hv, hb, hg, hnc, _⟩
  · omega
  · injection hv with _ _ h3
    omega

/-- Cuts of what a slice value reads as. -/
theorem Rd.front {w : World} {B : Nat} {A : Option Addr} {L : List Ln} (h : Rd w B A (flat L)) (k : Nat) : Rd w B A (flat (L.take k)) := fun hn => by
  have hk : flat L = flat (L.take k) ++ flat (L.drop k) := by rw [← flat_append, List.take_append_drop]
  obtain ⟨b, off, e, hb, hc⟩ := h (by rw [hk, List.length_append]; omega)
  exact ⟨b, off, e, hb, fun j u hu => hc j u (by rw [hk, List.getElem?_append_left (List.getElem?_eq_some_iff.1 hu).1]; exact hu)⟩
theorem Rd.back {w : World} {B b off : Nat} {L : List Ln} (h : Rd w B (some ⟨b, off, none⟩) (flat L)) (k : Nat) : Rd w B (some ⟨b, off + k * 3, none⟩) (flat (L.drop k)) := fun hn => by
  rw [flat_length, List.length_drop] at hn
  obtain ⟨b', off', e, hb, hc⟩ := h (by rw [flat_length]; omega)
  injection e with e
  injection e with e1 e2
  subst e1 e2
  refine ⟨b, off + k * 3, rfl, hb, fun j u hu => ?_⟩
  have hk : flat L = flat (L.take k) ++ flat (L.drop k) := by rw [← flat_append, List.take_append_drop]
  have hl : (flat (L.take k)).length = k * 3 := by rw [flat_length, List.length_take]; omega
  rw [Nat.add_assoc]
  refine hc _ u ?_
  rw [hk, List.getElem?_append_right (by omega), hl, Nat.add_sub_cancel_left]
  exact hu
end Go.Proofs.Ytbcgokpamhgabaa
namespace Go.Proofs.Ytbcgokpamhgabaa
set_option linter.unusedVariables false
open Go.RowKit Go.Sort

/-- The slice value v owns the cells xs (blocks from base on), or it is the empty slice v0, which has no room. -/
def Slab (w : World) (base : Nat) (v0 : Option Addr) (e : TypeId) (size : Nat) (v : Value) (n : Nat) (xs : List Value) : Prop :=
  w.ownsRow base e size v n xs ∨ (n = 0 ∧ xs = [] ∧ (∃ ad, v0 = some ad) ∧ v = .slice v0 0 0)

theorem slab_zero (w : World) (base : Nat) (ad : Addr) (e : TypeId) (size : Nat) : Slab w base (some ad) e size (.slice (some ad) 0 0) 0 [] := .inr ⟨rfl, rfl, ⟨_, rfl⟩, rfl⟩
theorem slab_nil (w : World) (base : Nat) (v0 : Option Addr) (e : TypeId) (size : Nat) : Slab w base v0 e size (.slice none 0 0) 0 [] := .inl (World.ownsRow_nil _ _ _ _)
theorem Slab.next {w w' : World} {base : Nat} {v0 : Option Addr} {e : TypeId} {size n : Nat} {v : Value} {xs : List Value} (h : Slab w base v0 e size v n xs) (hb : Below w.heap.size w w') : Slab w' base v0 e size v n xs := by
  rcases h with h | h
  · exact .inl (own_next h hb)
  · exact .inr h
theorem Slab.alloc {w : World} {base : Nat} {v0 : Option Addr} {e : TypeId} {size n : Nat} {v : Value} {xs : List Value} (h : Slab w base v0 e size v n xs) (o : Obj) : Slab (w.alloc o) base v0 e size v n xs := by
  rcases h with h | h
  · exact .inl (h.alloc o)
  · exact .inr h
theorem Slab.end {w : World} {base B : Nat} {v0 : Option Addr} {e : TypeId} {size n : Nat} {v : Value} {xs : List Value} (h : Slab w base v0 e size v n xs) (h0 : w.ownsRow B e size (.slice v0 0 0) 0 []) (hB : B ≤ base) : w.ownsRow B e size v n xs := by
  rcases h with h | ⟨rfl, rfl, _, rfl⟩
  · exact own_base h hB
  · exact h0
theorem rd_of_slab {w : World} {base : Nat} {v0 A : Option Addr} {e : TypeId} {size n c : Nat} {xs : List Value} (h : Slab w base v0 e size (.slice A n c) n xs) : Rd w w.heap.size A xs := by
  rcases h with h | ⟨rfl, rfl, _, _⟩
  · exact rd_of_own h
  · exact Rd.nil

section
variable {P : Program} (w : World)
theorem run_append_slab (base : Nat) (v0 : Option Addr) (t ty e : TypeId) (i : TypeInfo) (z : Value) (size bytes : Nat) (ht : P.underlying t = some (.slice e)) (hi : P.info? e = some i) (hz : i.zero = some z)
    (hsize : i.size = size) (hby : i.bytes = bytes) (hzs : z.cells.size = size) (hsz : 0 < size)
    (v : Value) (n : Nat) (xs : List Value) (hown : Slab w base v0 e size v n xs)
    (a : Addr) (m c : Nat) (news : List Value) (hl : news.length = m * size) (hnews : ∀ j u, news[j]? = some u → w.cell? (a.add j) = some u) (h1 : ∀ u ∈ news, u.oneCell' = true)
    (hm : 0 < m) (h63 : n + m ≤ maxLen) (hbytes : (n + m) * bytes ≤ 140737488355328) (hbase : base ≤ w.heap.size) :
    ∃ g cap w', (Builtin.append_ #[t, t] ty #[v, .slice (some a) m c]).run P w = .ok (.slice (some ⟨g, 0, none⟩) (n + m) cap) w' ∧ w'.ownsRow base e size (.slice (some ⟨g, 0, none⟩) (n + m) cap) (n + m) (xs ++ news) ∧ Below base w w' := by
  rcases hown with hown | ⟨rfl, rfl, ⟨ad, rfl⟩, rfl⟩
  · obtain ⟨v', w', hr, h2, h3, h4, h5⟩ := run_append_own_at (P := P) w base t ty e i z size bytes ht hi hz hsize hby hzs hsz v n xs hown a m c news hl hnews h1 h63 hbytes hbase
    obtain ⟨g, cap, rfl, _⟩ := h2.form (by omega)
    exact ⟨g, cap, w', hr, h2, (Below.refl base w).grown h3 hbase (fun k hk => (hown.lt k hk).1)⟩
  · subst hsize
    subst hby
    have hr := run_append_grow (P := P) w t ty e i z ht hi hz ad 0 0 [] (by simp) (by simp) a m c news hl hnews (by omega) (by simp only [maxLen] at h63; omega) (growslice_fits (by omega) (by simpa using hbytes))
    have hge := grownCap_ge w (0 + m) 0 e
    have hcm : grownCap w (0 + m) 0 e ≤ maxLen := grownCap_le_maxLen w (0 + m) 0 e h63
    refine ⟨_, _, _, hr, ⟨by simpa using hl, .inr ⟨w.heap.size, _, _, rfl, hbase, heap_alloc_new w.drew _, hge, hcm, ?_, ?_⟩⟩, ((Below.refl base w).drew).alloc hbase _⟩
    · simp only [Array.size_append, List.size_toArray, size_zeroCells, hzs, List.length_nil, hl]
      rw [Nat.zero_add, ← Nat.add_mul]
      congr 1
      omega
    · simp only [Array.toList_append, List.append_assoc]
      rw [show (0 + m) * i.size = ([] ++ news).length by simp [hl], ← List.append_assoc]
      exact List.take_left

theorem wpList_append_slab {ops : Array Oper} {rest : List Oper} {o : Oper} {a : Act} {Q : Exit → Act → World → Prop} (hgd : o.guard = none) (s x : Operand) (t : TypeId)
    (ho : o.op = .call { callee := .builtin .append, args := #[s, x], argTypes := #[t, t] })
    (base : Nat) (v0 : Option Addr) (e : TypeId) (i : TypeInfo) (z : Value) (size bytes : Nat) (ht : P.underlying t = some (.slice e)) (hi : P.info? e = some i) (hz : i.zero = some z)
    (hsize : i.size = size) (hby : i.bytes = bytes) (hzs : z.cells.size = size) (hsz : 0 < size)
    (v : Value) (n : Nat) (xs : List Value) (hs : a.eval s = v) (hown : Slab w base v0 e size v n xs)
    (ad : Addr) (m c : Nat) (news : List Value) (hx : a.eval x = .slice (some ad) m c) (hl : news.length = m * size) (hnews : ∀ j u, news[j]? = some u → w.cell? (ad.add j) = some u) (h1 : ∀ u ∈ news, u.oneCell' = true)
    (hm : 0 < m) (h63 : n + m ≤ maxLen) (hbytes : (n + m) * bytes ≤ 140737488355328) (hbase : base ≤ w.heap.size)
    (h : ∀ g cap w', w'.ownsRow base e size (.slice (some ⟨g, 0, none⟩) (n + m) cap) (n + m) (xs ++ news) → Below base w w' → wpList P ops Q rest (a.put o.dst (.slice (some ⟨g, 0, none⟩) (n + m) cap)) w') :
    wpList P ops Q (o :: rest) a w := by
  refine wpList_plain hgd fun K hK => ?_
  obtain ⟨g, cap, w', hr, h2, h3⟩ := run_append_slab (P := P) w base v0 t o.type e i z size bytes ht hi hz hsize hby hzs hsz v n xs hown ad m c news hl hnews h1 hm h63 hbytes hbase
  unfold Oper.wp execOp
  simp only [ho, resolve, invoke, builtin, Sem.run_bind, Sem.run_pure, Result.andThen_ok, List.map_toArray, List.map_cons, List.map_nil, hs, hx, hr]
  exact hK _ _ (h g cap w' h2 h3)

theorem step_append_slab {ops : Array Oper} {o : Oper} {a : Act} {K : Act → World → Prop} {Q : Exit → Act → World → Prop} {E : Prop} (hgd : o.guard = none) (s x : Operand) (t : TypeId)
    (ho : o.op = .call { callee := .builtin .append, args := #[s, x], argTypes := #[t, t] })
    (base : Nat) (v0 : Option Addr) (e : TypeId) (i : TypeInfo) (z : Value) (size bytes : Nat) (ht : P.underlying t = some (.slice e)) (hi : P.info? e = some i) (hz : i.zero = some z)
    (hsize : i.size = size) (hby : i.bytes = bytes) (hzs : z.cells.size = size) (hsz : 0 < size)
    (v : Value) (n : Nat) (xs : List Value) (hs : a.eval s = v) (hown : Slab w base v0 e size v n xs)
    (ad : Addr) (m c : Nat) (news : List Value) (hx : a.eval x = .slice (some ad) m c) (hl : news.length = m * size) (hnews : ∀ j u, news[j]? = some u → w.cell? (ad.add j) = some u) (h1 : ∀ u ∈ news, u.oneCell' = true)
    (hm : 0 < m) (h63 : n + m ≤ maxLen) (hbytes : (n + m) * bytes ≤ 140737488355328) (hbase : base ≤ w.heap.size)
    (h : ∀ g cap w', w'.ownsRow base e size (.slice (some ⟨g, 0, none⟩) (n + m) cap) (n + m) (xs ++ news) → Below base w w' → K (a.put o.dst (.slice (some ⟨g, 0, none⟩) (n + m) cap)) w') :
    if Region.wanted o (yielded ops a.tmps) = true then Oper.wp P o a w K Q else E := by
  have hw : Region.wanted o (yielded ops a.tmps) = true := by simp [Region.wanted, hgd]
  rw [if_pos hw]
  obtain ⟨g, cap, w', hr, h2, h3⟩ := run_append_slab (P := P) w base v0 t o.type e i z size bytes ht hi hz hsize hby hzs hsz v n xs hown ad m c news hl hnews h1 hm h63 hbytes hbase
  unfold Oper.wp execOp
  simp only [ho, resolve, invoke, builtin, Sem.run_bind, Sem.run_pure, Result.andThen_ok, List.map_toArray, List.map_cons, List.map_nil, hs, hx, hr]
  exact h g cap w' h2 h3
end

/-- The call hands back a slice that reads as xs; nothing that was there has turned. -/
def GivesRd (w : World) (n : Nat) (xs : List Value) (e : Ending) (w' : World) : Prop :=
  ∃ A c, e = .returned (.slice A n c) ∧ Rd w' w'.heap.size A xs ∧ Below w.heap.size w w'
theorem ret_slice {A : Option Addr} {n m c : Nat} (h : n = m) : Ending.returned (.slice A n c) = .returned (.slice A m c) := by rw [h]
theorem gives_rd {w w' : World} {T size n : Nat} {xs : List Value} {e : Ending} (h : GivesSlice w T size n xs e w') : GivesRd w n xs e w' := by
  obtain ⟨A, c, he, ho, hb⟩ := h
  exact ⟨A, c, he, rd_of_own ho, hb⟩

/-- .. and lies among the call's own blocks. -/
def GivesRdL (w : World) (n : Nat) (xs : List Value) (e : Ending) (w' : World) : Prop :=
  ∃ A c, e = .returned (.slice A n c) ∧ Rd w' w'.heap.size A xs ∧ Below w.heap.size w w' ∧ ∀ a, A = some a → w.heap.size ≤ a.block
theorem gives_rdL {w w' : World} {n : Nat} {xs : List Value} {e : Ending} (h : GivesRdL w n xs e w') : GivesRd w n xs e w' := by
  obtain ⟨A, c, he, ho, hb, _⟩ := h
  exact ⟨A, c, he, ho, hb⟩
theorem Slab.lo {w : World} {base B : Nat} {v0 A : Option Addr} {e : TypeId} {size n c : Nat} {xs : List Value} (h : Slab w base v0 e size (.slice A n c) n xs) (hB : B ≤ base) (h0 : ∀ a, v0 = some a → B ≤ a.block) : ∀ a, A = some a → B ≤ a.block := by
  rintro a rfl
  rcases h with h | ⟨_, _, _, hv⟩
  · have := (h.lt a.block rfl).1
    omega
  · injection hv with hv
    exact h0 a hv.symm

/-- The cells of a line just laid. -/
theorem cell_three_new (w : World) (x y z : Value) (t : TypeId) (hx : x.oneCell' = true) (hy : y.oneCell' = true) (hz : z.oneCell' = true) : ∀ j u, [x, y, z][j]? = some u → (w.alloc (.cells #[x, y, z] t)).cell? ((⟨w.heap.size, 0, none⟩ : Addr).add j) = some u :=
  World.news_of_block (cs := #[x, y, z]) (t := t) (fr := (0, 0)) (heap_alloc_new w _)
end Go.Proofs.Ytbcgokpamhgabaa

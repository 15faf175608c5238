/- A slice of slices of the call's own, in memory: all blocks lie apart. No program in sight. -/
import Derived.Test.YtbcgokpamhgabaaStep
set_option linter.unusedVariables false
namespace Go.Proofs.Ytbcgokpamhgabaa
open Go.RowKit Go.Sort

/-- The slice value v holds the slice values vs; the i-th of them owns the cells cs[i]; no two share a block. -/
structure Grid (w : World) (base T E size : Nat) (v : Value) (vs : List Value) (cs : List (List Value)) : Prop where
  outer : w.ownsRow base T 1 v vs.length vs
  len : cs.length = vs.length
  inner : ∀ (i : Nat) (u : Value) (xs : List Value), vs[i]? = some u → cs[i]? = some xs → ∃ n, w.ownsRow base E size u n xs
  apart : ∀ (i j : Nat) (u u' : Value) (g : Nat), vs[i]? = some u → vs[j]? = some u' → u.ownBlock = some g → u'.ownBlock = some g → i = j
  off : ∀ (i : Nat) (u : Value) (g : Nat), vs[i]? = some u → u.ownBlock = some g → v.ownBlock ≠ some g
/-- All its blocks lie below S. -/
def Under (S : Nat) (v : Value) (vs : List Value) : Prop := (∀ g, v.ownBlock = some g → g < S) ∧ ∀ u ∈ vs, ∀ g, u.ownBlock = some g → g < S

section
variable {w w' : World} {base T E size : Nat} {v : Value} {vs : List Value} {cs : List (List Value)}
theorem Grid.has (h : Grid w base T E size v vs cs) {i : Nat} (hi : i < cs.length) : ∃ u xs n, vs[i]? = some u ∧ cs[i]? = some xs ∧ w.ownsRow base E size u n xs := by
  have hi' : i < vs.length := by rw [← h.len]; exact hi
  obtain ⟨n, hn⟩ := h.inner i vs[i] cs[i] (List.getElem?_eq_getElem hi') (List.getElem?_eq_getElem hi)
  exact ⟨_, _, n, List.getElem?_eq_getElem hi', List.getElem?_eq_getElem hi, hn⟩
theorem Grid.mem (h : Grid w base T E size v vs cs) {u : Value} (hu : u ∈ vs) : ∃ n xs, w.ownsRow base E size u n xs := by
  obtain ⟨i, hi, rfl⟩ := List.mem_iff_getElem.1 hu
  obtain ⟨u, xs, n, h1, h2, h3⟩ := h.has (i := i) (by rw [h.len]; exact hi)
  rw [List.getElem?_eq_getElem hi] at h1
  injection h1 with h1
  exact ⟨n, xs, h1 ▸ h3⟩
theorem Grid.under (h : Grid w base T E size v vs cs) : Under w.heap.size v vs :=
  ⟨fun g hg => (h.outer.lt g hg).2, fun u hu g hg => by obtain ⟨n, xs, ho⟩ := h.mem hu; exact (ho.lt g hg).2⟩
theorem Grid.over (h : Grid w base T E size v vs cs) : (∀ g, v.ownBlock = some g → base ≤ g) ∧ ∀ u ∈ vs, ∀ g, u.ownBlock = some g → base ≤ g :=
  ⟨fun g hg => (h.outer.lt g hg).1, fun u hu g hg => by obtain ⟨n, xs, ho⟩ := h.mem hu; exact (ho.lt g hg).1⟩
theorem Grid.lift (h : Grid w base T E size v vs cs) (hl : ∀ (t z : Nat) (u : Value) (n : Nat) (xs : List Value), (u = v ∨ u ∈ vs) → w.ownsRow base t z u n xs → w'.ownsRow base t z u n xs) : Grid w' base T E size v vs cs :=
  ⟨hl _ _ _ _ _ (.inl rfl) h.outer, h.len, fun i u xs hu hx => by
    obtain ⟨n, hn⟩ := h.inner i u xs hu hx
    exact ⟨n, hl _ _ _ _ _ (.inr (List.mem_of_getElem? hu)) hn⟩, h.apart, h.off⟩
theorem Grid.below {B : Nat} (h : Grid w base T E size v vs cs) (hb : Below B w w') (hu : Under B v vs) : Grid w' base T E size v vs cs :=
  h.lift fun t z u n xs hm ho => own_below ho hb (fun g hg => hm.elim (fun e => hu.1 g (e ▸ hg)) (fun e => hu.2 u e g hg))
theorem Grid.next (h : Grid w base T E size v vs cs) (hb : Below w.heap.size w w') : Grid w' base T E size v vs cs := h.below hb h.under
theorem Grid.kept {row : Option Nat} (h : Grid w base T E size v vs cs) (hg : w.grownBy w' row) (hv : v.ownBlock = none ∨ v.ownBlock ≠ row) (hu : ∀ u ∈ vs, u.ownBlock = none ∨ u.ownBlock ≠ row) : Grid w' base T E size v vs cs :=
  h.lift fun t z u n xs hm ho => ho.kept hg (hm.elim (fun e => e ▸ hv) (fun e => hu u e))
theorem Grid.kept_low {row : Option Nat} (h : Grid w base T E size v vs cs) (hg : w.grownBy w' row) (hr : ∀ g, row = some g → g < base) : Grid w' base T E size v vs cs :=
  h.lift fun t z u n xs hm ho => ho.kept hg (by
    cases hb : u.ownBlock with
    | none => exact .inl rfl
    | some g => exact .inr fun e => by have := hr g e.symm; have := (ho.lt g hb).1; omega)
theorem Grid.kept_row {row : Option Nat} {S : Nat} (h : Grid w base T E size v vs cs) (hg : w.grownBy w' row) (hu : Under S v vs) (hr : ∀ g, row = some g → S ≤ g) : Grid w' base T E size v vs cs :=
  h.lift fun t z u n xs hm ho => ho.kept hg (by
    cases hb : u.ownBlock with
    | none => exact .inl rfl
    | some g => exact .inr fun e => by have a := hr g e.symm; have b : g < S := hm.elim (fun e => hu.1 g (e ▸ hb)) (fun e => hu.2 u e g hb); omega)
theorem Grid.alloc (h : Grid w base T E size v vs cs) (o : Obj) : Grid (w.alloc o) base T E size v vs cs := h.lift fun t z u n xs _ ho => ho.alloc o
theorem Grid.drew (h : Grid w base T E size v vs cs) : Grid w.drew base T E size v vs cs := h.lift fun t z u n xs _ ho => ho.drew
theorem Grid.drewN (h : Grid w base T E size v vs cs) (k : Nat) : Grid (w.drewN k) base T E size v vs cs := h.lift fun t z u n xs _ ho => ho
theorem Grid.nil (w : World) (base T E size : Nat) : Grid w base T E size (.slice none 0 0) [] [] :=
  ⟨World.ownsRow_nil _ _ _ _, rfl, fun i u xs h => by simp at h, fun i j u u' g h => by simp at h, fun i u g h => by simp at h⟩
theorem Grid.lit (w : World) (base T E size : Nat) (hb : base ≤ w.heap.size) : Grid (w.alloc (.cells #[] T)) base T E size (.slice (some ⟨w.heap.size, 0, none⟩) 0 0) [] [] :=
  ⟨World.ownsRow_lit w #[] 0 hb (by simp [maxLen]) rfl, rfl, fun i u xs h => by simp at h, fun i j u u' g h => by simp at h, fun i u g h => by simp at h⟩
/-- A slice value is put behind. -/
theorem Grid.push {v' u : Value} {n m : Nat} {xs : List Value} (h : Grid w base T E size v vs cs) (hu : w.ownsRow base E size u n xs)
    (hf : ∀ g, u.ownBlock = some g → v.ownBlock ≠ some g ∧ ∀ x ∈ vs, x.ownBlock ≠ some g) (hm : m = vs.length + 1) (ho : w'.ownsRow base T 1 v' m (vs ++ [u])) (hg : w.grownBy w' v.ownBlock)
    (hb : v'.ownBlock = v.ownBlock ∨ v'.ownBlock = some w.heap.size) : Grid w' base T E size v' (vs ++ [u]) (cs ++ [xs]) := by
  have hl := h.len
  refine ⟨by subst hm; simpa using ho, by simp [hl], fun i x ys hx hy => ?_, fun i j x y g hx hy hxg hyg => ?_, fun i x g hx hxg => ?_⟩
  · rw [List.getElem?_append] at hx hy
    split at hx
    · rename_i hi
      rw [if_pos (by omega)] at hy
      obtain ⟨k, hk⟩ := h.inner i x ys hx hy
      refine ⟨k, hk.kept hg ?_⟩
      cases hc : x.ownBlock with
      | none => exact .inl rfl
      | some g => exact .inr fun e => h.off i x g hx hc e.symm
    · rename_i hi
      rw [if_neg (by omega)] at hy
      obtain ⟨hi', e⟩ : i = vs.length ∧ u = x := by
        have := (List.getElem?_eq_some_iff.1 hx).1
        simp at this
        have hi2 : i = vs.length := by omega
        subst hi2
        simpa using hx
      subst e hi'
      rw [hl] at hy
      simp at hy
      subst hy
      refine ⟨n, hu.kept hg ?_⟩
      cases hc : u.ownBlock with
      | none => exact .inl rfl
      | some g => exact .inr fun e => (hf g hc).1 e.symm
  · have key : ∀ k z, (vs ++ [u])[k]? = some z → vs[k]? = some z ∨ (k = vs.length ∧ z = u) := fun k z hz => by
      rw [List.getElem?_append] at hz
      split at hz
      · exact .inl hz
      · have := (List.getElem?_eq_some_iff.1 hz).1
        simp at this
        have hk : k = vs.length := by omega
        subst hk
        simp at hz
        exact .inr ⟨rfl, hz.symm⟩
    rcases key i x hx with a | ⟨a, rfl⟩ <;> rcases key j y hy with b | ⟨b, rfl⟩
    · exact h.apart i j x y g a b hxg hyg
    · exact absurd hxg ((hf g hyg).2 x (List.mem_of_getElem? a))
    · exact absurd hyg ((hf g hxg).2 y (List.mem_of_getElem? b))
    · omega
  · rw [List.getElem?_append] at hx
    split at hx
    · rcases hb with hb | hb
      · rw [hb]; exact h.off i x g hx hxg
      · rw [hb]; intro e; injection e with e; have := h.under.2 x (List.mem_of_getElem? hx) g hxg; omega
    · have hx' : x = u := by
        have := (List.getElem?_eq_some_iff.1 hx).1
        simp at this
        have hk : i = vs.length := by omega
        subst hk
        simpa using hx.symm
      subst hx'
      rcases hb with hb | hb
      · rw [hb]; exact (hf g hxg).1
      · rw [hb]; intro e; injection e with e; have := (hu.lt g hxg).2; omega
/-- The i-th slice has turned (an append, a mark); its new value is put back into its cell. -/
theorem Grid.put {u u' : Value} {i g n cap : Nat} {ys : List Value} {w2 : World} (h : Grid w base T E size v vs cs) (hv : v = .slice (some ⟨g, 0, none⟩) n cap) (hi : vs[i]? = some u)
    (hg : w.grownBy w2 u.ownBlock) {m : Nat} (ho : w2.ownsRow base E size u' m ys) (hb : u'.ownBlock = u.ownBlock ∨ u'.ownBlock = some w.heap.size) :
    Grid (w2.setCell ⟨g, i, none⟩ u') base T E size v (vs.set i u') (cs.set i ys) := by
  subst hv
  have hn : n = vs.length := by
    rcases h.outer.2 with ⟨hv, h0⟩ | ⟨g, cap, cur, hv, _⟩
    · cases hv
    · injection hv
  subst hn
  have hgs := (h.outer.lt g rfl).2
  have o2 : w2.ownsRow base T 1 (.slice (some ⟨g, 0, none⟩) vs.length cap) vs.length vs := h.outer.kept hg (.inr fun e => h.off i u g hi e.symm rfl)
  have hgg := (o2.stored i u').2
  have hne : ∀ (x : Value), (∀ k, x.ownBlock = some k → k ≠ g) → x.ownBlock = none ∨ x.ownBlock ≠ Value.ownBlock (.slice (some ⟨g, 0, none⟩) vs.length cap) := fun x hx => by
    cases hc : x.ownBlock with
    | none => exact .inl rfl
    | some k => exact .inr fun e => hx k hc (by injection e)
  have hu' : ∀ k, u'.ownBlock = some k → k ≠ g := fun k hk => by
    rcases hb with hb | hb
    · intro e; subst e; exact h.off i u k hi (hb.symm.trans hk) rfl
    · rw [hk] at hb; injection hb with hb; omega
  have key : ∀ k z, (vs.set i u')[k]? = some z → (k = i ∧ z = u') ∨ (k ≠ i ∧ vs[k]? = some z) := fun k z hz => by
    by_cases e : k = i
    · subst e
      have hlt : k < vs.length := (List.getElem?_eq_some_iff.1 hi).1
      rw [List.getElem?_set_self hlt] at hz
      injection hz with hz
      exact .inl ⟨rfl, hz.symm⟩
    · rw [List.getElem?_set_ne (Ne.symm e)] at hz
      exact .inr ⟨e, hz⟩
  refine ⟨by simpa using (o2.stored i u').1, by simp [h.len], fun k x zs hx hz => ?_, fun k j x y b hx hy hxb hyb => ?_, fun k x b hx hxb => ?_⟩
  · rcases key k x hx with ⟨rfl, rfl⟩ | ⟨e, hx⟩
    · have hlt : k < cs.length := by rw [h.len]; exact (List.getElem?_eq_some_iff.1 hi).1
      rw [List.getElem?_set_self hlt] at hz
      injection hz with hz
      subst hz
      exact ⟨m, ho.kept hgg (hne _ hu')⟩
    · rw [List.getElem?_set_ne (Ne.symm e)] at hz
      obtain ⟨q, hq⟩ := h.inner k x zs hx hz
      refine ⟨q, (hq.kept hg ?_).kept hgg (hne _ fun b hb e => h.off k x b hx hb (by rw [e]; rfl))⟩
      cases hc : x.ownBlock with
      | none => exact .inl rfl
      | some b => exact .inr fun e2 => e (h.apart k i x u b hx hi hc e2.symm)
  · rcases key k x hx with ⟨e1, e2⟩ | ⟨e, hx2⟩ <;> rcases key j y hy with ⟨e3, e4⟩ | ⟨e', hy2⟩
    · omega
    · exfalso
      subst e1 e2
      rcases hb with hb | hb
      · exact e' (h.apart j k y u b hy2 hi hyb (hb.symm.trans hxb))
      · rw [hxb] at hb; injection hb with hb; have := h.under.2 y (List.mem_of_getElem? hy2) b hyb; omega
    · exfalso
      subst e3 e4
      rcases hb with hb | hb
      · exact e (h.apart k j x u b hx2 hi hxb (hb.symm.trans hyb))
      · rw [hyb] at hb; injection hb with hb; have := h.under.2 x (List.mem_of_getElem? hx2) b hxb; omega
    · exact h.apart k j x y b hx2 hy2 hxb hyb
  · rcases key k x hx with ⟨rfl, rfl⟩ | ⟨e, hx⟩
    · exact fun e => hu' b hxb (by injection e with e; exact e.symm)
    · exact h.off k x b hx hxb
/-- The cells of the i-th slice have turned where they lie. -/
theorem Grid.turn {u : Value} {i n : Nat} {ys : List Value} (h : Grid w base T E size v vs cs) (hi : vs[i]? = some u)
    (hg : w.grownBy w' u.ownBlock) (ho : w'.ownsRow base E size u n ys) : Grid w' base T E size v vs (cs.set i ys) := by
  refine ⟨h.outer.kept hg ?_, by simp [h.len], fun k x zs hx hz => ?_, h.apart, h.off⟩
  · cases hc : v.ownBlock with
    | none => exact .inl rfl
    | some g => exact .inr fun e => h.off i u g hi e.symm hc
  · by_cases e : k = i
    · subst e
      rw [hi] at hx
      injection hx with hx
      subst hx
      have hlt : k < cs.length := by rw [h.len]; exact (List.getElem?_eq_some_iff.1 hi).1
      rw [List.getElem?_set_self hlt] at hz
      injection hz with hz
      subst hz
      exact ⟨n, ho⟩
    · rw [List.getElem?_set_ne (Ne.symm e)] at hz
      obtain ⟨q, hq⟩ := h.inner k x zs hx hz
      refine ⟨q, hq.kept hg ?_⟩
      cases hc : x.ownBlock with
      | none => exact .inl rfl
      | some b => exact .inr fun e2 => e (h.apart k i x u b hx hi hc e2.symm)
/-- The cell that holds the i-th slice value. -/
theorem Grid.at {A : Option Addr} {n c i : Nat} (h : Grid w base T E size (.slice A n c) vs cs) (hi : i < cs.length) :
    ∃ g u xs m, A = some ⟨g, 0, none⟩ ∧ g < w.heap.size ∧ vs[i]? = some u ∧ cs[i]? = some xs ∧ w.ownsRow base E size u m xs ∧ w.cell? ⟨g, i, none⟩ = some u ∧ w.frozen? ⟨g, i, none⟩ = false := by
  obtain ⟨u, xs, m, h1, h2, h3⟩ := h.has hi
  have hi' : i < vs.length := by rw [← h.len]; exact hi
  have ho := h.outer
  obtain ⟨g, cap, hv, hb, hlt⟩ := ho.form (by omega)
  injection hv with e1 e2 e3
  subst e1 e2 e3
  exact ⟨g, u, xs, m, rfl, hlt, h1, h2, h3, (ho.cellAt i (by omega)).trans h1, ho.frozenAt i⟩
theorem Grid.count (h : Grid w base T E size v vs cs) {A : Option Addr} {n c : Nat} (hv : v = .slice A n c) : n = cs.length := by
  subst hv
  rw [h.len]
  rcases h.outer.2 with ⟨hv, h0⟩ | ⟨g, cap, cur, hv, _⟩
  · injection hv with _ h1
    omega
  · injection hv
end
/-- The call hands back a slice of slices of its own making. -/
def GivesGrid (w : World) (T E size : Nat) (cs : List (List Value)) (e : Ending) (w' : World) : Prop :=
  ∃ A c vs, e = .returned (.slice A cs.length c) ∧ Grid w' w.heap.size T E size (.slice A cs.length c) vs cs ∧ Below w.heap.size w w'
theorem own_lines {w : World} {base : Nat} {e : TypeId} {n : Nat} {v : Value} {r : List Ln} (h : w.ownsRow base e 3 v n (flat r)) : n = r.length := by
  have := h.1; rw [flat_length] at this; omega
theorem own_numbers {w : World} {base : Nat} {e : TypeId} {n : Nat} {v : Value} {r : List Int} (h : w.ownsRow base e 1 v n (ints r)) : n = r.length := by
  have := h.1; rw [ints_length] at this; omega
end Go.Proofs.Ytbcgokpamhgabaa

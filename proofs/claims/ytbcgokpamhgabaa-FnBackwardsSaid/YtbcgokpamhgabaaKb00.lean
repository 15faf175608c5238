/- Vocabulary, with no program in sight: lines as triples, what a slice value reads as in memory, and small facts on worlds. -/
import Derived.WalkKit
import Derived.Below
import Derived.Laws.OwnMore
import Derived.Deep.AppendLies
import Derived.Deep.Draws
import Derived.Lib.Hide
import Derived.Lib.QuietBelow
import Derived.Maps.AppendAt
namespace Go.Proofs.Ytbcgokpamhgabaa
set_option linter.unusedVariables false
open Go.RowKit Go.Sort

structure Ln where
  f : Int
  o : Int
  t : Int

theorem Ln.ext_iff' {a b : Ln} : a = b ↔ a.f = b.f ∧ a.o = b.o ∧ a.t = b.t := by cases a; cases b; simp
instance : DecidableEq Ln := fun _ _ => decidable_of_iff _ Ln.ext_iff'.symm
instance : Inhabited Ln := ⟨⟨0, 0, 0⟩⟩

def lnC (l : Ln) : List Value := [.int .i64 l.f, .int .i64 l.o, .int .i64 l.t]
def flat (ls : List Ln) : List Value := ls.flatMap lnC
def ints (xs : List Int) : List Value := xs.map (Value.int .i64)

theorem flat_nil : flat [] = [] := rfl
theorem flat_cons (l : Ln) (ls : List Ln) : flat (l :: ls) = .int .i64 l.f :: .int .i64 l.o :: .int .i64 l.t :: flat ls := rfl
theorem flat_append (a b : List Ln) : flat (a ++ b) = flat a ++ flat b := by simp [flat]
theorem flat_length (ls : List Ln) : (flat ls).length = ls.length * 3 := by
  induction ls with
  | nil => rfl
  | cons l ls ih => rw [flat_cons]; simp [ih]; omega
theorem flat_get {ls : List Ln} {k : Nat} {l : Ln} (h : ls[k]? = some l) :
    (flat ls)[k * 3]? = some (.int .i64 l.f) ∧ (flat ls)[k * 3 + 1]? = some (.int .i64 l.o) ∧ (flat ls)[k * 3 + 2]? = some (.int .i64 l.t) := by
  induction ls generalizing k with
  | nil => simp at h
  | cons x ls ih =>
    cases k with
    | zero => simp at h; subst h; simp [flat_cons]
    | succ k =>
      have h' : ls[k]? = some l := by simpa using h
      have := ih h'
      rw [flat_cons, show (k + 1) * 3 = k * 3 + 3 by omega]
      simpa using this
theorem ints_length (xs : List Int) : (ints xs).length = xs.length := by simp [ints]
theorem flat_one (ls : List Ln) : ∀ u ∈ flat ls, u.oneCell' = true := by
  intro u hu
  simp only [flat, List.mem_flatMap, lnC] at hu
  obtain ⟨l, _, h⟩ := hu
  simp at h
  rcases h with rfl | rfl | rfl <;> rfl
theorem ints_one (xs : List Int) : ∀ u ∈ ints xs, u.oneCell' = true := by
  intro u hu
  simp only [ints, List.mem_map] at hu
  obtain ⟨x, _, rfl⟩ := hu
  rfl
theorem flat_inj {a b : List Ln} (h : flat a = flat b) : a = b := by
  induction a generalizing b with
  | nil => cases b with
    | nil => rfl
    | cons y b => simp [flat_cons, flat_nil] at h
  | cons x a ih => cases b with
    | nil => simp [flat_cons, flat_nil] at h
    | cons y b =>
      simp only [flat_cons, List.cons.injEq, Value.int.injEq, true_and] at h
      rw [ih h.2.2.2, Ln.ext_iff'.2 ⟨h.1, h.2.1, h.2.2.1⟩]

/-- The slice value '.slice A n c' reads as the cells xs, below block B. -/
def Rd (w : World) (B : Nat) (A : Option Addr) (xs : List Value) : Prop :=
  0 < xs.length → ∃ b off, A = some ⟨b, off, none⟩ ∧ b < B ∧ ∀ j u, xs[j]? = some u → w.cell? ⟨b, off + j, none⟩ = some u

section
variable {w w' : World} {B B' : Nat} {A : Option Addr} {xs : List Value}
theorem Rd.nil : Rd w B A [] := fun h => absurd h (by simp)
theorem Rd.keep (h : Rd w B A xs) (hk : ∀ b o, b < B → w'.cell? ⟨b, o, none⟩ = w.cell? ⟨b, o, none⟩) : Rd w' B A xs := fun hn => by
  obtain ⟨b, off, e, hb, hc⟩ := h hn
  exact ⟨b, off, e, hb, fun j u hu => (hk b _ hb).trans (hc j u hu)⟩
theorem Rd.more (h : Rd w B A xs) (hB : B ≤ B') : Rd w B' A xs := fun hn => by
  obtain ⟨b, off, e, hb, hc⟩ := h hn
  exact ⟨b, off, e, by omega, hc⟩
theorem Rd.below (h : Rd w B A xs) (hb : Below B w w') : Rd w' B A xs := h.keep fun _ _ hlt => hb.cell hlt
theorem Rd.below' (h : Rd w B A xs) (hb : Below B' w w') (hB : B ≤ B') : Rd w' B A xs := h.keep fun _ _ hlt => hb.cell (Nat.lt_of_lt_of_le hlt hB)
theorem Rd.next (h : Rd w w.heap.size A xs) (hb : Below w.heap.size w w') : Rd w' w'.heap.size A xs := (h.below hb).more hb.size
theorem Rd.laid (h : Rd w w.heap.size A xs) (o : Obj) : Rd (w.alloc o) (w.alloc o).heap.size A xs := h.next ((Below.refl _ _).alloc (Nat.le_refl _) o)
theorem Rd.grown {row : Option Nat} (h : Rd w B A xs) (hg : w.grownBy w' row) (hB : B ≤ w.heap.size) (hr : ∀ g, row = some g → B ≤ g) : Rd w' B A xs :=
  h.keep fun b o hlt => World.cell?_of_block (a := ⟨b, o, none⟩) (hg.block b (by omega) (fun e => by have := hr _ e.symm; omega))
theorem Rd.line {ls : List Ln} {k : Nat} (h : Rd w B A (flat ls)) (hk : k < ls.length) :
    ∃ b off l, A = some ⟨b, off, none⟩ ∧ b < B ∧ ls[k]? = some l ∧ w.cell? ⟨b, off + k * 3, none⟩ = some (.int .i64 l.f) ∧ w.cell? ⟨b, off + k * 3 + 1, none⟩ = some (.int .i64 l.o) ∧ w.cell? ⟨b, off + k * 3 + 2, none⟩ = some (.int .i64 l.t) := by
  obtain ⟨b, off, e, hb, hc⟩ := h (by rw [flat_length]; omega)
  have hl : ls[k]? = some ls[k] := List.getElem?_eq_getElem hk
  have g := flat_get hl
  exact ⟨b, off, ls[k], e, hb, hl, hc _ _ g.1, by simpa [Nat.add_assoc] using hc _ _ g.2.1, by simpa [Nat.add_assoc] using hc _ _ g.2.2⟩
theorem Rd.int {is : List Int} {k : Nat} (h : Rd w B A (ints is)) (hk : k < is.length) :
    ∃ b off x, A = some ⟨b, off, none⟩ ∧ b < B ∧ is[k]? = some x ∧ w.cell? ⟨b, off + k, none⟩ = some (.int .i64 x) := by
  obtain ⟨b, off, e, hb, hc⟩ := h (by rw [ints_length]; omega)
  have hl : is[k]? = some is[k] := List.getElem?_eq_getElem hk
  exact ⟨b, off, is[k], e, hb, hl, hc _ _ (by simp [ints, hl])⟩
theorem rd_of_own {base : Nat} {e : TypeId} {size n c : Nat} (h : w.ownsRow base e size (.slice A n c) n xs) : Rd w w.heap.size A xs := fun hn => by
  rcases h.2 with ⟨hv, h0⟩ | ⟨g, cap, cur, hv, hb, hg, hnc, hcm, hs, htake⟩
  · have := h.1; subst h0; simp at this; rw [this] at hn; simp at hn
  · injection hv with hA
    subst hA
    have hlt : g < w.heap.size := (Array.getElem?_eq_some_iff.1 hg).1
    refine ⟨g, 0, rfl, hlt, fun j u hu => ?_⟩
    rw [cell_of_row w g (0 + j) cur e (0, 0) hg, Nat.zero_add]
    rw [← htake, List.getElem?_take] at hu
    split at hu
    · simpa using hu
    · cases hu
end

theorem below_step {B : Nat} {w W W' : World} (h : Below B w W) (hb : Below W.heap.size W W') (hB : B ≤ W.heap.size) : Below B w W' := h.trans (hb.mono hB)
theorem below_next {w W W' : World} (h : Below w.heap.size w W) (hb : Below W.heap.size W W') : Below w.heap.size w W' := h.trans (hb.mono h.size)

theorem bcell {W w1 : World} (hb : Below W.heap.size W w1) : (∀ b o, b < W.heap.size → w1.cell? ⟨b, o, none⟩ = W.cell? ⟨b, o, none⟩) ∧ (∀ b o, b < W.heap.size → w1.frozen? ⟨b, o, none⟩ = W.frozen? ⟨b, o, none⟩) :=
  ⟨fun b o h => hb.cell (p := ⟨b, o, none⟩) h, fun b o h => hb.frozen (p := ⟨b, o, none⟩) h⟩

theorem of_rg {W w1 : World} {p : Regrown} (h : w1 = grow (redrawn W p.d) p.os) : Below W.heap.size W w1 := h ▸ below_regrown W p.d p.os

/-- A callee that leaves the world alone, met in a world of the class. -/
theorem rg_same {P : Program} {f : FuncId} {args : Array Value} {w : World} {d : Nat} {os : Array Obj} {v : Value}
    (h : Calls P f args (grow (redrawn w d) os) fun e w' => e = .returned v ∧ grow (redrawn w d) os = w') : Calls P f args (grow (redrawn w d) os) fun e w'' => e = .returned v ∧ ∃ p : Regrown, w'' = grow (redrawn w p.d) p.os :=
  h.mono fun _ _ ⟨he, hb⟩ => ⟨he, ⟨d, os⟩, hb.symm⟩
/-- A contract whose Bool is known. -/
theorem is_ {P : Program} {f : FuncId} {args : Array Value} {w : World} {a b : Bool} {Q : World → Prop} (h : Calls P f args w fun e w' => e = .returned (.bool a) ∧ Q w') (e : a = b) : Calls P f args w fun e w' => e = .returned (.bool b) ∧ Q w' := e ▸ h
theorem below_drewN {B : Nat} {a w : World} (h : Below B a w) (n : Nat) : Below B a (w.drewN n) := ⟨h.os, h.tape, h.output, h.size, h.block⟩

theorem own_below {w w' : World} {base B : Nat} {e : TypeId} {size n : Nat} {v : Value} {xs : List Value} (h : w.ownsRow base e size v n xs) (hb : Below B w w') (hB : ∀ g, v.ownBlock = some g → g < B) : w'.ownsRow base e size v n xs := by
  refine ⟨h.1, ?_⟩
  rcases h.2 with hn | ⟨g, cap, cur, rfl, hg, hgg, rest⟩
  · exact .inl hn
  · exact .inr ⟨g, cap, cur, rfl, hg, by rw [hb.block g (hB g rfl)]; exact hgg, rest⟩
theorem own_next {w w' : World} {base : Nat} {e : TypeId} {size n : Nat} {v : Value} {xs : List Value} (h : w.ownsRow base e size v n xs) (hb : Below w.heap.size w w') : w'.ownsRow base e size v n xs :=
  own_below h hb fun g hg => (h.lt g hg).2
theorem own_kept_low {w w' : World} {base S : Nat} {e : TypeId} {size n : Nat} {v : Value} {xs : List Value} {row : Option Nat} (h : w.ownsRow base e size v n xs) (hg : w.grownBy w' row)
    (hlt : ∀ g, v.ownBlock = some g → g < S) (hge : ∀ g, row = some g → S ≤ g) : w'.ownsRow base e size v n xs :=
  h.kept hg (by
    cases hv : v.ownBlock with
    | none => exact .inl rfl
    | some g => exact .inr fun e => by have a := hlt g hv; have b := hge g e.symm; omega)
theorem own_kept_high {w w' : World} {base S : Nat} {e : TypeId} {size n : Nat} {v : Value} {xs : List Value} {row : Option Nat} (h : w.ownsRow base e size v n xs) (hg : w.grownBy w' row)
    (hge : ∀ g, v.ownBlock = some g → S ≤ g) (hlt : ∀ g, row = some g → g < S) : w'.ownsRow base e size v n xs :=
  h.kept hg (by
    cases hv : v.ownBlock with
    | none => exact .inl rfl
    | some g => exact .inr fun e => by have a := hge g hv; have b := hlt g e.symm; omega)
theorem own_drewN {w : World} {base : Nat} {e : TypeId} {size n : Nat} {v : Value} {xs : List Value} (h : w.ownsRow base e size v n xs) (k : Nat) : (w.drewN k).ownsRow base e size v n xs := h
theorem cell_one_drewN (w : World) (x : Value) (t : TypeId) (n : Nat) : ∀ j u, [x][j]? = some u → ((w.alloc (.cells #[x] t)).drewN n).cell? ((⟨w.heap.size, 0, none⟩ : Addr).add j) = some u := cell_one_new w x t
theorem own_base {w : World} {base base' : Nat} {e : TypeId} {size n : Nat} {v : Value} {xs : List Value} (h : w.ownsRow base e size v n xs) (hb : base' ≤ base) : w.ownsRow base' e size v n xs := by
  refine ⟨h.1, ?_⟩
  rcases h.2 with hn | ⟨g, cap, cur, rfl, hg, rest⟩
  · exact .inl hn
  · exact .inr ⟨g, cap, cur, rfl, Nat.le_trans hb hg, rest⟩

theorem ret_int {k : IntKind} {a b : Int} (h : a = b) : Ending.returned (.int k a) = .returned (.int k b) := by rw [h]
theorem ret_bool {a b : Bool} (h : a = b) : Ending.returned (.bool a) = .returned (.bool b) := by rw [h]

/-- .. beside a Bool. -/
def GivesSliceB (w : World) (T size n : Nat) (xs : List Value) (b : Bool) (e : Ending) (w' : World) : Prop :=
  ∃ A c, e = .returned (.tuple #[.slice A n c, .bool b]) ∧ w'.ownsRow w.heap.size T size (.slice A n c) n xs ∧ Below w.heap.size w w'
theorem own_value {w : World} {base : Nat} {e : TypeId} {size n : Nat} {v : Value} {xs : List Value} (h : w.ownsRow base e size v n xs) : ∃ A c, v = .slice A n c := by
  rcases h.2 with ⟨rfl, rfl⟩ | ⟨g, cap, cur, rfl, _⟩
  · exact ⟨_, _, rfl⟩
  · exact ⟨_, _, rfl⟩
/-- The call hands back a slice of its own making, with the cells xs; nothing that was there has turned. -/
def GivesSlice (w : World) (T size n : Nat) (xs : List Value) (e : Ending) (w' : World) : Prop :=
  ∃ A c, e = .returned (.slice A n c) ∧ w'.ownsRow w.heap.size T size (.slice A n c) n xs ∧ Below w.heap.size w w'
end Go.Proofs.Ytbcgokpamhgabaa

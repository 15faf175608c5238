/- A map of numbers that the call makes, as a memory of a function. -/
import Derived.Test.YtliljgmpdfdakaaChecked
import Derived.Test.YtliljgmpdfdakaaMem
import Derived.Tactics
import Derived.Tactics2
import Derived.WalkKit
import Derived.WalkSpells
import Derived.WalkLawsBesides
import Derived.Deep.QuietTactic
import Derived.BigQuiet
import Derived.BigGuardPart
import Derived.Lib.QuietBelow
import Derived.OwnWalk
import Derived.KernelRfl
import Derived.Maps.OwnOps
import Derived.Maps.OwnSet
import Derived.Maps.RangeWalk
import Derived.Maps.Views
import Derived.Test.YtliljgmpdfdakaaWayP
set_option linter.unusedVariables false
namespace Go.Proofs.Ytliljgmpdfdakaa
open Go.RowKit Go.Sort Go.Maps

theorem lawI : Keyed Try.prog 3 := int_keyed Try.underlying3
theorem zeroI (w : World) : (zeroValue 3).run Try.prog w = .ok (.int .i64 0) w := by kernel_rfl
def cntB (f : Nat → Bool) (n : Nat) : Nat := ((List.range n).filter f).length
theorem cntB_succ (f : Nat → Bool) (n : Nat) : cntB f (n + 1) = cntB f n + (f n).toNat := by
  rw [cntB, List.range_succ, List.filter_append, List.length_append, cntB]
  cases h : f n <;> simp [h]
theorem cntB_same {f g : Nat → Bool} {n : Nat} (h : ∀ q, q < n → f q = g q) : cntB f n = cntB g n := by
  induction n with
  | zero => rfl
  | succ n ih => rw [cntB_succ, cntB_succ, ih (fun q hq => h q (by omega)), h n (by omega)]
theorem cntB_le (f : Nat → Bool) (n : Nat) : cntB f n ≤ n := by
  induction n with
  | zero => simp [cntB]
  | succ n ih => rw [cntB_succ]; cases f n <;> simp <;> omega
theorem cntB_put {f g : Nat → Bool} {n p : Nat} (hp : p < n) (hf : f p = false) (hg : g p = true) (h : ∀ q, q ≠ p → g q = f q) : cntB g n = cntB f n + 1 := by
  induction n with
  | zero => omega
  | succ n ih =>
    rw [cntB_succ, cntB_succ]
    by_cases e : p = n
    · subst e
      rw [hf, hg, cntB_same (f := g) (g := f) (fun q hq => h q (by omega))]
      simp
    · rw [ih (by omega), h n (by omega)]
      omega
def kN (p : Nat) : Lit := .int .i64 (p : Int)
theorem kN_inj {p q : Nat} (h : kN p = kN q) : p = q := by
  unfold kN at h
  injection h with _ h
  omega
/-- Block M is a map that remembers f at some numbers below N. -/
def Memo (w : World) (M N : Nat) (f : Nat → Int) : Prop :=
  ∃ (n : Nat) (D : DataW Unit), w.ownsMap Try.prog 3 (plainElem Try.prog 3) M n D ∧ n = Maps.size D ∧ n ≤ cntB (fun q => Maps.has D (kN q)) N ∧ ∀ p, p < N → Maps.has D (kN p) = true → ∀ z, D.atKey (kN p) z = .lit (.int .i64 (f p))
theorem Memo.kept {w w' : World} {M N : Nat} {f : Nat → Int} {row : Option Nat} (h : Memo w M N f) (hg : w.grownBy w' row) (hne : some M ≠ row) : Memo w' M N f := by
  obtain ⟨n, D, ho, a, b⟩ := h
  exact ⟨n, D, ho.kept hg hne, a, b⟩
theorem Memo.made (w : World) (N : Nat) (f : Nat → Int) : Memo (w.alloc (.map #[] 0)) w.heap.size N f :=
  ⟨0, .map [], World.ownsMap_made _ _ _ _, rfl, Nat.zero_le _, fun p _ h => by simp [Maps.has] at h⟩
theorem own_exact {w : World} {M n : Nat} {D : DataW Unit} (h : w.ownsMap Try.prog 3 (plainElem Try.prog 3) M n D) : w.ownsMap Try.prog 3 (plainElem Try.prog 3) M (Maps.size D) D := by
  obtain ⟨es, clock, hb, F, hs, rfl⟩ := h
  exact ⟨es, clock, hb, F, by rw [Maps.size_eq, length_read]; exact Nat.le_refl _, rfl⟩
theorem put_has {w : World} {M n p q : Nat} {D : DataW Unit} {d : DataW Unit} (h : w.ownsMap Try.prog 3 (plainElem Try.prog 3) M n D) (hk : WideAt.IsKeyLit (kN p)) :
    Maps.has (D.put (kN p) d) (kN q) = (decide (q = p) || Maps.has D (kN q)) := by
  by_cases e : q = p
  · subst e
    rw [Maps.has_put_same (h.tidy lawI).isMap hk]
    simp
  · rw [Maps.has_put_other (fun h => e (kN_inj h))]
    simp [e]
theorem Memo.put {w w' : World} {M N n m p : Nat} {f : Nat → Int} {D : DataW Unit} (hk : WideAt.IsKeyLit (kN p)) (ho : w.ownsMap Try.prog 3 (plainElem Try.prog 3) M n D) (he : n = Maps.size D) (ha : n ≤ cntB (fun q => Maps.has D (kN q)) N)
    (hb : ∀ p, p < N → Maps.has D (kN p) = true → ∀ z, D.atKey (kN p) z = .lit (.int .i64 (f p))) (hp : p < N)
    (ho' : w'.ownsMap Try.prog 3 (plainElem Try.prog 3) M m (D.put (kN p) (.lit (.int .i64 (f p))))) : Memo w' M N f := by
  refine ⟨_, _, own_exact ho', rfl, ?_, fun q hq hh z => ?_⟩
  · rw [Maps.size_put (ho.tidy lawI)]
    cases hn : Maps.has D (kN p) with
    | true =>
      rw [if_pos rfl, ← he, cntB_same (g := fun q => Maps.has D (kN q)) (fun q _ => by
        rw [put_has ho hk]
        by_cases e : q = p
        · subst e; simp [hn]
        · simp [e])]
      exact ha
    | false =>
      rw [if_neg (by simp), ← he, cntB_put (f := fun q => Maps.has D (kN q)) hp hn (by simp only [put_has ho hk]; simp) (fun q hq => by simp only [put_has ho hk]; simp [hq])]
      omega
  · rw [put_has ho hk] at hh
    by_cases e : q = p
    · subst e
      exact Maps.atKey_put_same (ho.tidy lawI).isMap hk _ z
    · rw [Maps.atKey_put_other (fun h => e (kN_inj h))]
      simp [e] at hh
      exact hb q hq hh z
theorem grown_below {w w' : World} (h : Below w.heap.size w w') (row : Option Nat) : w.grownBy w' row := ⟨h.os, h.tape, h.output, h.size, fun k hk _ => h.block k hk⟩
theorem grown_refl (w : World) (row : Option Nat) : w.grownBy w row := ⟨rfl, rfl, rfl, Nat.le_refl _, fun _ _ _ => rfl⟩
theorem grown_then {a b c : World} {row : Option Nat} (h : a.grownBy b row) (k : b.grownBy c row) : a.grownBy c row := h.trans k
theorem grown_alloc {a b : World} {row : Option Nat} (h : a.grownBy b row) (o : Obj) : a.grownBy (b.alloc o) row := h.trans (World.grownBy_alloc _ _ _)
/-- A counter's box. -/
def Box4 (w : World) (b : Nat) (x0 x1 x2 x3 : Value) : Prop := b < w.heap.size ∧ w.cell? ⟨b, 0, none⟩ = some x0 ∧ w.cell? ⟨b, 1, none⟩ = some x1 ∧ w.cell? ⟨b, 2, none⟩ = some x2 ∧ w.cell? ⟨b, 3, none⟩ = some x3
theorem Box4.kept {w w' : World} {b : Nat} {x0 x1 x2 x3 : Value} {row : Option Nat} (h : Box4 w b x0 x1 x2 x3) (hg : w.grownBy w' row) (hne : some b ≠ row) : Box4 w' b x0 x1 x2 x3 := by
  obtain ⟨h0, a, b', c, d⟩ := h
  have hb := hg.block b h0 hne
  exact ⟨Nat.lt_of_lt_of_le h0 hg.size, (World.cell?_of_block (a := ⟨b, 0, none⟩) hb).trans a, (World.cell?_of_block (a := ⟨b, 1, none⟩) hb).trans b', (World.cell?_of_block (a := ⟨b, 2, none⟩) hb).trans c, (World.cell?_of_block (a := ⟨b, 3, none⟩) hb).trans d⟩
end Go.Proofs.Ytliljgmpdfdakaa

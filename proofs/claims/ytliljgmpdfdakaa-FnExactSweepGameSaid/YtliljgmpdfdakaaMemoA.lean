/- A map from pairs of numbers that the call makes, as a memory of a function of two arguments. -/
import Derived.Test.YtliljgmpdfdakaaChecked
import Derived.Test.YtliljgmpdfdakaaMem
import Derived.Tactics
import Derived.Tactics2
import Derived.WalkKit
import Derived.WalkSpells
import Derived.WalkLawsBesides
import Derived.Deep.QuietTactic
import Derived.BigQuiet
import Derived.BigGuardPart
import Derived.Lib.QuietBelow
import Derived.OwnWalk
import Derived.KernelRfl
import Derived.Maps.OwnOps
import Derived.Maps.OwnSet
import Derived.Maps.RangeWalk
import Derived.Maps.Views
import Derived.WideKeyArr
import Derived.Test.YtliljgmpdfdakaaMemo
set_option linter.unusedVariables false
namespace Go.Proofs.Ytliljgmpdfdakaa
open Go.RowKit Go.Sort Go.Maps

theorem arrA : Go.WideMaps.ArrKey Try.prog 97 3 2 := ⟨Try.underlying97, by kernel_rfl, by kernel_rfl, by kernel_rfl⟩
theorem lawA : Keyed Try.prog 97 := Keyed.of_law arrA.law
def kA (p : Nat) (a : Int) : Lit := .string (keyBytes [.int .i64 p, .int .i64 a])
theorem keyA {p : Nat} {a : Int} (hp : p < 65536) (ha : -1 ≤ a ∧ a < 63) : keyOf Try.prog 97 (.agg #[.int .i64 p, .int .i64 a]) = some (kA p a) := by
  have h1 : Try.prog.keyType 97 = true := by kernel_rfl
  have h2 : (Value.agg #[.int .i64 p, .int .i64 a]).formed Try.prog 97 = true := by simp [Value.formed, Try.underlying97, arrA.size]
  have w1 : (Lit.int .i64 (p : Int)).wf = true := WalkArith.wf_i64 (by omega)
  have w2 : (Lit.int .i64 a).wf = true := WalkArith.wf_i64 (by omega)
  have hs : 0 < Try.prog.types.size := of_decide_eq_true (by kernel_rfl)
  obtain ⟨m, hm⟩ : ∃ m, Try.prog.types.size = m + 1 := ⟨Try.prog.types.size - 1, by omega⟩
  have h3 : Try.prog.keyLits (Try.prog.types.size + 1) 97 [.int .i64 p, .int .i64 a] = some [.int .i64 p, .int .i64 a] := by
    rw [hm]
    unfold Program.keyLits
    rw [Try.underlying97]
    simp only [arrA.size, arrA.one]
    unfold Program.keyLits
    simp [Try.underlying3, w1, w2, List.range, List.range.loop]
  unfold keyOf
  rw [Try.underlying97]
  simp only [h1, h2, Bool.and_self, if_true]
  show (Try.prog.keyLits (Try.prog.types.size + 1) 97 [.int .i64 p, .int .i64 a]).map _ = _
  rw [h3]
  rfl
theorem kA_inj {p q : Nat} {a c : Int} (hp : p < 65536) (ha : -1 ≤ a ∧ a < 63) (hq : q < 65536) (hc : -1 ≤ c ∧ c < 63) (h : kA p a = kA q c) : p = q ∧ a = c := by
  have h1 := keyA hp ha
  have h2 := keyA hq hc
  rw [h] at h1
  have := lawA.inj h1 h2
  injection this with this
  have e := congrArg Array.toList this
  simp at e
  exact ⟨by omega, e.2⟩
/-- Block M is a map that remembers f at some pairs. -/
def MemoA (w : World) (M N : Nat) (f : Nat → Int → Int) : Prop :=
  ∃ (n : Nat) (D : DataW Unit), w.ownsMap Try.prog 97 (plainElem Try.prog 3) M n D ∧ n = Maps.size D ∧ n ≤ cntB (fun i => Maps.has D (kA (i / 64) (((i % 64 : Nat) : Int) - 1))) (N * 64) ∧
    ∀ p (a : Int), p < N → -1 ≤ a → a < 63 → Maps.has D (kA p a) = true → ∀ z, D.atKey (kA p a) z = .lit (.int .i64 (f p a))
theorem MemoA.kept {w w' : World} {M N : Nat} {f : Nat → Int → Int} {row : Option Nat} (h : MemoA w M N f) (hg : w.grownBy w' row) (hne : some M ≠ row) : MemoA w' M N f := by
  obtain ⟨n, D, ho, a, b⟩ := h
  exact ⟨n, D, ho.kept hg hne, a, b⟩
theorem MemoA.made (w : World) (N : Nat) (f : Nat → Int → Int) : MemoA (w.alloc (.map #[] 0)) w.heap.size N f :=
  ⟨0, .map [], World.ownsMap_made _ _ _ _, rfl, Nat.zero_le _, fun p a _ _ _ h => by simp [Maps.has] at h⟩
theorem ownA_exact {w : World} {M n : Nat} {D : DataW Unit} (h : w.ownsMap Try.prog 97 (plainElem Try.prog 3) M n D) : w.ownsMap Try.prog 97 (plainElem Try.prog 3) M (Maps.size D) D := by
  obtain ⟨es, clock, hb, F, hs, rfl⟩ := h
  exact ⟨es, clock, hb, F, by rw [Maps.size_eq, length_read]; exact Nat.le_refl _, rfl⟩
theorem putA_has {w : World} {M n : Nat} {D : DataW Unit} {d : DataW Unit} {p q : Nat} {a c : Int} (hp : p < 65536) (ha : -1 ≤ a ∧ a < 63) (hq : q < 65536) (hc : -1 ≤ c ∧ c < 63)
    (h : w.ownsMap Try.prog 97 (plainElem Try.prog 3) M n D) (hk : WideAt.IsKeyLit (kA p a)) :
    Maps.has (D.put (kA p a) d) (kA q c) = (decide (q = p ∧ c = a) || Maps.has D (kA q c)) := by
  by_cases e : q = p ∧ c = a
  · obtain ⟨rfl, rfl⟩ := e
    rw [Maps.has_put_same (h.tidy lawA).isMap hk]
    simp
  · rw [Maps.has_put_other (fun h => e (kA_inj hq hc hp ha h))]
    simp [e]
theorem MemoA.put {w w' : World} {M N n m p : Nat} {a : Int} {f : Nat → Int → Int} {D : DataW Unit} (hN : N ≤ 65536) (ha : -1 ≤ a ∧ a < 63) (hk : WideAt.IsKeyLit (kA p a)) (ho : w.ownsMap Try.prog 97 (plainElem Try.prog 3) M n D) (he : n = Maps.size D)
    (hn : n ≤ cntB (fun i => Maps.has D (kA (i / 64) (((i % 64 : Nat) : Int) - 1))) (N * 64))
    (hb : ∀ p (a : Int), p < N → -1 ≤ a → a < 63 → Maps.has D (kA p a) = true → ∀ z, D.atKey (kA p a) z = .lit (.int .i64 (f p a))) (hp : p < N)
    (ho' : w'.ownsMap Try.prog 97 (plainElem Try.prog 3) M m (D.put (kA p a) (.lit (.int .i64 (f p a))))) : MemoA w' M N f := by
  have hp' : p < 65536 := by omega
  have pick : ∀ i, i < N * 64 → i / 64 < 65536 ∧ -1 ≤ ((i % 64 : Nat) : Int) - 1 ∧ ((i % 64 : Nat) : Int) - 1 < 63 ∧ i / 64 < N := fun i hi => by
    have : i / 64 < N := by omega
    have : i % 64 < 64 := Nat.mod_lt _ (by omega)
    omega
  obtain ⟨i0, hi0, e1, e2⟩ : ∃ i0, i0 < N * 64 ∧ i0 / 64 = p ∧ ((i0 % 64 : Nat) : Int) - 1 = a := by
    refine ⟨p * 64 + (a + 1).toNat, by omega, by omega, by omega⟩
  refine ⟨_, _, ownA_exact ho', rfl, ?_, fun q c hq hc1 hc2 hh z => ?_⟩
  · rw [Maps.size_put (ho.tidy lawA)]
    cases hd : Maps.has D (kA p a) with
    | true =>
      rw [if_pos rfl, ← he, cntB_same (g := fun i => Maps.has D (kA (i / 64) (((i % 64 : Nat) : Int) - 1))) (fun i hi => by
        obtain ⟨h1, h2, h3, h4⟩ := pick i hi
        rw [putA_has hp' ha h1 ⟨h2, h3⟩ ho hk]
        by_cases e : i / 64 = p ∧ ((i % 64 : Nat) : Int) - 1 = a
        · rw [e.1, e.2, hd]; simp
        · rw [decide_eq_false e, Bool.false_or])]
      exact hn
    | false =>
      have key : ∀ n, n ≤ N * 64 → cntB (fun i => Maps.has (D.put (kA p a) (.lit (.int .i64 (f p a)))) (kA (i / 64) (((i % 64 : Nat) : Int) - 1))) n = cntB (fun i => decide (i = i0) || Maps.has D (kA (i / 64) (((i % 64 : Nat) : Int) - 1))) n := fun n hnn => cntB_same fun i hi => by
        obtain ⟨h1, h2, h3, h4⟩ := pick i (by omega)
        rw [putA_has hp' ha h1 ⟨h2, h3⟩ ho hk]
        congr 1
        rw [decide_eq_decide]
        constructor
        · rintro ⟨h5, h6⟩; omega
        · rintro rfl; exact ⟨e1, e2⟩
      rw [if_neg (by simp), ← he, key _ (Nat.le_refl _), cntB_put (f := fun i => Maps.has D (kA (i / 64) (((i % 64 : Nat) : Int) - 1))) (p := i0) hi0 (by simp only [e1, e2]; exact hd) (by simp) (fun i hi => by simp [hi])]
      omega
  · rw [putA_has hp' ha (by omega) ⟨hc1, hc2⟩ ho hk] at hh
    by_cases e : q = p ∧ c = a
    · obtain ⟨rfl, rfl⟩ := e
      exact Maps.atKey_put_same (ho.tidy lawA).isMap hk _ z
    · rw [Maps.atKey_put_other (fun h => e (kA_inj (by omega) ⟨hc1, hc2⟩ hp' ha h))]
      simp [e] at hh
      exact hb q c hq hc1 hc2 hh z
/-- A slice that reads as xs, in a block of its own beside M. -/
def RdM (w : World) (M : Nat) (A : Option Addr) (xs : List Value) : Prop := 0 < xs.length → ∃ b off, A = some ⟨b, off, none⟩ ∧ b < w.heap.size ∧ b ≠ M ∧ ∀ j u, xs[j]? = some u → w.cell? ⟨b, off + j, none⟩ = some u
theorem RdM.grown {w w' : World} {M : Nat} {A : Option Addr} {xs : List Value} (h : RdM w M A xs) (hg : w.grownBy w' (some M)) : RdM w' M A xs := fun hn => by
  obtain ⟨b, off, hA, hb, hM, hc⟩ := h hn
  exact ⟨b, off, hA, Nat.lt_of_lt_of_le hb hg.size, hM, fun j u hu => (World.cell?_of_block (a := ⟨b, off + j, none⟩) (hg.block b hb (fun e => by injection e with e; exact hM e))).trans (hc j u hu)⟩
theorem RdM.rd {w : World} {M : Nat} {A : Option Addr} {xs : List Value} (h : RdM w M A xs) : Rd w w.heap.size A xs := fun hn => by
  obtain ⟨b, off, hA, hb, hM, hc⟩ := h hn
  exact ⟨b, off, hA, hb, hc⟩
end Go.Proofs.Ytliljgmpdfdakaa

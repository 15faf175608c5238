/- The reads of the reference's table of sweeps; the start of a game with no last hole. -/
import Derived.Test.YtliljgmpdfdakaaChecked
import Derived.Test.YtliljgmpdfdakaaMem
import Derived.Tactics
import Derived.Tactics2
import Derived.WalkKit
import Derived.WalkSpells
import Derived.WalkLawsBesides
import Derived.Deep.QuietTactic
import Derived.BigQuiet
import Derived.BigGuardPart
import Derived.Lib.QuietBelow
import Derived.OwnWalk
import Derived.KernelRfl
import Derived.Test.YtliljgmpdfdakaaSweepL
set_option linter.unusedVariables false
set_option maxRecDepth 20000
namespace Go.Proofs.Ytliljgmpdfdakaa
open Go.RowKit Go.Sort

theorem find_same {P Q : Ln → Bool} : ∀ (ls : List Ln), (∀ l ∈ ls, P l = Q l) → ls.find? P = ls.find? Q
  | [], _ => rfl
  | l :: ls, h => by
    have e := h l (by simp)
    have ih := find_same ls (fun x hx => h x (by simp [hx]))
    cases hq : Q l with
    | true => rw [List.find?_cons_of_pos (by rw [e, hq]), List.find?_cons_of_pos hq]
    | false => rw [List.find?_cons_of_neg (by rw [e, hq]; simp), List.find?_cons_of_neg (by rw [hq]; simp), ih]
theorem pick_last {ls : List Ln} (h49 : ∀ l ∈ ls, Ln49 l) {good : Nat → Bool} {g p : Nat} {a c : Int} (h1 : ∀ l ∈ ls, l.f ≠ a) (h2 : ∀ l ∈ ls, l.f ≠ c) : pickS ls good g p a = pickS ls good g p c := by
  rw [pickS, pickS]
  refine find_same ls fun l hl => ?_
  rw [cost_last (h1 l hl) (h2 l hl), swp_last h49 h1 h2]
theorem sgame_last {ls : List Ln} (h49 : ∀ l ∈ ls, Ln49 l) {good : Nat → Bool} {g p : Nat} {a c : Int} (h1 : ∀ l ∈ ls, l.f ≠ a) (h2 : ∀ l ∈ ls, l.f ≠ c) : sgame ls good g p a = sgame ls good g p c := by
  rw [sgame, sgame, sgameN, sgameN, pick_last h49 h1 h2]
/-- Jumps that can't be made are never picked. -/
theorem find_filter {P C : Ln → Bool} : ∀ (ls : List Ln), (∀ l ∈ ls, P l = true → C l = true) → (ls.filter C).find? P = ls.find? P
  | [], _ => rfl
  | l :: ls, h => by
    have ih := find_filter ls (fun x hx => h x (by simp [hx]))
    cases hc : C l with
    | true =>
      rw [List.filter_cons_of_pos hc]
      cases hp : P l with
      | true => rw [List.find?_cons_of_pos hp, List.find?_cons_of_pos hp]
      | false => rw [List.find?_cons_of_neg (by simp [hp]), List.find?_cons_of_neg (by simp [hp]), ih]
    | false =>
      have hp : P l = false := by
        cases hp : P l with
        | false => rfl
        | true => rw [h l (by simp) hp] at hc; cases hc
      rw [List.filter_cons_of_neg (by simp [hc]), List.find?_cons_of_neg (by simp [hp]), ih]
/-- What the table holds. -/
def TabR (w : World) (B tb wh pg : Nat) (R : List Nat) (F : Nat → List Int) : Prop :=
  B ≤ tb ∧ tb < w.heap.size ∧ ∀ x ∈ R, pg ≤ popc x → ∃ ib c, B ≤ ib ∧ ib < w.heap.size ∧ w.cell? ⟨tb, x, none⟩ = some (.slice (some ⟨ib, 0, none⟩) (wh + 1) c) ∧ ∀ a v, (F x)[a]? = some v → w.cell? ⟨ib, a, none⟩ = some (.int .i64 v)
theorem TabR.grown {w w' : World} {B tb wh pg : Nat} {R : List Nat} {F : Nat → List Int} {row : Option Nat} (h : TabR w B tb wh pg R F) (hg : w.grownBy w' row) (hr : ∀ g, row = some g → g < B) : TabR w' B tb wh pg R F := by
  obtain ⟨h1, h2, h3⟩ := h
  refine ⟨h1, Nat.lt_of_lt_of_le h2 hg.size, fun x hx hp => ?_⟩
  obtain ⟨ib, c, h4, h5, h6, h7⟩ := h3 x hx hp
  exact ⟨ib, c, h4, Nat.lt_of_lt_of_le h5 hg.size, (World.cell?_of_block (a := ⟨tb, x, none⟩) (hg.block _ h2 (show some tb ≠ row from fun e => by have := hr tb e.symm; omega))).trans h6, fun a v hv => (World.cell?_of_block (a := ⟨ib, a, none⟩) (hg.block _ h5 (show some ib ≠ row from fun e => by have := hr ib e.symm; omega))).trans (h7 a v hv)⟩
theorem TabR.next {w w' : World} {B tb wh pg : Nat} {R : List Nat} {F : Nat → List Int} (h : TabR w B tb wh pg R F) (hb : Below w.heap.size w w') : TabR w' B tb wh pg R F := h.grown (grown_below hb none) (fun g hg => by cases hg)
theorem tab_reads {w : World} {B T E N c wh pg : Nat} {A : Option Addr} {vs : List Value} {rows : List (List Int)} {R : List Nat} {F : Nat → List Int} (h : Grid w B T E 1 (.slice A N c) vs (flatsI rows)) (hn : rows.length = N) (h0 : 0 < N)
    (hR : ∀ x ∈ R, pg ≤ popc x → rows[x]? = some (F x)) (hF : ∀ x, (F x).length = wh + 1) (hN : ∀ x ∈ R, x < N) : ∃ tb, A = some ⟨tb, 0, none⟩ ∧ TabR w B tb wh pg R F := by
  obtain ⟨g, A0, c0, r0, hA, hg, -, -, -, -, -⟩ := h.rowI (i := 0) (by omega)
  subst hA
  refine ⟨g, rfl, h.over.1 g rfl, hg, fun x hx hp => ?_⟩
  obtain ⟨g', Ai, ci, r, hA, _, hr, hv, ho, hc, _⟩ := h.rowI (i := x) (by have := hN x hx; omega)
  have e : g' = g := by injection hA with hA; injection hA with hA; exact hA.symm
  subst e
  rw [hR x hx hp] at hr
  injection hr with hr
  subst hr
  rw [hF x] at hv ho hc
  obtain ⟨iz, icap, hiv, hib, hiz⟩ := ho.form (by omega)
  injection hiv with e1 e2 e3
  subst e1 e3
  refine ⟨iz, ci, hib, hiz, hc, fun a v hv => ?_⟩
  have ha : a < wh + 1 := by have := (List.getElem?_eq_some_iff.1 hv).1; rw [hF x] at this; exact this
  obtain ⟨z, hz, hzc, _⟩ := own_at1 ho ha
  rw [hv] at hz
  injection hz with hz
  subst hz
  exact hzc
end Go.Proofs.Ytliljgmpdfdakaa

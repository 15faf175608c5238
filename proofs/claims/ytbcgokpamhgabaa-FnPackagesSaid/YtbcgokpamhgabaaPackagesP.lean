/- What the law FnPackages says: a package removes its pegs wherever its holes are as before. -/
import Derived.Test.YtbcgokpamhgabaaChecked
import Derived.Test.YtbcgokpamhgabaaMem
import Derived.Tactics
import Derived.Tactics2
import Derived.WalkKit
import Derived.WalkSpells
import Derived.WalkLawsBesides
import Derived.Deep.QuietTactic
import Derived.BigQuiet
import Derived.BigGuardPart
import Derived.Lib.QuietBelow
import Derived.OwnWalk
import Derived.KernelRfl
import Derived.Test.YtbcgokpamhgabaaPackP
import Derived.Test.YtbcgokpamhgabaaApply
import Derived.Test.YtbcgokpamhgabaaPegs
import Derived.Test.YtbcgokpamhgabaaPopP
import Derived.Test.YtbcgokpamhgabaaRow
import Derived.Test.YtbcgokpamhgabaaPlayP
set_option linter.unusedVariables false
set_option maxRecDepth 20000
namespace Go.Proofs.Ytbcgokpamhgabaa
open Go.RowKit Go.Sort

theorem need_grow (ls : List Ln) : ∀ n i : Nat, n.testBit i = true → (ls.foldl (fun n l => n ||| lbits l) n).testBit i = true := by
  induction ls with
  | nil => intro n i h; exact h
  | cons x ls ih => intro n i h; exact ih _ i (by rw [Nat.testBit_or, h]; rfl)
theorem need_mem {ls : List Ln} {l : Ln} (h : l ∈ ls) {i : Nat} (hi : (lbits l).testBit i = true) : (needF ls).testBit i = true := by
  unfold needF
  generalize 0 = n
  induction ls generalizing n with
  | nil => simp at h
  | cons x ls ih =>
    rw [List.foldl_cons]
    rcases List.mem_cons.1 h with rfl | h
    · exact need_grow ls _ i (by rw [Nat.testBit_or, hi]; simp)
    · exact ih h _
theorem plays_agree {w h s N : Nat} (hb : BdOk w h s) : ∀ (js : List Ln) (p q : Nat), p &&& s = p → q &&& s = q → (∀ l ∈ js, ∀ i, (lbits l).testBit i = true → N.testBit i = true) → (∀ i, N.testBit i = true → p.testBit i = q.testBit i) → playsB ⟨w, h, s⟩ p js = true →
    playsB ⟨w, h, s⟩ q js = true ∧ ∃ X : Nat, playP ⟨w, h, s⟩ p js = (p ^^^ X : Nat) ∧ playP ⟨w, h, s⟩ q js = (q ^^^ X : Nat) ∧ popc (q ^^^ X) + js.length = popc q
  | [], p, q, _, _, _, _, _ => ⟨rfl, 0, by simp [playP], by simp [playP], by simp⟩
  | l :: js, p, q, hp, hq, hN, ha, hpl => by
    simp only [playsB, Bool.and_eq_true] at hpl
    obtain ⟨hd, hr⟩ := hpl
    have hP := posB_of hb hp
    have hQ := posB_of hb hq
    have hd' := hd
    simp only [doB, Bool.and_eq_true, Int.toNat_natCast] at hd'
    obtain ⟨_, hL, hJ⟩ := hd'
    obtain ⟨f, o, t, hl⟩ := lineB_ok hb hL
    have hle := hl.eq
    subst hle
    have hin := hN ⟨f, o, t⟩ (by simp)
    have hbit : ∀ i, f = i ∨ o = i ∨ t = i → p.testBit i = q.testBit i := fun i hi => ha i (hin i (by rw [testBit_lbits]; simp; rcases hi with h | h | h <;> simp [h]))
    have hJq : canJ q ⟨f, o, t⟩ = true := by
      simp only [canJ, Int.toNat_natCast] at hJ ⊢
      rw [← hbit f (.inl rfl), ← hbit o (.inr (.inl rfl)), ← hbit t (.inr (.inr rfl))]
      exact hJ
    have hdq : doB ⟨w, h, s⟩ q ⟨f, o, t⟩ = true := by rw [doB_can hQ hL]; exact hJq
    rw [doP_yes hd] at hr
    have hpf := flip_sub hl hp
    have hqf := flip_sub hl hq
    obtain ⟨i1, X, i2, i3, i4⟩ := plays_agree hb js (flip p ⟨f, o, t⟩) (flip q ⟨f, o, t⟩) hpf hqf (fun l hl => hN l (by simp [hl])) (fun i hi => by unfold flip; rw [Nat.testBit_xor, Nat.testBit_xor, ha i hi]) hr
    have h49 : Ln49 ⟨f, o, t⟩ := by
      have := hb.area
      exact ⟨f, o, t, rfl, by have := hl.f1; omega, by have := hl.o1; omega, by have := hl.t1; omega, hl.ft, hl.ot, hl.fo⟩
    have hpop := popc_jump h49 hJq
    refine ⟨by simp only [playsB, hdq, doP_yes hdq, i1, Bool.and_self], lbits ⟨f, o, t⟩ ^^^ X, ?_, ?_, ?_⟩
    · show playP _ (doP _ p _) js = _
      rw [doP_yes hd, i2]; unfold flip; rw [Nat.xor_assoc]
    · show playP _ (doP _ q _) js = _
      rw [doP_yes hdq, i3]; unfold flip; rw [Nat.xor_assoc]
    · rw [← Nat.xor_assoc]
      unfold flip at i4 hpop
      simp only [List.length_cons]
      omega
theorem xor_adiff {p X : Nat} (h : X &&& p = X) : p ^^^ X = adiff p X := by
  apply Nat.eq_of_testBit_eq
  intro i
  have := congrArg (fun x => x.testBit i) h
  simp only [Nat.testBit_and] at this
  rw [Nat.testBit_xor, testBit_adiff]
  revert this
  cases p.testBit i <;> cases X.testBit i <;> simp
/-- A package can be used wherever its holes are as before. -/
theorem pack_use {b : Ln} {q need gone before : Int} {js : List Ln} (hpk : packB b before js = true) (hn : need = (needF js : Nat)) (hg : packG b before js = gone) (hu : useB b q (need, gone) before = true) :
    playB b q js = true ∧ playR b q js = useP b q (need, gone) before ∧ IntKind.i64.wrap (pegsB b q - (js.length : Int)) = pegsB b (useP b q (need, gone) before) := by
  obtain ⟨h1, h2, h3⟩ := pack_play hpk
  obtain ⟨h60, hpl⟩ := play_parts h1
  obtain ⟨w, h, s, p, r, rfl, rfl, hr, hb, hp, hrs⟩ := play_nat h1
  have hu' := hu
  simp only [useB, applyB, Bool.and_eq_true, beq_iff_eq] at hu'
  obtain ⟨⟨hQ, hP, hbits⟩, hgone⟩ := hu'
  obtain ⟨q, rfl, hq⟩ := posB_nat hQ
  subst hn
  have p63 := b63_area hb (posB_lt hb hp)
  have q63 := b63_area hb (posB_lt hb hq)
  have n63 := need_b63 (plays_ok hpl)
  rw [i64_and _ _ q63 n63, i64_and _ _ p63 n63] at hbits
  have hag : ∀ i, (needF js).testBit i = true → p.testBit i = q.testBit i := fun i hi => by
    have e : q &&& needF js = p &&& needF js := by omega
    have := congrArg (fun x => x.testBit i) e
    simp only [Nat.testBit_and, hi, Bool.and_true] at this
    exact this.symm
  obtain ⟨i1, X, i2, i3, i4⟩ := plays_agree hb js p q hp hq (fun l hl i hi => need_mem hl hi) hag hpl
  have hB := playB_of hQ h60 i1
  have hpr : r = p ^^^ X := by
    rw [playR, if_pos h1, i2] at hr
    omega
  rw [hr, Int.toNat_natCast, Int.toNat_natCast] at h3
  have hXp : X &&& p = X := by
    apply Nat.eq_of_testBit_eq
    intro i
    have := congrArg (fun x => x.testBit i) h3
    simp only [Nat.testBit_and, hpr, Nat.testBit_xor] at this
    rw [Nat.testBit_and]
    revert this
    cases p.testBit i <;> cases X.testBit i <;> simp
  have hgX : gone = (X : Nat) := by
    rw [← hg, packG, if_pos hpk, hr]
    have := adiff_sub p63 hXp
    rw [← xor_adiff hXp, ← hpr] at this
    omega
  subst hgX
  have hXq : X &&& q = X := by
    simp only [goneB, Bool.and_eq_true, decide_eq_true_eq, Int.toNat_natCast] at hgone
    exact hgone.2
  have hqX : ((q ^^^ X : Nat) : Int) = (q : Int) - (X : Nat) := by
    have := adiff_sub q63 hXq
    rw [← xor_adiff hXq] at this
    omega
  have hU : useP ⟨w, h, s⟩ q (((needF js : Nat) : Int), ((X : Nat) : Int)) p = ((q ^^^ X : Nat) : Int) := by rw [useP, if_pos hu, hqX]
  have hR : playR ⟨w, h, s⟩ q js = ((q ^^^ X : Nat) : Int) := by rw [playR, if_pos hB, i3]
  have hPX : posB ⟨w, h, s⟩ (q ^^^ X : Nat) = true := by rw [← i3]; exact playP_pos hQ js
  refine ⟨hB, by rw [hR, hU], ?_⟩
  rw [hU]
  unfold pegsB
  rw [if_pos hQ, if_pos hPX, Int.toNat_natCast, Int.toNat_natCast, IntKind.wrap_i64]
  have : popc q ≤ 49 := bits_le q 49
  omega
def b33 : Ln := ⟨3, 3, 511⟩
theorem row33_ok : rowOk b33 3 0 = true ∧ rPos b33 3 0 = 120 ∧ rGone b33 3 0 = 56 := by decide +kernel
theorem row33_play : playB b33 120 (rLs b33 3 0) = true ∧ playR b33 120 (rLs b33 3 0) = 64 ∧ packB b33 120 (rLs b33 3 0) = true ∧ pegsB b33 120 = 4 := by decide +kernel
end Go.Proofs.Ytbcgokpamhgabaa

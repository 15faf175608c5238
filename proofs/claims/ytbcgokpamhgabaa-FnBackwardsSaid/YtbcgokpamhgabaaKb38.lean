/- The contract of the reference's CanReach (a cut of XSweepL, with no search for games behind it). What the law FnTurned says, as plain facts: a game played backwards leads between the complements. No program in sight. -/
import Derived.Test.YtbcgokpamhgabaaChecked
import Derived.Test.YtbcgokpamhgabaaKb01
import Derived.Tactics
import Derived.Tactics2
import Derived.WalkKit
import Derived.WalkSpells
import Derived.WalkLawsBesides
import Derived.Deep.QuietTactic
import Derived.BigQuiet
import Derived.BigGuardPart
import Derived.Lib.QuietBelow
import Derived.OwnWalk
import Derived.KernelRfl
import Derived.Test.YtbcgokpamhgabaaKb34
import Derived.Test.YtbcgokpamhgabaaKb37
import Derived.Test.YtbcgokpamhgabaaKb32
import Derived.Test.YtbcgokpamhgabaaKb25
import Derived.Test.YtbcgokpamhgabaaKb18
namespace Go.Proofs.Ytbcgokpamhgabaa
set_option linter.unusedVariables false
set_option maxRecDepth 20000
open Go.RowKit Go.Sort

/-- Can the goal be reached? -/
def leadsB (b : Ln) (p g : Int) : Bool := pairB b p g && (bfs false (linesL b) (2 ^ (b.f.toNat * b.o.toNat)) p.toNat).getD g.toNat false
theorem leadsB_pair {b : Ln} {p g : Int} (h : leadsB b p g = true) : pairB b p g = true := by rw [leadsB, Bool.and_eq_true] at h; exact h.1
theorem leadsB_iff {w h s p g : Nat} (hb : BdOk w h s) (hO : pairB ⟨w, h, s⟩ p g = true) (hp : p < 2 ^ (w * h)) : leadsB ⟨w, h, s⟩ p g = true ↔ Leads (linesL ⟨w, h, s⟩) p g := by
  rw [leadsB, hO, Bool.true_and, getD_true]
  simp only [Int.toNat_natCast]
  exact bfs_fwd hp (stays_of hb) g
set_option maxHeartbeats 1000000 in
theorem sCanReach_ (b : Ln) (p g : Int) (hp : I64 p) (hg : I64 g) (W : World) :
    Calls Try.prog 69 #[.agg #[.int .i64 b.f, .int .i64 b.o, .int .i64 b.t], .int .i64 p, .int .i64 g] W fun e w' => e = .returned (.bool (leadsB b p g)) ∧ Below W.heap.size W w' := by
  rcases Bool.eq_false_or_eq_true (smallB b) with hS | hS
  · rcases Bool.eq_false_or_eq_true (posB b p) with hP | hP
    · rcases Bool.eq_false_or_eq_true (posB b g) with hG | hG
      · obtain ⟨w, h, s, rfl, hb, h16, s16⟩ := smallB_nat hS
        obtain ⟨q, rfl, hq⟩ := posB_nat hP
        obtain ⟨r, rfl, hr⟩ := posB_nat hG
        have hrl := posB_lt hb hr
        have hlen : (spreadL ⟨w, h, s⟩ q false).length = 2 ^ (w * h) := spreadL_len hS hP hb (posB_lt hb hq)
        have HR : Hid (leadsB ⟨w, h, s⟩ q r = (spreadL ⟨w, h, s⟩ q false).getD r false) := Lib.hid (by
          rw [leadsB, show pairB ⟨w, h, s⟩ q r = true by simp [pairB, hS, hP, hG], Bool.true_and, spreadL_yes hS hP]
          simp only [Int.toNat_natCast])
        have HS := Lib.hid (fun W' => l14Seen_ w h s q false hS hP W')
        obtain ⟨bs, hbs⟩ : ∃ x, spreadL ⟨w, h, s⟩ q false = x := ⟨_, rfl⟩
        rw [hbs] at HR HS hlen
        have r0 : (0 : Int) ≤ (r : Int) := by omega
        have r1 : (r : Int) < (bs.length : Int) := by omega
        have r2 : r < bs.length := by omega
        clear hlen hbs hq hr hrl
        go_enter Try.func69, Try.ntmps69
        go_wp2_with fail
        refine (is_ (sIsSmall_ ⟨w, h, s⟩ _) hS).mono ?_
        rintro e w1 ⟨rfl, hb1⟩
        obtain ⟨hc, hf⟩ := bcell hb1
        have z0 : W.heap.size < w1.heap.size := by have := hb1.size; (try simp at this); omega
        have hw1 : Below W.heap.size W w1 := below_step ((Below.refl _ _).alloc (Nat.le_refl _) _) hb1 (by (try simp))
        have c0 : w1.cell? ⟨W.heap.size, 0, none⟩ = some (.int .i64 w) := by rw [hc _ _ (by simp)]; simp [go_sem]
        have c1 : w1.cell? ⟨W.heap.size, 1, none⟩ = some (.int .i64 h) := by rw [hc _ _ (by simp)]; simp [go_sem]
        have c2 : w1.cell? ⟨W.heap.size, 2, none⟩ = some (.int .i64 s) := by rw [hc _ _ (by simp)]; simp [go_sem]
        clear hc hf hb1
        go_wp2_with fail
        refine (is_ (sPositionOk_ ⟨w, h, s⟩ q hp _) hP).mono ?_
        rintro e w2 ⟨rfl, hb2⟩
        replace c0 := (hb2.cell (p := ⟨W.heap.size, 0, none⟩) z0).trans c0
        replace c1 := (hb2.cell (p := ⟨W.heap.size, 1, none⟩) z0).trans c1
        replace c2 := (hb2.cell (p := ⟨W.heap.size, 2, none⟩) z0).trans c2
        have hw2 := below_next hw1 hb2
        have zw2 : W.heap.size < (w2).heap.size := by have := hb2.size; omega
        clear hb2
        go_wp2_with fail
        refine (is_ (sPositionOk_ ⟨w, h, s⟩ r hg _) hG).mono ?_
        rintro e w3 ⟨rfl, hb2⟩
        replace c0 := (hb2.cell (p := ⟨W.heap.size, 0, none⟩) zw2).trans c0
        replace c1 := (hb2.cell (p := ⟨W.heap.size, 1, none⟩) zw2).trans c1
        replace c2 := (hb2.cell (p := ⟨W.heap.size, 2, none⟩) zw2).trans c2
        have hw3 := below_next hw2 hb2
        have zw3 : W.heap.size < (w3).heap.size := by have := hb2.size; omega
        clear hb2
        go_wp2_with fail
        refine (HS.out _).mono ?_
        rintro e w4 ⟨A, c, rfl, rd, hb4⟩
        have hw4 := below_next hw3 hb4
        obtain ⟨tb, off, rfl, htb, x0⟩ := rd_bool rd r2
        generalize bs.getD r false = v at x0 HR
        go_wp2
        go_ret
        exact ⟨ret_bool HR.out.symm, hw4⟩
      · have HR : Hid (leadsB b p g = false) := Lib.hid (by simp [leadsB, pairB, hG])
        go_enter Try.func69, Try.ntmps69
        go_wp2_with fail
        refine (is_ (sIsSmall_ b _) hS).mono ?_
        rintro e w1 ⟨rfl, hb1⟩
        obtain ⟨hc, hf⟩ := bcell hb1
        have z0 : W.heap.size < w1.heap.size := by have := hb1.size; (try simp at this); omega
        have hw1 : Below W.heap.size W w1 := below_step ((Below.refl _ _).alloc (Nat.le_refl _) _) hb1 (by (try simp))
        have c0 : w1.cell? ⟨W.heap.size, 0, none⟩ = some (.int .i64 b.f) := by rw [hc _ _ (by simp)]; simp [go_sem]
        have c1 : w1.cell? ⟨W.heap.size, 1, none⟩ = some (.int .i64 b.o) := by rw [hc _ _ (by simp)]; simp [go_sem]
        have c2 : w1.cell? ⟨W.heap.size, 2, none⟩ = some (.int .i64 b.t) := by rw [hc _ _ (by simp)]; simp [go_sem]
        clear hc hf hb1
        go_wp2_with fail
        refine (is_ (sPositionOk_ b p hp _) hP).mono ?_
        rintro e w2 ⟨rfl, hb2⟩
        replace c0 := (hb2.cell (p := ⟨W.heap.size, 0, none⟩) z0).trans c0
        replace c1 := (hb2.cell (p := ⟨W.heap.size, 1, none⟩) z0).trans c1
        replace c2 := (hb2.cell (p := ⟨W.heap.size, 2, none⟩) z0).trans c2
        have hw2 := below_next hw1 hb2
        have zw2 : W.heap.size < (w2).heap.size := by have := hb2.size; omega
        clear hb2
        go_wp2_with fail
        refine (is_ (sPositionOk_ b g hg _) hG).mono ?_
        rintro e w3 ⟨rfl, hb2⟩
        replace c0 := (hb2.cell (p := ⟨W.heap.size, 0, none⟩) zw2).trans c0
        replace c1 := (hb2.cell (p := ⟨W.heap.size, 1, none⟩) zw2).trans c1
        replace c2 := (hb2.cell (p := ⟨W.heap.size, 2, none⟩) zw2).trans c2
        have hw3 := below_next hw2 hb2
        have zw3 : W.heap.size < (w3).heap.size := by have := hb2.size; omega
        clear hb2
        go_wp2
        go_ret
        exact ⟨ret_bool HR.out.symm, hw3⟩
    · have HR : Hid (leadsB b p g = false) := Lib.hid (by simp [leadsB, pairB, hP])
      go_enter Try.func69, Try.ntmps69
      go_wp2_with fail
      refine (is_ (sIsSmall_ b _) hS).mono ?_
      rintro e w1 ⟨rfl, hb1⟩
      obtain ⟨hc, hf⟩ := bcell hb1
      have z0 : W.heap.size < w1.heap.size := by have := hb1.size; (try simp at this); omega
      have hw1 : Below W.heap.size W w1 := below_step ((Below.refl _ _).alloc (Nat.le_refl _) _) hb1 (by (try simp))
      have c0 : w1.cell? ⟨W.heap.size, 0, none⟩ = some (.int .i64 b.f) := by rw [hc _ _ (by simp)]; simp [go_sem]
      have c1 : w1.cell? ⟨W.heap.size, 1, none⟩ = some (.int .i64 b.o) := by rw [hc _ _ (by simp)]; simp [go_sem]
      have c2 : w1.cell? ⟨W.heap.size, 2, none⟩ = some (.int .i64 b.t) := by rw [hc _ _ (by simp)]; simp [go_sem]
      clear hc hf hb1
      go_wp2_with fail
      refine (is_ (sPositionOk_ b p hp _) hP).mono ?_
      rintro e w2 ⟨rfl, hb2⟩
      replace c0 := (hb2.cell (p := ⟨W.heap.size, 0, none⟩) z0).trans c0
      replace c1 := (hb2.cell (p := ⟨W.heap.size, 1, none⟩) z0).trans c1
      replace c2 := (hb2.cell (p := ⟨W.heap.size, 2, none⟩) z0).trans c2
      have hw2 := below_next hw1 hb2
      have zw2 : W.heap.size < (w2).heap.size := by have := hb2.size; omega
      clear hb2
      go_wp2
      go_ret
      exact ⟨ret_bool HR.out.symm, hw2⟩
  · have HR : Hid (leadsB b p g = false) := Lib.hid (by simp [leadsB, pairB, hS])
    go_enter Try.func69, Try.ntmps69
    go_wp2_with fail
    refine (is_ (sIsSmall_ b _) hS).mono ?_
    rintro e w1 ⟨rfl, hb1⟩
    obtain ⟨hc, hf⟩ := bcell hb1
    have z0 : W.heap.size < w1.heap.size := by have := hb1.size; (try simp at this); omega
    have hw1 : Below W.heap.size W w1 := below_step ((Below.refl _ _).alloc (Nat.le_refl _) _) hb1 (by (try simp))
    have c0 : w1.cell? ⟨W.heap.size, 0, none⟩ = some (.int .i64 b.f) := by rw [hc _ _ (by simp)]; simp [go_sem]
    have c1 : w1.cell? ⟨W.heap.size, 1, none⟩ = some (.int .i64 b.o) := by rw [hc _ _ (by simp)]; simp [go_sem]
    have c2 : w1.cell? ⟨W.heap.size, 2, none⟩ = some (.int .i64 b.t) := by rw [hc _ _ (by simp)]; simp [go_sem]
    clear hc hf hb1
    go_wp2
    go_ret
    exact ⟨ret_bool HR.out.symm, hw1⟩
end Go.Proofs.Ytbcgokpamhgabaa
namespace Go.Proofs.Ytbcgokpamhgabaa
set_option linter.unusedVariables false

/-- The complement of a position. -/
def othP (b : Ln) (p : Int) : Int := if posB b p then (adiff b.t.toNat p.toNat : Nat) else -1
theorem oth_yes {w h s q : Nat} (hP : posB ⟨w, h, s⟩ q = true) : othP ⟨w, h, s⟩ q = (adiff s q : Nat) := by simp [othP, hP]
theorem oth_no {b : Ln} {p : Int} (hP : posB b p = false) : othP b p = -1 := by simp [othP, hP]
theorem adiff_sub2 (s q : Nat) : adiff s q &&& s = adiff s q := by
  apply Nat.eq_of_testBit_eq
  intro i
  rw [Nat.testBit_and, testBit_adiff]
  cases s.testBit i <;> cases q.testBit i <;> rfl
theorem oth_pos {b : Ln} {p : Int} (hP : posB b p = true) : posB b (othP b p) = true := by
  obtain ⟨w, h, s, q, rfl, rfl, hb, hq⟩ := posB_open hP
  rw [oth_yes hP]
  exact posB_of hb (adiff_sub2 s q)
theorem adiff_adiff {s q : Nat} (hq : q &&& s = q) : adiff s (adiff s q) = q := by
  apply Nat.eq_of_testBit_eq
  intro i
  have := congrArg (fun x => x.testBit i) hq
  simp only [Nat.testBit_and] at this
  rw [testBit_adiff, testBit_adiff]
  revert this
  cases s.testBit i <;> cases q.testBit i <;> simp
theorem oth_oth {b : Ln} {p : Int} (hP : posB b p = true) : othP b (othP b p) = p := by
  have hO := oth_pos hP
  obtain ⟨w, h, s, q, rfl, rfl, hb, hq⟩ := posB_open hP
  rw [oth_yes hP] at hO ⊢
  rw [oth_yes hO, adiff_adiff hq]
theorem pop_split {s q : Nat} (hq : q &&& s = q) : popc q + popc (adiff s q) = popc s := by
  unfold popc
  have key : ∀ n, (bitsOf q n).length + (bitsOf (adiff s q) n).length = (bitsOf s n).length := by
    intro n
    induction n with
    | zero => rfl
    | succ n ih =>
      rw [len_succ, len_succ, len_succ]
      have := congrArg (fun x => x.testBit n) hq
      simp only [Nat.testBit_and] at this
      rw [testBit_adiff]
      revert this
      cases s.testBit n <;> cases q.testBit n <;> simp <;> omega
  exact key 49
/-- A jump in the complement of what it leads to. -/
theorem flip_oth {s q f o t : Nat} (hq : q &&& s = q) (hf : s.testBit f = true) (ho : s.testBit o = true) (ht : s.testBit t = true) : flip (adiff s (flip q ⟨f, o, t⟩)) ⟨f, o, t⟩ = adiff s q := by
  apply Nat.eq_of_testBit_eq
  intro i
  simp only [flip, Nat.testBit_xor, testBit_adiff, testBit_lbits]
  by_cases e1 : f = i
  · subst e1; simp [hf]
  · by_cases e2 : o = i
    · subst e2; simp [ho]
    · by_cases e3 : t = i
      · subst e3; simp [ht]
      · simp [e1, e2, e3]
theorem canJ_oth {s q f o t : Nat} (hf : s.testBit f = true) (ho : s.testBit o = true) (ht : s.testBit t = true) (hft : f ≠ t) (hot : o ≠ t) (hfo : f ≠ o) (h : canJ q ⟨f, o, t⟩ = true) : canJ (adiff s (flip q ⟨f, o, t⟩)) ⟨f, o, t⟩ = true := by
  simp only [canJ, Int.toNat_natCast, Bool.and_eq_true, Bool.not_eq_true'] at h ⊢
  obtain ⟨h1, h2, h3⟩ := h
  simp [flip, Nat.testBit_xor, testBit_adiff, testBit_lbits, hf, ho, ht, h1, h2, h3]
theorem do_oth {b l : Ln} {p : Int} (h : doB b p l = true) : doB b (othP b (doP b p l)) l = true ∧ doP b (othP b (doP b p l)) l = othP b p := by
  have h' := h
  simp only [doB, Bool.and_eq_true] at h'
  obtain ⟨hP, hL, hJ⟩ := h'
  have hD := doP_pos (l := l) hP
  have hO := oth_pos hD
  obtain ⟨w, hh, s, q, rfl, rfl, hb, hq⟩ := posB_open hP
  obtain ⟨f, o, t, hl⟩ := lineB_ok hb hL
  have e := hl.eq
  subst e
  rw [doP_yes h] at hD hO ⊢
  rw [oth_yes hD] at hO ⊢
  rw [Int.toNat_natCast] at hJ
  have hj := canJ_oth hl.fs hl.os hl.ts hl.ft hl.ot hl.fo hJ
  have hd : doB ⟨w, hh, s⟩ (adiff s (flip q ⟨f, o, t⟩) : Nat) ⟨f, o, t⟩ = true := by rw [doB_can hO hL]; exact hj
  refine ⟨hd, ?_⟩
  rw [doP_yes hd, flip_oth hq hl.fs hl.os hl.ts, oth_yes hP]
theorem play_oth {b : Ln} : ∀ (ls : List Ln) (p : Int), playsB b p ls = true → playsB b (othP b (playP b p ls)) ls.reverse = true ∧ playP b (othP b (playP b p ls)) ls.reverse = othP b p
  | [], p, _ => ⟨rfl, rfl⟩
  | l :: ls, p, h => by
    simp only [playsB, Bool.and_eq_true] at h
    obtain ⟨hd, hr⟩ := h
    obtain ⟨i1, i2⟩ := play_oth ls (doP b p l) hr
    have e : playP b p (l :: ls) = playP b (doP b p l) ls := rfl
    obtain ⟨j1, j2⟩ := do_oth hd
    rw [e, List.reverse_cons]
    exact ⟨playsB_snoc i1 (by rw [i2]; exact j1), by rw [playP_snoc, i2, j2]⟩
/-- The turned game leads from the complement of the end to the complement of the start. -/
theorem drop_one' {ls : List Ln} {k : Nat} {x : Ln} (h : ls[k]? = some x) : ls.drop k = x :: ls.drop (k + 1) := by
  obtain ⟨hk, rfl⟩ := List.getElem?_eq_some_iff.1 h
  exact List.drop_eq_getElem_cons hk
theorem sol_oth {b : Ln} {p : Int} {ls : List Ln} (hP : posB b p = true) (hn : ls.length ≤ 60) (h : playsB b p ls = true) :
    solB b (othP b (playP b p ls)) (othP b p) ls.reverse = true := by
  obtain ⟨i1, i2⟩ := play_oth ls p h
  have hO := oth_pos (playP_pos hP ls)
  have hB := playB_of hO (by simpa using hn) i1
  rw [solB, hB, playR, if_pos hB, i2]
  simp
end Go.Proofs.Ytbcgokpamhgabaa

/- The contracts of MeetingOf. -/
import Derived.Test.YtbljoknlphaimaaChecked
import Derived.Test.YtbljoknlphaimaaMem
import Derived.Tactics
import Derived.Tactics2
import Derived.WalkKit
import Derived.WalkSpells
import Derived.WalkLawsBesides
import Derived.Deep.QuietTactic
import Derived.BigQuiet
import Derived.BigGuardPart
import Derived.Lib.QuietBelow
import Derived.OwnWalk
import Derived.KernelRfl
import Derived.IntWalk
import Derived.Deep.RegionHeld3
import Derived.Test.YtbljoknlphaimaaLayF
import Derived.Test.YtbljoknlphaimaaCom
set_option linter.unusedVariables false
set_option maxRecDepth 20000
namespace Go.Proofs.Ytbljoknlphaimaa
open Go.RowKit Go.Sort Go.Lib

/-- Two positions of a small board. -/
def pairB (b : Ln) (p g : Int) : Bool := smallB b && posB b p && posB b g
def awayI (b : Ln) (p g : Int) : Int := pegsB b p - pegsB b g
def meetL (b : Ln) (p g n : Int) : List Int :=
  if pairB b p g && inB n 0 (awayI b p g) then common (natL (layerL b p n false)) (natL (layerL b g (awayI b p g - n) true)) else []
theorem meetL_no {b : Ln} {p g n : Int} (h : (pairB b p g && inB n 0 (awayI b p g)) = false) : meetL b p g n = [] := by simp [meetL, h]
theorem pegsB_bd (b : Ln) (p : Int) : -1 ≤ pegsB b p ∧ pegsB b p ≤ 49 := by
  have h : popc p.toNat ≤ 49 := by
    unfold popc bitsOf
    exact Nat.le_trans (List.length_filter_le _ _) (by simp)
  unfold pegsB
  split <;> omega
theorem pegsB_yes {w h s q : Nat} (hP : posB ⟨w, h, s⟩ q = true) : pegsB ⟨w, h, s⟩ q = (popc q : Nat) := by simp [pegsB, hP]
theorem natL_le {xs : List Nat} {n : Nat} (h : xs.length ≤ n) : (natL xs).length ≤ n := by rw [natL_length]; exact h
theorem common_le' (a c : List Int) : ∀ (n i k : Nat) (acc : List Int), (comF a c n i k acc).length ≤ acc.length + n := by
  intro n
  induction n with
  | zero => intro i k acc; simp [comF]
  | succ n ih =>
    intro i k acc
    rw [comF]
    split
    · split
      · have := ih (i + 1) k acc; omega
      · split
        · have := ih i (k + 1) acc; omega
        · have h1 := ih (i + 1) (k + 1) (addNew acc (a.getD i 0))
          have h2 : (addNew acc (a.getD i 0)).length ≤ acc.length + 1 := by unfold addNew; split <;> simp
          omega
    · omega
theorem meetL_le (b : Ln) (p g n : Int) : (meetL b p g n).length ≤ 131072 := by
  unfold meetL
  split
  · have h := common_le' (natL (layerL b p n false)) (natL (layerL b g (awayI b p g - n) true)) ((natL (layerL b p n false)).length + (natL (layerL b g (awayI b p g - n) true)).length) 0 0 []
    have h1 := natL_le (layerL_le b p n false)
    have h2 := natL_le (layerL_le b g (awayI b p g - n) true)
    unfold common
    simp only [List.length_nil] at h
    omega
  · simp
theorem iCommonN_ (xs ys : List Nat) (A B : Option Addr) (ca cb : Nat) (w : World) (ha : Rd w w.heap.size A (ints (natL xs))) (hb : Rd w w.heap.size B (ints (natL ys))) (hna : xs.length ≤ 1048576) (hnb : ys.length ≤ 1048576) :
    Calls Try.prog 24 #[.slice A xs.length ca, .slice B ys.length cb] w (GivesSlice w 3 1 (common (natL xs) (natL ys)).length (ints (common (natL xs) (natL ys)))) := by
  have h := iCommonOf_ (natL xs) (natL ys) A B ca cb w ha hb (natL_le hna) (natL_le hnb)
  simp only [natL_length] at h
  exact h
theorem sCommonN_ (xs ys : List Nat) (A B : Option Addr) (ca cb : Nat) (w : World) (ha : Rd w w.heap.size A (ints (natL xs))) (hb : Rd w w.heap.size B (ints (natL ys))) (hna : xs.length ≤ 1048576) (hnb : ys.length ≤ 1048576) :
    Calls Try.prog 97 #[.slice A xs.length ca, .slice B ys.length cb] w (GivesSlice w 3 1 (common (natL xs) (natL ys)).length (ints (common (natL xs) (natL ys)))) := by
  have h := sCommonOf_ (natL xs) (natL ys) A B ca cb w ha hb (natL_le hna) (natL_le hnb)
  simp only [natL_length] at h
  exact h
set_option maxHeartbeats 1000000 in
theorem iMeetingOf_ (b : Ln) (p g n : Int) (hp : I64 p) (hg : I64 g) (hn : I64 n) (W : World) :
    Calls Try.prog 18 #[.agg #[.int .i64 b.f, .int .i64 b.o, .int .i64 b.t], .int .i64 p, .int .i64 g, .int .i64 n] W (GivesSlice W 3 1 (meetL b p g n).length (ints (meetL b p g n))) := by
  rcases Bool.eq_false_or_eq_true (smallB b) with hS | hS
  · rcases Bool.eq_false_or_eq_true (posB b p) with hP | hP
    · rcases Bool.eq_false_or_eq_true (posB b g) with hG | hG
      · have HA : awayI b p g = pegsB b p - pegsB b g := rfl
        have hPI : pairB b p g = true := by simp [pairB, hS, hP, hG]
        obtain ⟨w, h, s, rfl, hb, h16, s16⟩ := smallB_nat hS
        obtain ⟨q, rfl, hq⟩ := posB_nat hP
        obtain ⟨r, rfl, hr⟩ := posB_nat hG
        have q16 : q < 65536 := Nat.lt_of_lt_of_le (posB_lt hb hq) (Nat.pow_le_pow_right (n := 2) (j := 16) (by omega) h16)
        have r16 : r < 65536 := Nat.lt_of_lt_of_le (posB_lt hb hr) (Nat.pow_le_pow_right (n := 2) (j := 16) (by omega) h16)
        have hbd1 := pegsB_bd ⟨w, h, s⟩ q
        have hbd2 := pegsB_bd ⟨w, h, s⟩ r
        rw [pegsB_yes hP] at HA hbd1
        rw [pegsB_yes hG] at HA hbd2
        have hlL := layerL_le ⟨w, h, s⟩ q n false
        have hlB := layerL_le ⟨w, h, s⟩ r (awayI ⟨w, h, s⟩ q r - n) true
        rcases Bool.eq_false_or_eq_true (inB n 0 (awayI ⟨w, h, s⟩ q r)) with hI | hI
        · have HR : Hid (meetL ⟨w, h, s⟩ q r n = common (natL (layerL ⟨w, h, s⟩ q n false)) (natL (layerL ⟨w, h, s⟩ r (awayI ⟨w, h, s⟩ q r - n) true))) := Lib.hid (by rw [meetL, hPI, hI]; rfl)
          have hI' := inB_iff.1 hI
          rw [HA] at HR hlB hI hI'
          have hdn : I64 ((popc q : Int) - (popc r : Int) - n) := by unfold I64; omega
          have hsub : IntKind.i64.wrap ((popc q : Int) - (popc r : Int) - n) = (popc q : Int) - (popc r : Int) - n := IntWalk.i64_in _ hdn
          have hlL : (layerL ⟨w, h, s⟩ q n false).length ≤ 1048576 := by omega
          have hlB : (layerL ⟨w, h, s⟩ r ((popc q : Int) - (popc r : Int) - n) true).length ≤ 1048576 := by omega
          have HSUB := Lib.hid hsub
          clear HA hPI hq hr hsub
          go_enter Try.func18, Try.ntmps18
          go_wp2_with fail
          refine (is_ (iIsSmall_ ⟨w, h, s⟩ _) hS).mono ?_
          rintro e w1 ⟨rfl, hb1⟩
          obtain ⟨hc, hf⟩ := bcell hb1
          have z0 : W.heap.size < w1.heap.size := by have := hb1.size; (try simp at this); omega
          have hw1 : Below W.heap.size W w1 := below_step ((Below.refl _ _).alloc (Nat.le_refl _) _) hb1 (by (try simp))
          have c0 : w1.cell? ⟨W.heap.size, 0, none⟩ = some (.int .i64 w) := by rw [hc _ _ (by simp)]; simp [go_sem]
          have c1 : w1.cell? ⟨W.heap.size, 1, none⟩ = some (.int .i64 h) := by rw [hc _ _ (by simp)]; simp [go_sem]
          have c2 : w1.cell? ⟨W.heap.size, 2, none⟩ = some (.int .i64 s) := by rw [hc _ _ (by simp)]; simp [go_sem]
          clear hc hf hb1
          go_wp2_with fail
          refine (is_ (iPositionOk_ ⟨w, h, s⟩ q hp _) hP).mono ?_
          rintro e w2 ⟨rfl, hb2⟩
          replace c0 := (hb2.cell (p := ⟨W.heap.size, 0, none⟩) z0).trans c0
          replace c1 := (hb2.cell (p := ⟨W.heap.size, 1, none⟩) z0).trans c1
          replace c2 := (hb2.cell (p := ⟨W.heap.size, 2, none⟩) z0).trans c2
          have hw2 := below_next hw1 hb2
          have zw2 : W.heap.size < (w2).heap.size := by have := hb2.size; omega
          clear hb2
          go_wp2_with fail
          refine (is_ (iPositionOk_ ⟨w, h, s⟩ r hg _) hG).mono ?_
          rintro e w3 ⟨rfl, hb2⟩
          replace c0 := (hb2.cell (p := ⟨W.heap.size, 0, none⟩) zw2).trans c0
          replace c1 := (hb2.cell (p := ⟨W.heap.size, 1, none⟩) zw2).trans c1
          replace c2 := (hb2.cell (p := ⟨W.heap.size, 2, none⟩) zw2).trans c2
          have hw3 := below_next hw2 hb2
          have zw3 : W.heap.size < (w3).heap.size := by have := hb2.size; omega
          clear hb2
          go_wp2_with fail
          refine (pegsIn_ q q16 _).mono ?_
          rintro e w' ⟨rfl, rfl⟩
          go_wp2_with fail
          refine (pegsIn_ r r16 _).mono ?_
          rintro e w' ⟨rfl, rfl⟩
          go_wp2_with fail
          refine (is_ (within_ _ _ _ _) hI).mono ?_
          rintro e w' ⟨rfl, rfl⟩
          have hsub := HSUB.out
          go_wp2_with fail
          go_region_held3 (fun w' => w'.cell? ⟨W.heap.size, 0, none⟩ = some (.int .i64 w) ∧ w'.cell? ⟨W.heap.size, 1, none⟩ = some (.int .i64 h) ∧ w'.cell? ⟨W.heap.size, 2, none⟩ = some (.int .i64 s) ∧ Below w3.heap.size w3 w')
            (first | exact ⟨c0, c1, c2, (Below.refl _ _).drew⟩ | exact ⟨(hX.cell (p := ⟨W.heap.size, 0, none⟩) zw3).trans c0, (hX.cell (p := ⟨W.heap.size, 1, none⟩) zw3).trans c1, (hX.cell (p := ⟨W.heap.size, 2, none⟩) zw3).trans c2, hX⟩)
            (first
              | (go_at_call 20; refine (iLayerOf_ ⟨w, h, s⟩ q n hp hn _).mono ?_; rintro e wL ⟨AL, cL, rfl, ownL, hbL⟩; have hX : Below w3.heap.size w3 wL := below_next (by first | assumption | exact (Below.refl _ _).drew) hbL)
              | (go_at_call 22; refine (iBackLayer_ ⟨w, h, s⟩ r _ hg hdn _).mono ?_; rintro e wB ⟨AB, cB, rfl, ownB, hbB⟩; have hX : Below w3.heap.size w3 wB := below_next (by first | assumption | exact (Below.refl _ _).drew) hbB)
              | (go_at_call 24; refine (iCommonN_ (layerL ⟨w, h, s⟩ q n false) (layerL ⟨w, h, s⟩ r ((popc q : Int) - (popc r : Int) - n) true) AL AB cL cB _ (by first | exact rd_of_own ownL | exact (rd_of_own ownL).next hbB) (by first | exact rd_of_own ownB | exact (rd_of_own ownB).next hbL) hlL hlB).mono ?_; rintro e wC ⟨AC, cC, rfl, ownC, hbC⟩; have hX : Below w3.heap.size w3 wC := below_next (by first | assumption | exact (Below.refl _ _).drew) hbC; have hY : wC.ownsRow W.heap.size 3 1 (.slice AC (common _ _).length cC) _ (ints (common _ _)) := own_base ownC (Nat.le_trans (hw3).size (by first | exact (Nat.le_trans hbL.size hbB.size) | exact (Nat.le_trans hbB.size hbL.size) | (have := hbL.size; have := hbB.size; simp at *; omega))))
              )
          all_goals (have HY := Lib.hid hY; clear hY ownC; go_wp2; go_ret; exact ⟨_, _, ret_slice (by rw [HR.out]), by rw [HR.out]; exact HY.out, below_next hw3 hX⟩)
        · have HR := Lib.hid (meetL_no (b := ⟨w, h, s⟩) (p := q) (g := r) (n := n) (by rw [hI, Bool.and_false]))
          rw [HA] at hI
          clear HA hPI hq hr
          go_enter Try.func18, Try.ntmps18
          go_wp2_with fail
          refine (is_ (iIsSmall_ ⟨w, h, s⟩ _) hS).mono ?_
          rintro e w1 ⟨rfl, hb1⟩
          obtain ⟨hc, hf⟩ := bcell hb1
          have z0 : W.heap.size < w1.heap.size := by have := hb1.size; (try simp at this); omega
          have hw1 : Below W.heap.size W w1 := below_step ((Below.refl _ _).alloc (Nat.le_refl _) _) hb1 (by (try simp))
          have c0 : w1.cell? ⟨W.heap.size, 0, none⟩ = some (.int .i64 w) := by rw [hc _ _ (by simp)]; simp [go_sem]
          have c1 : w1.cell? ⟨W.heap.size, 1, none⟩ = some (.int .i64 h) := by rw [hc _ _ (by simp)]; simp [go_sem]
          have c2 : w1.cell? ⟨W.heap.size, 2, none⟩ = some (.int .i64 s) := by rw [hc _ _ (by simp)]; simp [go_sem]
          clear hc hf hb1
          go_wp2_with fail
          refine (is_ (iPositionOk_ ⟨w, h, s⟩ q hp _) hP).mono ?_
          rintro e w2 ⟨rfl, hb2⟩
          replace c0 := (hb2.cell (p := ⟨W.heap.size, 0, none⟩) z0).trans c0
          replace c1 := (hb2.cell (p := ⟨W.heap.size, 1, none⟩) z0).trans c1
          replace c2 := (hb2.cell (p := ⟨W.heap.size, 2, none⟩) z0).trans c2
          have hw2 := below_next hw1 hb2
          have zw2 : W.heap.size < (w2).heap.size := by have := hb2.size; omega
          clear hb2
          go_wp2_with fail
          refine (is_ (iPositionOk_ ⟨w, h, s⟩ r hg _) hG).mono ?_
          rintro e w3 ⟨rfl, hb2⟩
          replace c0 := (hb2.cell (p := ⟨W.heap.size, 0, none⟩) zw2).trans c0
          replace c1 := (hb2.cell (p := ⟨W.heap.size, 1, none⟩) zw2).trans c1
          replace c2 := (hb2.cell (p := ⟨W.heap.size, 2, none⟩) zw2).trans c2
          have hw3 := below_next hw2 hb2
          have zw3 : W.heap.size < (w3).heap.size := by have := hb2.size; omega
          clear hb2
          go_wp2_with fail
          refine (pegsIn_ q q16 _).mono ?_
          rintro e w' ⟨rfl, rfl⟩
          go_wp2_with fail
          refine (pegsIn_ r r16 _).mono ?_
          rintro e w' ⟨rfl, rfl⟩
          go_wp2_with fail
          refine (is_ (within_ _ _ _ _) hI).mono ?_
          rintro e w' ⟨rfl, rfl⟩
          go_wp2
          go_ret
          exact ⟨_, _, ret_slice (by rw [HR.out]; rfl), by rw [HR.out]; exact World.ownsRow_nil _ _ _ _, hw3⟩
      · have HR := Lib.hid (meetL_no (b := b) (p := p) (g := g) (n := n) (by simp [pairB, hG]))
        go_enter Try.func18, Try.ntmps18
        go_wp2_with fail
        refine (is_ (iIsSmall_ b _) hS).mono ?_
        rintro e w1 ⟨rfl, hb1⟩
        obtain ⟨hc, hf⟩ := bcell hb1
        have z0 : W.heap.size < w1.heap.size := by have := hb1.size; (try simp at this); omega
        have hw1 : Below W.heap.size W w1 := below_step ((Below.refl _ _).alloc (Nat.le_refl _) _) hb1 (by (try simp))
        have c0 : w1.cell? ⟨W.heap.size, 0, none⟩ = some (.int .i64 b.f) := by rw [hc _ _ (by simp)]; simp [go_sem]
        have c1 : w1.cell? ⟨W.heap.size, 1, none⟩ = some (.int .i64 b.o) := by rw [hc _ _ (by simp)]; simp [go_sem]
        have c2 : w1.cell? ⟨W.heap.size, 2, none⟩ = some (.int .i64 b.t) := by rw [hc _ _ (by simp)]; simp [go_sem]
        clear hc hf hb1
        go_wp2_with fail
        refine (is_ (iPositionOk_ b p hp _) hP).mono ?_
        rintro e w2 ⟨rfl, hb2⟩
        replace c0 := (hb2.cell (p := ⟨W.heap.size, 0, none⟩) z0).trans c0
        replace c1 := (hb2.cell (p := ⟨W.heap.size, 1, none⟩) z0).trans c1
        replace c2 := (hb2.cell (p := ⟨W.heap.size, 2, none⟩) z0).trans c2
        have hw2 := below_next hw1 hb2
        have zw2 : W.heap.size < (w2).heap.size := by have := hb2.size; omega
        clear hb2
        go_wp2_with fail
        refine (is_ (iPositionOk_ b g hg _) hG).mono ?_
        rintro e w3 ⟨rfl, hb2⟩
        replace c0 := (hb2.cell (p := ⟨W.heap.size, 0, none⟩) zw2).trans c0
        replace c1 := (hb2.cell (p := ⟨W.heap.size, 1, none⟩) zw2).trans c1
        replace c2 := (hb2.cell (p := ⟨W.heap.size, 2, none⟩) zw2).trans c2
        have hw3 := below_next hw2 hb2
        have zw3 : W.heap.size < (w3).heap.size := by have := hb2.size; omega
        clear hb2
        go_wp2
        go_ret
        exact ⟨_, _, ret_slice (by rw [HR.out]; rfl), by rw [HR.out]; exact World.ownsRow_nil _ _ _ _, hw3⟩
    · have HR := Lib.hid (meetL_no (b := b) (p := p) (g := g) (n := n) (by simp [pairB, hP]))
      go_enter Try.func18, Try.ntmps18
      go_wp2_with fail
      refine (is_ (iIsSmall_ b _) hS).mono ?_
      rintro e w1 ⟨rfl, hb1⟩
      obtain ⟨hc, hf⟩ := bcell hb1
      have z0 : W.heap.size < w1.heap.size := by have := hb1.size; (try simp at this); omega
      have hw1 : Below W.heap.size W w1 := below_step ((Below.refl _ _).alloc (Nat.le_refl _) _) hb1 (by (try simp))
      have c0 : w1.cell? ⟨W.heap.size, 0, none⟩ = some (.int .i64 b.f) := by rw [hc _ _ (by simp)]; simp [go_sem]
      have c1 : w1.cell? ⟨W.heap.size, 1, none⟩ = some (.int .i64 b.o) := by rw [hc _ _ (by simp)]; simp [go_sem]
      have c2 : w1.cell? ⟨W.heap.size, 2, none⟩ = some (.int .i64 b.t) := by rw [hc _ _ (by simp)]; simp [go_sem]
      clear hc hf hb1
      go_wp2_with fail
      refine (is_ (iPositionOk_ b p hp _) hP).mono ?_
      rintro e w2 ⟨rfl, hb2⟩
      replace c0 := (hb2.cell (p := ⟨W.heap.size, 0, none⟩) z0).trans c0
      replace c1 := (hb2.cell (p := ⟨W.heap.size, 1, none⟩) z0).trans c1
      replace c2 := (hb2.cell (p := ⟨W.heap.size, 2, none⟩) z0).trans c2
      have hw2 := below_next hw1 hb2
      have zw2 : W.heap.size < (w2).heap.size := by have := hb2.size; omega
      clear hb2
      go_wp2
      go_ret
      exact ⟨_, _, ret_slice (by rw [HR.out]; rfl), by rw [HR.out]; exact World.ownsRow_nil _ _ _ _, hw2⟩
  · have HR := Lib.hid (meetL_no (b := b) (p := p) (g := g) (n := n) (by simp [pairB, hS]))
    go_enter Try.func18, Try.ntmps18
    go_wp2_with fail
    refine (is_ (iIsSmall_ b _) hS).mono ?_
    rintro e w1 ⟨rfl, hb1⟩
    obtain ⟨hc, hf⟩ := bcell hb1
    have z0 : W.heap.size < w1.heap.size := by have := hb1.size; (try simp at this); omega
    have hw1 : Below W.heap.size W w1 := below_step ((Below.refl _ _).alloc (Nat.le_refl _) _) hb1 (by (try simp))
    have c0 : w1.cell? ⟨W.heap.size, 0, none⟩ = some (.int .i64 b.f) := by rw [hc _ _ (by simp)]; simp [go_sem]
    have c1 : w1.cell? ⟨W.heap.size, 1, none⟩ = some (.int .i64 b.o) := by rw [hc _ _ (by simp)]; simp [go_sem]
    have c2 : w1.cell? ⟨W.heap.size, 2, none⟩ = some (.int .i64 b.t) := by rw [hc _ _ (by simp)]; simp [go_sem]
    clear hc hf hb1
    go_wp2
    go_ret
    exact ⟨_, _, ret_slice (by rw [HR.out]; rfl), by rw [HR.out]; exact World.ownsRow_nil _ _ _ _, hw1⟩
theorem l15Ok_ (b : Ln) (p g : Int) (hp : I64 p) (hg : I64 g) (W : World) :
    Calls Try.prog 95 #[.agg #[.int .i64 b.f, .int .i64 b.o, .int .i64 b.t], .int .i64 p, .int .i64 g] W fun e w' => e = .returned (.bool (pairB b p g)) ∧ Below W.heap.size W w' := by
  rcases Bool.eq_false_or_eq_true (smallB b) with hS | hS
  · rcases Bool.eq_false_or_eq_true (posB b p) with hP | hP
    · rcases Bool.eq_false_or_eq_true (posB b g) with hG | hG
      · have HR := Lib.hid (show pairB b p g = true by simp [pairB, hS, hP, hG])
        go_enter Try.func95, Try.ntmps95
        go_wp2_with fail
        refine (is_ (sIsSmall_ b _) hS).mono ?_
        rintro e w1 ⟨rfl, hb1⟩
        obtain ⟨hc, hf⟩ := bcell hb1
        have z0 : W.heap.size < w1.heap.size := by have := hb1.size; (try simp at this); omega
        have hw1 : Below W.heap.size W w1 := below_step ((Below.refl _ _).alloc (Nat.le_refl _) _) hb1 (by (try simp))
        have c0 : w1.cell? ⟨W.heap.size, 0, none⟩ = some (.int .i64 b.f) := by rw [hc _ _ (by simp)]; simp [go_sem]
        have c1 : w1.cell? ⟨W.heap.size, 1, none⟩ = some (.int .i64 b.o) := by rw [hc _ _ (by simp)]; simp [go_sem]
        have c2 : w1.cell? ⟨W.heap.size, 2, none⟩ = some (.int .i64 b.t) := by rw [hc _ _ (by simp)]; simp [go_sem]
        clear hc hf hb1
        go_wp2_with fail
        refine (is_ (sPositionOk_ b p hp _) hP).mono ?_
        rintro e w2 ⟨rfl, hb2⟩
        replace c0 := (hb2.cell (p := ⟨W.heap.size, 0, none⟩) z0).trans c0
        replace c1 := (hb2.cell (p := ⟨W.heap.size, 1, none⟩) z0).trans c1
        replace c2 := (hb2.cell (p := ⟨W.heap.size, 2, none⟩) z0).trans c2
        have hw2 := below_next hw1 hb2
        have zw2 : W.heap.size < (w2).heap.size := by have := hb2.size; omega
        clear hb2
        go_wp2_with fail
        refine (is_ (sPositionOk_ b g hg _) hG).mono ?_
        rintro e w3 ⟨rfl, hb2⟩
        replace c0 := (hb2.cell (p := ⟨W.heap.size, 0, none⟩) zw2).trans c0
        replace c1 := (hb2.cell (p := ⟨W.heap.size, 1, none⟩) zw2).trans c1
        replace c2 := (hb2.cell (p := ⟨W.heap.size, 2, none⟩) zw2).trans c2
        have hw3 := below_next hw2 hb2
        have zw3 : W.heap.size < (w3).heap.size := by have := hb2.size; omega
        clear hb2
        go_wp2
        go_ret
        exact ⟨ret_bool HR.out.symm, hw3⟩
      · have HR := Lib.hid (show pairB b p g = false by simp [pairB, hG])
        go_enter Try.func95, Try.ntmps95
        go_wp2_with fail
        refine (is_ (sIsSmall_ b _) hS).mono ?_
        rintro e w1 ⟨rfl, hb1⟩
        obtain ⟨hc, hf⟩ := bcell hb1
        have z0 : W.heap.size < w1.heap.size := by have := hb1.size; (try simp at this); omega
        have hw1 : Below W.heap.size W w1 := below_step ((Below.refl _ _).alloc (Nat.le_refl _) _) hb1 (by (try simp))
        have c0 : w1.cell? ⟨W.heap.size, 0, none⟩ = some (.int .i64 b.f) := by rw [hc _ _ (by simp)]; simp [go_sem]
        have c1 : w1.cell? ⟨W.heap.size, 1, none⟩ = some (.int .i64 b.o) := by rw [hc _ _ (by simp)]; simp [go_sem]
        have c2 : w1.cell? ⟨W.heap.size, 2, none⟩ = some (.int .i64 b.t) := by rw [hc _ _ (by simp)]; simp [go_sem]
        clear hc hf hb1
        go_wp2_with fail
        refine (is_ (sPositionOk_ b p hp _) hP).mono ?_
        rintro e w2 ⟨rfl, hb2⟩
        replace c0 := (hb2.cell (p := ⟨W.heap.size, 0, none⟩) z0).trans c0
        replace c1 := (hb2.cell (p := ⟨W.heap.size, 1, none⟩) z0).trans c1
        replace c2 := (hb2.cell (p := ⟨W.heap.size, 2, none⟩) z0).trans c2
        have hw2 := below_next hw1 hb2
        have zw2 : W.heap.size < (w2).heap.size := by have := hb2.size; omega
        clear hb2
        go_wp2_with fail
        refine (is_ (sPositionOk_ b g hg _) hG).mono ?_
        rintro e w3 ⟨rfl, hb2⟩
        replace c0 := (hb2.cell (p := ⟨W.heap.size, 0, none⟩) zw2).trans c0
        replace c1 := (hb2.cell (p := ⟨W.heap.size, 1, none⟩) zw2).trans c1
        replace c2 := (hb2.cell (p := ⟨W.heap.size, 2, none⟩) zw2).trans c2
        have hw3 := below_next hw2 hb2
        have zw3 : W.heap.size < (w3).heap.size := by have := hb2.size; omega
        clear hb2
        go_wp2
        go_ret
        exact ⟨ret_bool HR.out.symm, hw3⟩
    · have HR := Lib.hid (show pairB b p g = false by simp [pairB, hP])
      go_enter Try.func95, Try.ntmps95
      go_wp2_with fail
      refine (is_ (sIsSmall_ b _) hS).mono ?_
      rintro e w1 ⟨rfl, hb1⟩
      obtain ⟨hc, hf⟩ := bcell hb1
      have z0 : W.heap.size < w1.heap.size := by have := hb1.size; (try simp at this); omega
      have hw1 : Below W.heap.size W w1 := below_step ((Below.refl _ _).alloc (Nat.le_refl _) _) hb1 (by (try simp))
      have c0 : w1.cell? ⟨W.heap.size, 0, none⟩ = some (.int .i64 b.f) := by rw [hc _ _ (by simp)]; simp [go_sem]
      have c1 : w1.cell? ⟨W.heap.size, 1, none⟩ = some (.int .i64 b.o) := by rw [hc _ _ (by simp)]; simp [go_sem]
      have c2 : w1.cell? ⟨W.heap.size, 2, none⟩ = some (.int .i64 b.t) := by rw [hc _ _ (by simp)]; simp [go_sem]
      clear hc hf hb1
      go_wp2_with fail
      refine (is_ (sPositionOk_ b p hp _) hP).mono ?_
      rintro e w2 ⟨rfl, hb2⟩
      replace c0 := (hb2.cell (p := ⟨W.heap.size, 0, none⟩) z0).trans c0
      replace c1 := (hb2.cell (p := ⟨W.heap.size, 1, none⟩) z0).trans c1
      replace c2 := (hb2.cell (p := ⟨W.heap.size, 2, none⟩) z0).trans c2
      have hw2 := below_next hw1 hb2
      have zw2 : W.heap.size < (w2).heap.size := by have := hb2.size; omega
      clear hb2
      go_wp2
      go_ret
      exact ⟨ret_bool HR.out.symm, hw2⟩
  · have HR := Lib.hid (show pairB b p g = false by simp [pairB, hS])
    go_enter Try.func95, Try.ntmps95
    go_wp2_with fail
    refine (is_ (sIsSmall_ b _) hS).mono ?_
    rintro e w1 ⟨rfl, hb1⟩
    obtain ⟨hc, hf⟩ := bcell hb1
    have z0 : W.heap.size < w1.heap.size := by have := hb1.size; (try simp at this); omega
    have hw1 : Below W.heap.size W w1 := below_step ((Below.refl _ _).alloc (Nat.le_refl _) _) hb1 (by (try simp))
    have c0 : w1.cell? ⟨W.heap.size, 0, none⟩ = some (.int .i64 b.f) := by rw [hc _ _ (by simp)]; simp [go_sem]
    have c1 : w1.cell? ⟨W.heap.size, 1, none⟩ = some (.int .i64 b.o) := by rw [hc _ _ (by simp)]; simp [go_sem]
    have c2 : w1.cell? ⟨W.heap.size, 2, none⟩ = some (.int .i64 b.t) := by rw [hc _ _ (by simp)]; simp [go_sem]
    clear hc hf hb1
    go_wp2
    go_ret
    exact ⟨ret_bool HR.out.symm, hw1⟩
set_option maxHeartbeats 1000000 in
theorem sMeetingOf_ (b : Ln) (p g n : Int) (hp : I64 p) (hg : I64 g) (hn : I64 n) (W : World) :
    Calls Try.prog 59 #[.agg #[.int .i64 b.f, .int .i64 b.o, .int .i64 b.t], .int .i64 p, .int .i64 g, .int .i64 n] W (GivesSlice W 3 1 (meetL b p g n).length (ints (meetL b p g n))) := by
  have hsub : IntKind.i64.wrap (pegsB b p - pegsB b g) = pegsB b p - pegsB b g := IntWalk.i64_in _ (by have := pegsB_bd b p; have := pegsB_bd b g; omega)
  rcases Bool.eq_false_or_eq_true (pairB b p g) with hPI | hPI
  · have hS : smallB b = true := by simp only [pairB, Bool.and_eq_true] at hPI; exact hPI.1.1
    have hP : posB b p = true := by simp only [pairB, Bool.and_eq_true] at hPI; exact hPI.1.2
    have hG : posB b g = true := by simp only [pairB, Bool.and_eq_true] at hPI; exact hPI.2
    obtain ⟨w, h, s, rfl, hb, h16, s16⟩ := smallB_nat hS
    obtain ⟨q, rfl, hq⟩ := posB_nat hP
    obtain ⟨r, rfl, hr⟩ := posB_nat hG
    have hbd1 := pegsB_bd ⟨w, h, s⟩ q
    have hbd2 := pegsB_bd ⟨w, h, s⟩ r
    have hlL := layerL_le ⟨w, h, s⟩ q n false
    have hlB := layerL_le ⟨w, h, s⟩ r (pegsB ⟨w, h, s⟩ q - pegsB ⟨w, h, s⟩ r - n) true
    rcases Bool.eq_false_or_eq_true (inB n 0 (pegsB ⟨w, h, s⟩ q - pegsB ⟨w, h, s⟩ r)) with hI | hI
    · have HR : Hid (meetL ⟨w, h, s⟩ q r n = common (natL (layerL ⟨w, h, s⟩ q n false)) (natL (layerL ⟨w, h, s⟩ r (pegsB ⟨w, h, s⟩ q - pegsB ⟨w, h, s⟩ r - n) true))) := Lib.hid (by rw [meetL, hPI, awayI, hI]; rfl)
      have hI' := inB_iff.1 hI
      have hdn : I64 (pegsB ⟨w, h, s⟩ q - pegsB ⟨w, h, s⟩ r - n) := by unfold I64; omega
      have hsub2 : IntKind.i64.wrap (pegsB ⟨w, h, s⟩ q - pegsB ⟨w, h, s⟩ r - n) = pegsB ⟨w, h, s⟩ q - pegsB ⟨w, h, s⟩ r - n := IntWalk.i64_in _ hdn
      have hlL : (layerL ⟨w, h, s⟩ q n false).length ≤ 1048576 := by omega
      have hlB : (layerL ⟨w, h, s⟩ r (pegsB ⟨w, h, s⟩ q - pegsB ⟨w, h, s⟩ r - n) true).length ≤ 1048576 := by omega
      have HSUB := Lib.hid hsub2
      clear hS hP hG hq hr hsub2
      have hc : ∀ (a : Addr) (p : Regrown) (W : World), a.block < W.heap.size → (grow (redrawn W p.d) p.os).cell? a = W.cell? a := fun a p W h => (below_regrown W p.d p.os).cell h
      go_enter Try.func59, Try.ntmps59
      go_wp2_with fail
      refine wp_region_quiet_below (by kernel_rfl) (by kernel_rfl) ?_
      repeat (go_big_quiet_step (first | (go_at_call 16; exact Calls.regrown_of (sCountPegs_ ⟨w, h, s⟩ _ (by first | exact hp | exact hg) _))))
      refine wpQuiet_nil ?_
      intro w1 hw1
      obtain ⟨p1, hp1⟩ := hw1
      have hb1 := of_rg hp1
      clear hp1 p1
      have z0 : W.heap.size < w1.heap.size := by have := hb1.size; (try simp at this); omega
      have hw1 : Below W.heap.size W w1 := below_step ((Below.refl _ _).alloc (Nat.le_refl _) _) hb1 (by (try simp))
      have c0 : w1.cell? ⟨W.heap.size, 0, none⟩ = some (.int .i64 w) := by rw [hb1.cell (p := ⟨W.heap.size, 0, none⟩) (by simp)]; simp [go_sem]
      have c1 : w1.cell? ⟨W.heap.size, 1, none⟩ = some (.int .i64 h) := by rw [hb1.cell (p := ⟨W.heap.size, 1, none⟩) (by simp)]; simp [go_sem]
      have c2 : w1.cell? ⟨W.heap.size, 2, none⟩ = some (.int .i64 s) := by rw [hb1.cell (p := ⟨W.heap.size, 2, none⟩) (by simp)]; simp [go_sem]
      clear hb1 hc
      go_wp2_with fail
      refine (is_ (l15Ok_ ⟨w, h, s⟩ q r hp hg _) hPI).mono ?_
      rintro e w2 ⟨rfl, hb2⟩
      replace c0 := (hb2.cell (p := ⟨W.heap.size, 0, none⟩) z0).trans c0
      replace c1 := (hb2.cell (p := ⟨W.heap.size, 1, none⟩) z0).trans c1
      replace c2 := (hb2.cell (p := ⟨W.heap.size, 2, none⟩) z0).trans c2
      have hw2 := below_next hw1 hb2
      have zw2 : W.heap.size < w2.heap.size := by have := hb2.size; omega
      clear hb2
      go_wp2_with fail
      refine (is_ (l01In_ _ _ _ _) hI).mono ?_
      rintro e w' ⟨rfl, rfl⟩
      have hsub2 := HSUB.out
      go_wp2_with fail
      go_region_held3 (fun w' => w'.cell? ⟨W.heap.size, 0, none⟩ = some (.int .i64 w) ∧ w'.cell? ⟨W.heap.size, 1, none⟩ = some (.int .i64 h) ∧ w'.cell? ⟨W.heap.size, 2, none⟩ = some (.int .i64 s) ∧ Below w2.heap.size w2 w')
        (first | exact ⟨c0, c1, c2, (Below.refl _ _).drew⟩ | exact ⟨(hX.cell (p := ⟨W.heap.size, 0, none⟩) zw2).trans c0, (hX.cell (p := ⟨W.heap.size, 1, none⟩) zw2).trans c1, (hX.cell (p := ⟨W.heap.size, 2, none⟩) zw2).trans c2, hX⟩)
        (first
          | (go_at_call 57; refine (sLayerOf_ ⟨w, h, s⟩ q n hp hn _).mono ?_; rintro e wL ⟨AL, cL, rfl, ownL, hbL⟩; have hX : Below w2.heap.size w2 wL := below_next (by first | assumption | exact (Below.refl _ _).drew) hbL)
          | (go_at_call 56; refine (sBackLayer_ ⟨w, h, s⟩ r _ hg hdn _).mono ?_; rintro e wB ⟨AB, cB, rfl, ownB, hbB⟩; have hX : Below w2.heap.size w2 wB := below_next (by first | assumption | exact (Below.refl _ _).drew) hbB)
          | (go_at_call 97; refine (sCommonN_ (layerL ⟨w, h, s⟩ q n false) (layerL ⟨w, h, s⟩ r (pegsB ⟨w, h, s⟩ q - pegsB ⟨w, h, s⟩ r - n) true) AL AB cL cB _ (by first | exact rd_of_own ownL | exact (rd_of_own ownL).next hbB) (by first | exact rd_of_own ownB | exact (rd_of_own ownB).next hbL) hlL hlB).mono ?_; rintro e wC ⟨AC, cC, rfl, ownC, hbC⟩; have hX : Below w2.heap.size w2 wC := below_next (by first | assumption | exact (Below.refl _ _).drew) hbC; have hY : wC.ownsRow W.heap.size 3 1 (.slice AC (common _ _).length cC) _ (ints (common _ _)) := own_base ownC (Nat.le_trans (hw2).size (by first | exact (Nat.le_trans hbL.size hbB.size) | exact (Nat.le_trans hbB.size hbL.size) | (have := hbL.size; have := hbB.size; simp at *; omega))))
          )
      all_goals (have HY := Lib.hid hY; clear hY ownC; go_wp2; go_ret; exact ⟨_, _, ret_slice (by rw [HR.out]), by rw [HR.out]; exact HY.out, below_next hw2 hX⟩)
    · have HR := Lib.hid (meetL_no (b := ⟨w, h, s⟩) (p := q) (g := r) (n := n) (by rw [awayI, hI, Bool.and_false]))
      clear hS hP hG hq hr
      have hc : ∀ (a : Addr) (p : Regrown) (W : World), a.block < W.heap.size → (grow (redrawn W p.d) p.os).cell? a = W.cell? a := fun a p W h => (below_regrown W p.d p.os).cell h
      go_enter Try.func59, Try.ntmps59
      go_wp2_with fail
      refine wp_region_quiet_below (by kernel_rfl) (by kernel_rfl) ?_
      repeat (go_big_quiet_step (first | (go_at_call 16; exact Calls.regrown_of (sCountPegs_ ⟨w, h, s⟩ _ (by first | exact hp | exact hg) _))))
      refine wpQuiet_nil ?_
      intro w1 hw1
      obtain ⟨p1, hp1⟩ := hw1
      have hb1 := of_rg hp1
      clear hp1 p1
      have z0 : W.heap.size < w1.heap.size := by have := hb1.size; (try simp at this); omega
      have hw1 : Below W.heap.size W w1 := below_step ((Below.refl _ _).alloc (Nat.le_refl _) _) hb1 (by (try simp))
      have c0 : w1.cell? ⟨W.heap.size, 0, none⟩ = some (.int .i64 w) := by rw [hb1.cell (p := ⟨W.heap.size, 0, none⟩) (by simp)]; simp [go_sem]
      have c1 : w1.cell? ⟨W.heap.size, 1, none⟩ = some (.int .i64 h) := by rw [hb1.cell (p := ⟨W.heap.size, 1, none⟩) (by simp)]; simp [go_sem]
      have c2 : w1.cell? ⟨W.heap.size, 2, none⟩ = some (.int .i64 s) := by rw [hb1.cell (p := ⟨W.heap.size, 2, none⟩) (by simp)]; simp [go_sem]
      clear hb1 hc
      go_wp2_with fail
      refine (is_ (l15Ok_ ⟨w, h, s⟩ q r hp hg _) hPI).mono ?_
      rintro e w2 ⟨rfl, hb2⟩
      replace c0 := (hb2.cell (p := ⟨W.heap.size, 0, none⟩) z0).trans c0
      replace c1 := (hb2.cell (p := ⟨W.heap.size, 1, none⟩) z0).trans c1
      replace c2 := (hb2.cell (p := ⟨W.heap.size, 2, none⟩) z0).trans c2
      have hw2 := below_next hw1 hb2
      have zw2 : W.heap.size < w2.heap.size := by have := hb2.size; omega
      clear hb2
      go_wp2_with fail
      refine (is_ (l01In_ _ _ _ _) hI).mono ?_
      rintro e w' ⟨rfl, rfl⟩
      have HE := Lib.hid (own_base (World.ownsRow_lit (base := w2.heap.size) (e := 3) (size := 1) w2 #[] 0 (Nat.le_refl _) (by simp [maxLen]) rfl) hw2.size)
      have HB := Lib.hid (hw2.alloc hw2.size (.cells #[] 3))
      go_wp2
      go_ret
      exact ⟨_, _, ret_slice (by rw [HR.out]; rfl), by rw [HR.out]; exact HE.out, HB.out⟩
  · have HR := Lib.hid (meetL_no (b := b) (p := p) (g := g) (n := n) (by rw [hPI, Bool.false_and]))
    have hbd1 := pegsB_bd b p
    have hbd2 := pegsB_bd b g
    have hc : ∀ (a : Addr) (p : Regrown) (W : World), a.block < W.heap.size → (grow (redrawn W p.d) p.os).cell? a = W.cell? a := fun a p W h => (below_regrown W p.d p.os).cell h
    go_enter Try.func59, Try.ntmps59
    go_wp2_with fail
    refine wp_region_quiet_below (by kernel_rfl) (by kernel_rfl) ?_
    repeat (go_big_quiet_step (first | (go_at_call 16; exact Calls.regrown_of (sCountPegs_ b _ (by first | exact hp | exact hg) _))))
    refine wpQuiet_nil ?_
    intro w1 hw1
    obtain ⟨p1, hp1⟩ := hw1
    have hb1 := of_rg hp1
    clear hp1 p1
    have z0 : W.heap.size < w1.heap.size := by have := hb1.size; (try simp at this); omega
    have hw1 : Below W.heap.size W w1 := below_step ((Below.refl _ _).alloc (Nat.le_refl _) _) hb1 (by (try simp))
    have c0 : w1.cell? ⟨W.heap.size, 0, none⟩ = some (.int .i64 b.f) := by rw [hb1.cell (p := ⟨W.heap.size, 0, none⟩) (by simp)]; simp [go_sem]
    have c1 : w1.cell? ⟨W.heap.size, 1, none⟩ = some (.int .i64 b.o) := by rw [hb1.cell (p := ⟨W.heap.size, 1, none⟩) (by simp)]; simp [go_sem]
    have c2 : w1.cell? ⟨W.heap.size, 2, none⟩ = some (.int .i64 b.t) := by rw [hb1.cell (p := ⟨W.heap.size, 2, none⟩) (by simp)]; simp [go_sem]
    clear hb1 hc
    go_wp2_with fail
    refine (is_ (l15Ok_ b p g hp hg _) hPI).mono ?_
    rintro e w2 ⟨rfl, hb2⟩
    replace c0 := (hb2.cell (p := ⟨W.heap.size, 0, none⟩) z0).trans c0
    replace c1 := (hb2.cell (p := ⟨W.heap.size, 1, none⟩) z0).trans c1
    replace c2 := (hb2.cell (p := ⟨W.heap.size, 2, none⟩) z0).trans c2
    have hw2 := below_next hw1 hb2
    have zw2 : W.heap.size < w2.heap.size := by have := hb2.size; omega
    clear hb2
    have HE := Lib.hid (own_base (World.ownsRow_lit (base := w2.heap.size) (e := 3) (size := 1) w2 #[] 0 (Nat.le_refl _) (by simp [maxLen]) rfl) hw2.size)
    have HB := Lib.hid (hw2.alloc hw2.size (.cells #[] 3))
    go_wp2
    go_ret
    exact ⟨_, _, ret_slice (by rw [HR.out]; rfl), by rw [HR.out]; exact HE.out, HB.out⟩
end Go.Proofs.Ytbljoknlphaimaa

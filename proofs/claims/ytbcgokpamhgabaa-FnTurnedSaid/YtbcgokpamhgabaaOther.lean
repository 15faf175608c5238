/- The contracts of OtherOf, TurnGame, CanTurn, IsComplement. -/
import Derived.Test.YtbcgokpamhgabaaChecked
import Derived.Test.YtbcgokpamhgabaaMem
import Derived.Tactics
import Derived.Tactics2
import Derived.WalkKit
import Derived.WalkSpells
import Derived.WalkLawsBesides
import Derived.Deep.QuietTactic
import Derived.BigQuiet
import Derived.BigGuardPart
import Derived.Lib.QuietBelow
import Derived.OwnWalk
import Derived.KernelRfl
import Derived.Test.YtbcgokpamhgabaaSol
import Derived.Test.YtbcgokpamhgabaaTurnedP
import Derived.Test.YtbcgokpamhgabaaSlab
import Derived.Test.YtbcgokpamhgabaaCur
import Derived.Deep.RegionHeld3
import Derived.IntWalk
set_option linter.unusedVariables false
set_option maxRecDepth 20000
namespace Go.Proofs.Ytbcgokpamhgabaa
open Go.RowKit Go.Sort

theorem iOtherOf_ (b : Ln) (p : Int) (hp : I64 p) (W : World) :
    Calls Try.prog 42 #[.agg #[.int .i64 b.f, .int .i64 b.o, .int .i64 b.t], .int .i64 p] W fun e w' => e = .returned (.int .i64 (othP b p)) ∧ Below W.heap.size W w' := by
  rcases Bool.eq_false_or_eq_true (posB b p) with hP | hP
  · obtain ⟨w, h, s, q, rfl, rfl, hb, hq⟩ := posB_open hP
    have q63 := b63_area hb (posB_lt hb hq)
    have a1 := i64_andNot s q hb.b63 q63
    have HR := Lib.hid (oth_yes hP)
    go_enter Try.func42, Try.ntmps42
    go_wp2_with ((go_at_call 106; refine (is_ (iPositionOk_ _ _ hp _) hP).mono ?_; rintro e w1 ⟨rfl, hb1⟩; obtain ⟨hc, hf⟩ := bcell hb1; have hz0 : W.heap.size < w1.heap.size := (by have := hb1.size; (try simp at this); omega); have hw1 : Below W.heap.size W w1 := below_step ((Below.refl _ _).alloc (Nat.le_refl _) _) hb1 (by (try simp))))
    go_ret
    exact ⟨ret_int HR.out.symm, hw1⟩
  · have HR := Lib.hid (oth_no hP)
    go_enter Try.func42, Try.ntmps42
    go_wp2_with ((go_at_call 106; refine (is_ (iPositionOk_ _ _ hp _) hP).mono ?_; rintro e w1 ⟨rfl, hb1⟩; obtain ⟨hc, hf⟩ := bcell hb1; have hz0 : W.heap.size < w1.heap.size := (by have := hb1.size; (try simp at this); omega); have hw1 : Below W.heap.size W w1 := below_step ((Below.refl _ _).alloc (Nat.le_refl _) _) hb1 (by (try simp))))
    go_ret
    exact ⟨ret_int HR.out.symm, hw1⟩
theorem iIsComplement_ok (b : Ln) (p : Int) (hp : I64 p) (hP : posB b p = true) (W : World) :
    Calls Try.prog 45 #[.agg #[.int .i64 b.f, .int .i64 b.o, .int .i64 b.t], .int .i64 p, .int .i64 (othP b p)] W fun e w' => e = .returned (.bool true) ∧ Below W.heap.size W w' := by
  have hO := oth_pos hP
  have hoi : I64 (othP b p) := posB_i64 hO
  have HO := Lib.hid hO
  have HP := Lib.hid hP
  generalize hq : othP b p = q at *
  have HQ := Lib.hid hq
  clear hq hO hP
  go_enter Try.func45, Try.ntmps45
  go_wp2_with fail
  refine (is_ (iPositionOk_ b p hp _) HP.out).mono ?_
  rintro e w1 ⟨rfl, hb1⟩
  have hw1 : Below W.heap.size W w1 := below_step ((Below.refl _ _).alloc (Nat.le_refl _) _) hb1 (by simp)
  have bx1 := (box_new 42 W b.f b.o b.t).next hb1
  obtain ⟨c0, c1, c2⟩ := bx1.cells
  go_wp2_with fail
  refine (is_ (iPositionOk_ b q hoi _) HO.out).mono ?_
  rintro e w2 ⟨rfl, hb2⟩
  have hw2 := below_next hw1 hb2
  have bx2 := bx1.next hb2
  clear c0 c1 c2 bx1
  obtain ⟨c0, c1, c2⟩ := bx2.cells
  go_wp2_with fail
  refine (isI_ (iOtherOf_ b p hp _) HQ.out).mono ?_
  rintro e w3 ⟨rfl, hb3⟩
  have hw3 := below_next hw2 hb3
  go_wp2
  go_ret
  exact ⟨rfl, hw3⟩
theorem drop_rev {ls : List Ln} {k : Nat} {l : Ln} (h : ls[k]? = some l) : (ls.drop k).reverse = (ls.drop (k + 1)).reverse ++ [l] := by
  rw [drop_one' h, List.reverse_cons]
set_option maxHeartbeats 1000000 in
theorem iTurnGame_ (ls : List Ln) (n : Nat) (hn : ls.length = n) (A : Option Addr) (c : Nat) (hm : n ≤ 1048576) (W : World) (rd : Rd W W.heap.size A (flat ls)) :
    Calls Try.prog 43 #[.slice A n c] W (GivesRdL W n (flat ls.reverse)) := by
  obtain ⟨i0, hi, hz0, hz1, hz2⟩ := info_parts infoLine
  have HN := Lib.hid hn
  have RD := Lib.hid rd
  have hm' : (n : Int) ≤ 1048576 := by omega
  clear rd hn
  go_enter Try.func43, Try.ntmps43
  go_wp2_with fail
  go_loopw [3, 4] (fun lv iv wr => ∃ (k : Nat) (A' : Option Addr) (c' : Nat), k ≤ n ∧ iv = .int .i64 ((k : Int) - 1) ∧ lv = .slice A' (n - k) c' ∧ Slab wr (W.heap.size + 1) (some ⟨W.heap.size, 0, none⟩) 34 3 (.slice A' (n - k) c') (n - k) (flat (ls.drop k).reverse) ∧ Below W.heap.size W wr ∧ W.heap.size + 1 ≤ wr.heap.size) (fun _ iv _ => ((intOf iv) + 1).toNat)
  case atStart => exact ⟨n, some ⟨W.heap.size, 0, none⟩, 0, Nat.le_refl _, rfl, by simp, by rw [Nat.sub_self, List.drop_of_length_le (by rw [HN.out]; exact Nat.le_refl _)]; exact slab_zero _ _ _ _ _, (Below.refl _ _).alloc (Nat.le_refl _) _, by simp⟩
  case round =>
    obtain ⟨k, A', c', hk, rfl, rfl, hsl, hw, hsz⟩ := hrel
    by_cases hlt : 0 < k
    · obtain ⟨j, rfl⟩ : ∃ j, k = j + 1 := ⟨k - 1, by omega⟩
      have ej : ((j + 1 : Nat) : Int) - 1 = (j : Int) := by omega
      rw [ej]
      have RD1 := ((RD.out.below hw).more hw.size)
      obtain ⟨bb, off, l, rfl, hbl, hx, x0, x1, x2⟩ := RD1.line (k := j) (by rw [HN.out]; omega)
      have HX := Lib.hid (drop_rev hx)
      have j0 : (0 : Int) ≤ (j : Int) := by omega
      have j1 : (j : Int) < (n : Int) := by omega
      have HS := Lib.hid hsl
      have en : n - (j + 1) + 1 = n - j := by omega
      obtain ⟨m, hmm⟩ : ∃ m, n - (j + 1) = m := ⟨_, rfl⟩
      rw [hmm] at HS en ⊢
      have HM := Lib.hid en
      have hmb : m ≤ 1048576 := by omega
      clear hx hsl ej RD1 hmm en
      go_wp2_with (at_builtin; refine wpList_append_slab _ rfl (.tmp 13) (.tmp 18) 24 rfl (W.heap.size + 1) (some ⟨W.heap.size, 0, none⟩) 34 i0 _ 3 24 Try.underlying24 hi hz0 hz1 hz2 rfl (by decide) _ _ _ rfl (HS.out.alloc _) ⟨wr.heap.size, 0, none⟩ 1 1 [.int .i64 l.f, .int .i64 l.o, .int .i64 l.t] rfl rfl (cell_three_new _ _ _ _ _ rfl rfl rfl) (by intro u hu; simp at hu; rcases hu with rfl | rfl | rfl <;> rfl) (by omega) (by unfold maxLen; omega) (by omega) (by simp; omega) ?_; intro gA cap wA ownA hbA)
      have HO := Lib.hid ownA
      have hwA : Below W.heap.size W wA := (hw.alloc (by omega) _).trans (hbA.mono (by omega))
      have hszA : W.heap.size + 1 ≤ wA.heap.size := by have := hbA.size; simp at this; omega
      clear ownA hbA
      go_wp2
      go_roundw
      case rel => exact ⟨j, some ⟨gA, 0, none⟩, cap, by omega, rfl, by rw [HM.out], .inl (by rw [HX.out, flat_append, ← HM.out]; exact HO.out), hwA, hszA⟩
      case measure => (simp [intOf]; try omega)
    · have ek : k = 0 := by omega
      subst ek
      have HS := Lib.hid hsl
      clear hsl
      go_wp2
      go_ret
      have HR2 := rd_of_slab HS.out
      rw [List.drop_zero] at HR2
      exact ⟨A', c', rfl, HR2, hw, Slab.lo HS.out (by omega) (fun a ha => by injection ha with ha; subst ha; exact Nat.le_refl _)⟩
theorem iIsSolution_n (b : Ln) (p g : Int) (hp : I64 p) (ls : List Ln) (n : Nat) (hn : ls.length = n) (A : Option Addr) (c : Nat) (hm : n ≤ 1048576) (W : World) (rd : Rd W W.heap.size A (flat ls)) :
    Calls Try.prog 116 #[.agg #[.int .i64 b.f, .int .i64 b.o, .int .i64 b.t], .int .i64 p, .int .i64 g, .slice A n c] W fun e w' => e = .returned (.bool (solB b p g ls)) ∧ Below W.heap.size W w' := by
  subst hn
  exact iIsSolution_ b p g hp ls A c (by omega) W rd
theorem iPlayAll_n (b : Ln) (p : Int) (hp : I64 p) (ls : List Ln) (n : Nat) (hn : ls.length = n) (A : Option Addr) (c : Nat) (hm : n ≤ 1048576) (W : World) (rd : Rd W W.heap.size A (flat ls)) :
    Calls Try.prog 115 #[.agg #[.int .i64 b.f, .int .i64 b.o, .int .i64 b.t], .int .i64 p, .slice A n c] W fun e w' => e = .returned (.tuple #[.int .i64 (playR b p ls), .bool (playB b p ls)]) ∧ Below W.heap.size W w' := by
  subst hn
  exact iPlayAll_ b p hp ls A c (by omega) W rd
set_option maxHeartbeats 2000000 in
theorem iCanTurn_ok (b : Ln) (p : Int) (hP : posB b p = true) (ls : List Ln) (n : Nat) (hn : ls.length = n) (hpl : playsB b p ls = true) (A : Option Addr) (c : Nat) (hm : n ≤ 60) (W : World) (rd : Rd W W.heap.size A (flat ls)) :
    Calls Try.prog 44 #[.agg #[.int .i64 b.f, .int .i64 b.o, .int .i64 b.t], .int .i64 p, .slice A n c] W fun e w' => e = .returned (.bool true) ∧ Below W.heap.size W w' := by
  have hp : I64 p := posB_i64 hP
  have HB := Lib.hid (playB_of hP (by omega) hpl)
  have HE := Lib.hid (show playR b p ls = playP b p ls by rw [playR, if_pos HB.out])
  have HS := Lib.hid (sol_oth hP (by omega) hpl)
  have hq : I64 (playP b p ls) := posB_i64 (playP_pos hP ls)
  have HO := Lib.hid (show I64 (othP b (playP b p ls)) from posB_i64 (oth_pos (playP_pos hP ls)))
  have HN := Lib.hid hn
  have HNR : Hid (ls.reverse.length = n) := Lib.hid (by rw [List.length_reverse]; exact hn)
  have RD := Lib.hid (rd.laid (.cells #[.int .i64 b.f, .int .i64 b.o, .int .i64 b.t] 42))
  clear hP hpl rd hn
  obtain ⟨q, hqe⟩ : ∃ q, playP b p ls = q := ⟨_, rfl⟩
  rw [hqe] at HE HS hq HO
  clear hqe
  go_enter Try.func44, Try.ntmps44
  go_wp2_with fail
  refine (is2_ (iPlayAll_n b p hp ls n HN.out A c (by omega) _ RD.out) HE.out HB.out).mono ?_
  rintro e w1 ⟨rfl, hb1⟩
  have hw1 : Below W.heap.size W w1 := below_step ((Below.refl _ _).alloc (Nat.le_refl _) _) hb1 (by simp)
  have BX := Lib.hid ((box_new 42 W b.f b.o b.t).next hb1)
  have RD1 := Lib.hid (RD.out.next hb1)
  obtain ⟨c0, c1, c2⟩ := BX.out.cells
  have hlw := BX.out.lt
  clear hb1 RD
  go_wp2_with fail
  have hX0 : Below w1.heap.size w1 w1 := Below.refl _ _
  have HX0 := Lib.hid hX0
  go_region_held3 (fun w' => w'.cell? ⟨W.heap.size, 0, none⟩ = some (.int .i64 b.f) ∧ w'.cell? ⟨W.heap.size, 1, none⟩ = some (.int .i64 b.o) ∧ w'.cell? ⟨W.heap.size, 2, none⟩ = some (.int .i64 b.t)) (first | exact ⟨c0, c1, c2⟩) (first
    | (go_at_call 42; refine (iOtherOf_ b _ (by first | exact hp | exact hq) _).mono ?_; rintro e wX ⟨rfl, hbX⟩; have hY : Below w1.heap.size w1 wX := below_next (by first | exact HX1.out | exact HX0.out.drew) hbX; have HX1 := Lib.hid hY; have bx := BX.out.next hY; clear c0 c1 c2 hbX hY; obtain ⟨c0, c1, c2⟩ := bx.cells; clear bx)
    | (go_at_call 43; refine (iTurnGame_ ls n HN.out A c (by omega) _ (RD1.out.next HX1.out)).mono ?_; rintro e wT ⟨AT, cT, rfl, rdT, hbT, hloT⟩; have RDT := Lib.hid rdT; have hY : Below w1.heap.size w1 wT := below_next HX1.out hbT; have HX2 := Lib.hid hY; have bx := BX.out.next hY; clear c0 c1 c2 hbT hY hloT rdT; obtain ⟨c0, c1, c2⟩ := bx.cells; clear bx)
    | (go_at_call 116; refine (is_ (iIsSolution_n b (othP b q) (othP b p) HO.out ls.reverse n HNR.out AT cT (by omega) _ RDT.out) HS.out).mono ?_; rintro e wS ⟨rfl, hbS⟩; have hY : Below w1.heap.size w1 wS := below_next HX2.out hbS; have HX3 := Lib.hid hY; have bx := BX.out.next hY; clear c0 c1 c2 hbS hY; obtain ⟨c0, c1, c2⟩ := bx.cells; clear bx))
  all_goals
    go_wp2
    go_ret
    exact ⟨rfl, below_next hw1 HX3.out⟩
end Go.Proofs.Ytbcgokpamhgabaa

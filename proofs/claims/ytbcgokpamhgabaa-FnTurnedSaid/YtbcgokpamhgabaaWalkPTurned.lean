/- The walk of the law FnTurned. -/
import Derived.Test.YtbcgokpamhgabaaChecked
import Derived.Test.YtbcgokpamhgabaaMem
import Derived.Tactics
import Derived.Tactics2
import Derived.WalkKit
import Derived.WalkSpells
import Derived.WalkLawsBesides
import Derived.Deep.QuietTactic
import Derived.BigQuiet
import Derived.BigGuardPart
import Derived.Lib.QuietBelow
import Derived.OwnWalk
import Derived.KernelRfl
import Derived.Test.YtbcgokpamhgabaaOpenC
import Derived.Test.YtbcgokpamhgabaaDrawG
import Derived.Test.YtbcgokpamhgabaaOther
import Derived.Test.YtbcgokpamhgabaaPegs
import Derived.Test.YtbcgokpamhgabaaSmall
import Derived.Test.YtbcgokpamhgabaaOrdB
set_option linter.unusedVariables false
set_option maxRecDepth 100000
namespace Go.Proofs.Ytbcgokpamhgabaa
open Go.RowKit Go.Sort

theorem iIsComplement_n (b : Ln) (p o : Int) (hp : I64 p) (hP : posB b p = true) (e : othP b p = o) (W : World) :
    Calls Try.prog 45 #[.agg #[.int .i64 b.f, .int .i64 b.o, .int .i64 b.t], .int .i64 p, .int .i64 o] W fun e w' => e = .returned (.bool true) ∧ Below W.heap.size W w' := by
  subst e
  exact iIsComplement_ok b p hp hP W
theorem sIsSolution_n (b : Ln) (p g : Int) (hp : I64 p) (ls : List Ln) (n : Nat) (hn : ls.length = n) (A : Option Addr) (c : Nat) (hm : n ≤ 1048576) (W : World) (rd : Rd W W.heap.size A (flat ls)) :
    Calls Try.prog 48 #[.agg #[.int .i64 b.f, .int .i64 b.o, .int .i64 b.t], .int .i64 p, .int .i64 g, .slice A n c] W fun e w' => e = .returned (.bool (solB b p g ls)) ∧ Below W.heap.size W w' := by
  subst hn
  exact sIsSolution_ b p g hp ls A c (by omega) W rd
theorem sPlayAll_n (b : Ln) (p : Int) (hp : I64 p) (ls : List Ln) (n : Nat) (hn : ls.length = n) (A : Option Addr) (c : Nat) (hm : n ≤ 1048576) (W : World) (rd : Rd W W.heap.size A (flat ls)) :
    Calls Try.prog 41 #[.agg #[.int .i64 b.f, .int .i64 b.o, .int .i64 b.t], .int .i64 p, .slice A n c] W fun e w' => e = .returned (.tuple #[.int .i64 (playR b p ls), .bool (playB b p ls)]) ∧ Below W.heap.size W w' := by
  subst hn
  exact sPlayAll_ b p hp ls A c (by omega) W rd
theorem sSameJumps_n (xs ys : List Ln) (A A' : Option Addr) (n m c c' : Nat) (w : World) (hx : xs.length = n) (hy : ys.length = m) (hn : n ≤ 1048576) (hm : m ≤ 1048576) (hr : Rd w w.heap.size A (flat xs)) (hr' : Rd w w.heap.size A' (flat ys)) :
    Calls Try.prog 47 #[.slice A n c, .slice A' m c'] w fun e w' => e = .returned (.bool (eqB xs ys)) ∧ Below w.heap.size w w' := by
  subst hx hy
  exact sSameJumps_ xs ys A A' c c' w hr hr' (by omega) (by omega)
theorem pegs_wrap {x y s q : Nat} (hb : BdOk x y s) (hP : posB ⟨x, y, s⟩ q = true) : IntKind.i64.wrap (pegsB ⟨x, y, s⟩ q + pegsB ⟨x, y, s⟩ (othP ⟨x, y, s⟩ q)) = (popc s : Nat) := by
  have hO := oth_pos hP
  obtain ⟨q', e, hq⟩ := posB_nat hP
  obtain rfl : q = q' := by omega
  rw [oth_yes hP] at hO ⊢
  unfold pegsB
  rw [if_pos hP, if_pos hO, Int.toNat_natCast, Int.toNat_natCast]
  have h1 := pop_split hq
  have h2 : popc s ≤ 49 := bits_le s 49
  rw [IntKind.wrap_i64]
  omega

set_option maxHeartbeats 4000000 in
theorem fnTurned_walk (xs : List UInt8) (A : Option Addr) (c : Nat) (w : World) (rd : Rd w w.heap.size A (bts xs)) (hm : xs.length ≤ 9223372036854775807) :
    Calls Try.prog 6 #[.slice A xs.length c] w fun e w' => e = .returned (.bool true) ∧ Below w.heap.size w w' := by
  by_cases hbig : (1048576 : Int) < (xs.length : Int)
  · go_enter Try.func6, Try.ntmps6
    go_wp2_with (go_at_call 12; refine (big_ _ _ _ _).mono ?_; rintro e w1 ⟨rfl, rfl⟩)
    go_ret
    exact ⟨rfl, Below.refl _ _⟩
  · have hm1 : xs.length ≤ 1048576 := by omega
    have hm2 : (xs.length : Int) ≤ 1048576 := by omega
    have RC := Lib.hid rd
    clear rd hm
    go_enter Try.func6, Try.ntmps6
    go_wp2_with (go_at_call 12; refine (big_ _ _ _ _).mono ?_; rintro e w1 ⟨rfl, rfl⟩)
    refine (drawGame_ xs A c _ RC.out hm1).mono ?_
    rintro e w1 ⟨x, y, s, q, l, Al, cl, hbd, hsm, hP, hl, hpl, rfl, rd1, hw1⟩
    obtain ⟨n, hn⟩ : ∃ n, l.length = n := ⟨_, rfl⟩
    have HN := Lib.hid hn
    have HNR : Hid (l.reverse.length = n) := Lib.hid (by rw [List.length_reverse]; exact hn)
    have HNRR : Hid (l.reverse.reverse.length = n) := Lib.hid (by rw [List.length_reverse, List.length_reverse]; exact hn)
    rw [hn] at hl ⊢
    have hqi : I64 (q : Int) := posB_i64 hP
    have HBD := Lib.hid hbd
    have HP := Lib.hid hP
    have HPL := Lib.hid hpl
    have HPB := Lib.hid (playB_of hP (by omega) hpl)
    have HE := Lib.hid (show playR ⟨x, y, s⟩ q l = playP ⟨x, y, s⟩ q l by rw [playR, if_pos HPB.out])
    have HS := Lib.hid (sol_oth hP (by omega) hpl)
    have hri : I64 (playP ⟨x, y, s⟩ q l) := posB_i64 (playP_pos hP l)
    have HRI : Hid (I64 (othP ⟨x, y, s⟩ (playP ⟨x, y, s⟩ q l))) := Lib.hid (posB_i64 (oth_pos (playP_pos hP l)))
    have HOO := Lib.hid (oth_oth hP)
    have hoi : I64 (othP ⟨x, y, s⟩ q) := posB_i64 (oth_pos hP)
    have HWR := Lib.hid (pegs_wrap hbd hP)
    obtain ⟨r, hr⟩ : ∃ r, playP ⟨x, y, s⟩ q l = r := ⟨_, rfl⟩
    rw [hr] at HE HS hri HRI
    obtain ⟨o, ho⟩ : ∃ o, othP ⟨x, y, s⟩ q = o := ⟨_, rfl⟩
    have HO := Lib.hid ho
    rw [ho] at HS HOO hoi HWR
    have RL1 := Lib.hid (rd1.laid (.cells #[.int .i64 x, .int .i64 y, .int .i64 s] 42))
    have BX1 := Lib.hid (box_new 42 w1 x y s)
    have hw2 := hw1.alloc hw1.size (.cells #[.int .i64 x, .int .i64 y, .int .i64 s] 42)
    clear hn hr ho hbd hsm hP hpl rd1 hw1
    go_upto_region 4 with fail
    generalize w1.alloc (.cells #[.int .i64 x, .int .i64 y, .int .i64 s] 42) = u1 at *
    generalize w1.heap.size = B at *
    obtain ⟨c0, c1, c2⟩ := BX1.out.cells
    go_wp2_with fail
    refine (is2_ (sPlayAll_n ⟨x, y, s⟩ q hqi l n HN.out Al cl (by omega) _ RL1.out) HE.out HPB.out).mono ?_
    rintro e w2 ⟨rfl, hb2⟩
    have RL2 := Lib.hid (RL1.out.next hb2)
    have BX2 := Lib.hid (BX1.out.next hb2)
    have hw2 := below_next hw2 hb2
    clear hb2 c0 c1 c2 RL1 BX1
    obtain ⟨c0, c1, c2⟩ := BX2.out.cells
    go_wp2_with fail
    refine (isI_ (iOtherOf_ ⟨x, y, s⟩ q hqi _) HO.out).mono ?_
    rintro e w3 ⟨rfl, hb3⟩
    have RL3 := Lib.hid (RL2.out.next hb3)
    have BX3 := Lib.hid (BX2.out.next hb3)
    have hw3 := below_next hw2 hb3
    clear hb3 c0 c1 c2 RL2 BX2
    go_wp2_with fail
    refine (iTurnGame_ l n HN.out Al cl (by omega) _ RL3.out).mono ?_
    rintro e w4 ⟨AT, cT, rfl, rdT, hb4, -⟩
    have RL4 := Lib.hid (RL3.out.next hb4)
    have BX4 := BX3.out.next hb4
    have hw4 := below_next hw3 hb4
    have RT4 := Lib.hid rdT
    clear hb4 rdT RL3 BX3
    have BX3 := Lib.hid BX4
    clear BX4
    obtain ⟨c0, c1, c2⟩ := BX3.out.cells
    have HX := Lib.hid ((Below.refl w4.heap.size w4).drew)
    go_wp2_with fail
    have hOO := HOO.out
    have hWR := HWR.out
    go_region_held3 (fun w' => w'.cell? ⟨B, 0, none⟩ = some (.int .i64 x) ∧ w'.cell? ⟨B, 1, none⟩ = some (.int .i64 y) ∧ w'.cell? ⟨B, 2, none⟩ = some (.int .i64 s)) (first | exact ⟨c0, c1, c2⟩) (first
      | (go_at_call 44; refine (iCanTurn_ok ⟨x, y, s⟩ q HP.out l n HN.out HPL.out Al cl (by omega) _ (RL4.out.next HX.out)).mono ?_; rintro e wX ⟨rfl, hbX⟩; have hY := below_next HX.out hbX; have HX' := Lib.hid hY; clear HX hY hbX c0 c1 c2; have HX := HX'; clear HX'; obtain ⟨c0, c1, c2⟩ := (BX3.out.next HX.out).cells)
      | (go_at_call 42; refine (iOtherOf_ ⟨x, y, s⟩ _ (by first | exact hoi | exact hri) _).mono ?_; rintro e wX ⟨rfl, hbX⟩; have hY := below_next HX.out hbX; have HX' := Lib.hid hY; clear HX hY hbX c0 c1 c2; have HX := HX'; clear HX'; obtain ⟨c0, c1, c2⟩ := (BX3.out.next HX.out).cells)
      | (go_at_call 45; refine (iIsComplement_n ⟨x, y, s⟩ q o hqi HP.out HO.out _).mono ?_; rintro e wX ⟨rfl, hbX⟩; have hY := below_next HX.out hbX; have HX' := Lib.hid hY; clear HX hY hbX c0 c1 c2; have HX := HX'; clear HX'; obtain ⟨c0, c1, c2⟩ := (BX3.out.next HX.out).cells)
      | (go_at_call 34; refine (sCountPegs_ ⟨x, y, s⟩ _ (by first | exact hqi | exact hoi) _).mono ?_; rintro e wX ⟨rfl, hbX⟩; have hY := below_next HX.out hbX; have HX' := Lib.hid hY; clear HX hY hbX c0 c1 c2; have HX := HX'; clear HX'; obtain ⟨c0, c1, c2⟩ := (BX3.out.next HX.out).cells)
      | (go_at_call 46; refine (sCountHoles_ x y s HBD.out _).mono ?_; rintro e wX ⟨rfl, hbX⟩; have hY := below_next HX.out hbX; have HX' := Lib.hid hY; clear HX hY hbX c0 c1 c2; have HX := HX'; clear HX'; obtain ⟨c0, c1, c2⟩ := (BX3.out.next HX.out).cells)
      | (go_at_call 43; refine (iTurnGame_ l.reverse n HNR.out AT cT (by omega) _ (RT4.out.next HX.out)).mono ?_; rintro e wX ⟨AU, cU, rfl, rdU, hbX, -⟩; have RU := Lib.hid rdU; clear rdU; have hY := below_next HX.out hbX; have HX' := Lib.hid hY; clear HX hY hbX c0 c1 c2; have HX := HX'; clear HX'; obtain ⟨c0, c1, c2⟩ := (BX3.out.next HX.out).cells)
      | (go_at_call 47; refine (is_ (sSameJumps_n l.reverse.reverse l AU Al n n cU cl _ HNRR.out HN.out (by omega) (by omega) RU.out (RL4.out.next HX.out)) (eqB_of (List.reverse_reverse l))).mono ?_; rintro e wX ⟨rfl, hbX⟩; have hY := below_next HX.out hbX; have HX' := Lib.hid hY; clear HX hY hbX c0 c1 c2; have HX := HX'; clear HX'; obtain ⟨c0, c1, c2⟩ := (BX3.out.next HX.out).cells)
      | (go_at_call 48; refine (is_ (sIsSolution_n ⟨x, y, s⟩ (othP ⟨x, y, s⟩ r) o HRI.out l.reverse n HNR.out AT cT (by omega) _ (RT4.out.next HX.out)) HS.out).mono ?_; rintro e wX ⟨rfl, hbX⟩; have hY := below_next HX.out hbX; have HX' := Lib.hid hY; clear HX hY hbX c0 c1 c2; have HX := HX'; clear HX'; obtain ⟨c0, c1, c2⟩ := (BX3.out.next HX.out).cells))
    all_goals
      go_wp2
      go_ret
      exact ⟨rfl, below_next hw4 HX.out⟩
end Go.Proofs.Ytbcgokpamhgabaa

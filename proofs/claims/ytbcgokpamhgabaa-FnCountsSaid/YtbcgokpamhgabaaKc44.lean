/- The walk of the law FnCounts. -/
import Derived.Test.YtbcgokpamhgabaaChecked
import Derived.Test.YtbcgokpamhgabaaKc01
import Derived.Tactics
import Derived.Tactics2
import Derived.WalkKit
import Derived.WalkSpells
import Derived.WalkLawsBesides
import Derived.Deep.QuietTactic
import Derived.BigQuiet
import Derived.BigGuardPart
import Derived.Lib.QuietBelow
import Derived.OwnWalk
import Derived.KernelRfl
import Derived.Test.YtbcgokpamhgabaaKc04
import Derived.Test.YtbcgokpamhgabaaKc28
import Derived.Test.YtbcgokpamhgabaaKc38
import Derived.Test.YtbcgokpamhgabaaKc42
import Derived.Test.YtbcgokpamhgabaaKc21
import Derived.Test.YtbcgokpamhgabaaKc16
import Derived.Test.YtbcgokpamhgabaaKc43
namespace Go.Proofs.Ytbcgokpamhgabaa
set_option linter.unusedVariables false
set_option maxRecDepth 100000
open Go.RowKit Go.Sort

theorem rd_drewC {w : World} {B : Nat} {A : Option Addr} {xs : List Value} (h : Rd w B A xs) (n : Nat) : Rd (w.drewN n) B A xs := h
theorem at_intC (xs : List UInt8) (A : Option Addr) (c : Nat) (i : Int) (h0 : 0 ≤ i) (h1 : i ≤ 1048576) (w : World) (rd : Rd w w.heap.size A (bts xs)) (hm : xs.length ≤ 1048576) :
    Calls Try.prog 16 #[.slice A xs.length c, .int .i64 i] w (GivesByte w) := by
  obtain ⟨k, rfl⟩ : ∃ k : Nat, i = k := ⟨i.toNat, by omega⟩
  exact at_ xs A c k w rd hm (by omega)
/-- The byte that at reads, and its rest. -/
theorem at_mod (xs : List UInt8) (A : Option Addr) (c : Nat) (i : Int) (h0 : 0 ≤ i) (h1 : i ≤ 1048576) (n : Nat) (hn : 1 ≤ n) (w : World) (rd : Rd w w.heap.size A (bts xs)) (hm : xs.length ≤ 1048576) :
    Calls Try.prog 16 #[.slice A xs.length c, .int .i64 i] w fun e w' => ∃ v r : Nat, (v : Int) ≤ 255 ∧ (v : Int) % (n : Int) = (r : Int) ∧ (v : Int).tmod (n : Int) = (r : Int) ∧ r < n ∧ r ≤ 255 ∧ e = .returned (.int .i64 v) ∧ w = w' := by
  refine (at_intC xs A c i h0 h1 w rd hm).mono ?_
  rintro e wV ⟨v, hv, rfl, rfl⟩
  have := Nat.mod_le v n
  exact ⟨v, v % n, by omega, by simp, rfl, Nat.mod_lt _ hn, by omega, rfl, rfl⟩
theorem sDoJump_onC (b l : Ln) (p : Int) (hp : I64 p) (r : Int) (h : doP b p l = r) (W : World) :
    Calls Try.prog 64 #[.agg #[.int .i64 b.f, .int .i64 b.o, .int .i64 b.t], .int .i64 p, .agg #[.int .i64 l.f, .int .i64 l.o, .int .i64 l.t]] W fun e w' => ∃ k : Bool, e = .returned (.tuple #[.int .i64 r, .bool k]) ∧ Below W.heap.size W w' := by
  subst h
  exact (sDoJump_ b l p hp W).mono fun e w' h => ⟨_, h.1, h.2⟩
/-- GameAt, its answer known. -/
theorem gameAt_on (b : Ln) (p g n : Int) (hp : I64 p) (hg : I64 g) (hn : I64 n) (js : List Ln) (m : Nat) (k : Bool) (h : gameL b p g n = js) (hm : js.length = m) (hk : gameB b p g n = k) (W : World) :
    Calls Try.prog 87 #[.agg #[.int .i64 b.f, .int .i64 b.o, .int .i64 b.t], .int .i64 p, .int .i64 g, .int .i64 n] W fun e w' => ∃ A c, e = .returned (.tuple #[.slice A m c, .bool k]) ∧ Rd w' w'.heap.size A (flat js) ∧ Below W.heap.size W w' := by
  subst h hm hk
  refine (iGameAt_ b p g n hp hg hn W).mono ?_
  rintro e w' ⟨A, c, rfl, own, hb⟩
  exact ⟨A, c, rfl, rd_of_own own, hb⟩
theorem gameAt_off (b : Ln) (p g n : Int) (hp : I64 p) (hg : I64 g) (hn : I64 n) (hk : gameB b p g n = false) (W : World) :
    Calls Try.prog 87 #[.agg #[.int .i64 b.f, .int .i64 b.o, .int .i64 b.t], .int .i64 p, .int .i64 g, .int .i64 n] W fun e w' => ∃ A c, e = .returned (.tuple #[.slice A 0 c, .bool false]) ∧ Below W.heap.size W w' := by
  refine (gameAt_on b p g n hp hg hn [] 0 false (gameL_no hk) rfl hk W).mono ?_
  rintro e w' ⟨A, c, rfl, -, hb⟩
  exact ⟨A, c, rfl, hb⟩
theorem wayTo_on (w h s q r : Nat) (hb : BdOk w h s) (h12 : w * h ≤ 12) (hP : posB ⟨w, h, s⟩ q = true) (hG : posB ⟨w, h, s⟩ r = true) (hld : Leads (linesL ⟨w, h, s⟩) q r) (js : List Ln) (m : Nat) (hj : gameG (waysN (linesL ⟨w, h, s⟩) r (-1)) (linesL ⟨w, h, s⟩) r q 0 = js) (hm : js.length = m) (W : World) :
    Calls Try.prog 88 #[.agg #[.int .i64 w, .int .i64 h, .int .i64 s], .int .i64 q, .int .i64 r] W fun e w' => ∃ A c, e = .returned (.tuple #[.slice A m c, .bool true]) ∧ Rd w' w'.heap.size A (flat js) ∧ Below W.heap.size W w' := by
  subst hj hm
  refine (sWayTo_ w h s q r hb (by omega) hP hG hld W).mono ?_
  rintro e w' ⟨A, c, rfl, own, hb⟩
  exact ⟨A, c, rfl, rd_of_own own, hb⟩
theorem sol_on (b : Ln) (p g : Int) (hp : I64 p) (ls : List Ln) (n : Nat) (hn : ls.length = n) (A : Option Addr) (c : Nat) (hm : n ≤ 1048576) (k : Bool) (hk : solB b p g ls = k) (W : World) (rd : Rd W W.heap.size A (flat ls)) :
    Calls Try.prog 48 #[.agg #[.int .i64 b.f, .int .i64 b.o, .int .i64 b.t], .int .i64 p, .int .i64 g, .slice A n c] W fun e w' => e = .returned (.bool k) ∧ Below W.heap.size W w' := by
  subst hn hk
  exact sIsSolution_ b p g hp ls A c (by omega) W rd
theorem idx_on_ (b : Ln) (p g : Int) (hp : I64 p) (hg : I64 g) (ls : List Ln) (n : Nat) (hn : ls.length = n) (A : Option Addr) (c : Nat) (hm : n ≤ 1048576) (k : Int) (hk : indexI b p g ls = k) (W : World) (rd : Rd W W.heap.size A (flat ls)) :
    Calls Try.prog 90 #[.agg #[.int .i64 b.f, .int .i64 b.o, .int .i64 b.t], .int .i64 p, .int .i64 g, .slice A n c] W fun e w' => e = .returned (.int .i64 k) ∧ Below W.heap.size W w' := by
  subst hn hk
  exact iIndexOfGame_ b p g hp hg ls A c (by omega) W rd
theorem same_on (xs : List Ln) (A A' : Option Addr) (n c c' : Nat) (w : World) (hx : xs.length = n) (hn : n ≤ 1048576) (hr : Rd w w.heap.size A (flat xs)) (hr' : Rd w w.heap.size A' (flat xs)) :
    Calls Try.prog 47 #[.slice A n c, .slice A' n c'] w fun e w' => e = .returned (.bool true) ∧ Below w.heap.size w w' := by
  subst hx
  have h := sSameJumps_ xs xs A A' c c' w hr hr' (by omega) (by omega)
  rw [show eqB xs xs = true by simp [eqB]] at h
  exact h
theorem btoi_ (b : Bool) (u : Nat) (h : b = true → 1 ≤ u) (W : World) :
    Calls Try.prog 91 #[.bool b] W fun e w' => ∃ k : Nat, k ≤ 1 ∧ k ≤ u ∧ e = .returned (.int .i64 k) ∧ W = w' := by
  cases b with
  | true =>
    have h1 := Lib.hid (h rfl)
    clear h
    go_enter Try.func91, Try.ntmps91
    go_wp2
    go_ret
    exact ⟨1, Nat.le_refl _, h1.out, rfl, rfl⟩
  | false =>
    clear h
    go_enter Try.func91, Try.ntmps91
    go_wp2
    go_ret
    exact ⟨0, by omega, by omega, rfl, rfl⟩
/-- Whether one of the first m jumps ends in the hole k. -/
def usedL (js : List Ln) (k m : Nat) : Bool := (js.take m).any fun j => j.t == (k : Int)
theorem usedL_next {js : List Ln} {k m : Nat} {l : Ln} (h : js[m]? = some l) : usedL js k (m + 1) = (usedL js k m || (l.t == (k : Int))) := by
  rw [usedL, List.take_add_one, h]
  simp [usedL]
theorem usedL_all {js : List Ln} {k m : Nat} (hm : js.length = m) (h : usedL js k m = true) : ∃ j ∈ js, j.t = (k : Int) := by
  subst hm
  rw [usedL, List.take_length, List.any_eq_true] at h
  obtain ⟨j, hj, he⟩ := h
  exact ⟨j, hj, by simpa using he⟩
set_option maxHeartbeats 16000000 in
theorem fnCounts_walk (xs : List UInt8) (A : Option Addr) (c : Nat) (w : World) (rd : Rd w w.heap.size A (bts xs)) (hm : xs.length ≤ 9223372036854775807) :
    Calls Try.prog 11 #[.slice A xs.length c] w fun e w' => e = .returned (.bool true) ∧ Below w.heap.size w w' := by
  by_cases hbig : (1048576 : Int) < (xs.length : Int)
  · go_enter Try.func11, Try.ntmps11
    go_wp2_with (go_at_call 12; refine (big_ _ _ _ _).mono ?_; rintro e w1 ⟨rfl, rfl⟩)
    go_ret
    exact ⟨rfl, Below.refl _ _⟩
  · have hm1 : xs.length ≤ 1048576 := by omega
    have hm2 : (xs.length : Int) ≤ 1048576 := by omega
    have RC := Lib.hid rd
    clear rd hm
    go_enter Try.func11, Try.ntmps11
    go_wp2_with (go_at_call 12; refine (big_ _ _ _ _).mono ?_; rintro e w1 ⟨rfl, rfl⟩)
    refine (drawShort_ xs A c _ RC.out hm1).mono ?_
    rintro e w1 ⟨x, y, s, p, g, hbd, h12, hP, hG, hl, rfl, hw1⟩
    have hpi : I64 (p : Int) := posB_i64 hP
    have hgi : I64 (g : Int) := posB_i64 hG
    obtain ⟨n, hn, ca, w0, f, hn1, hnm, hh1, hh2, hpop, hcn, hcs, hoff, ⟨hz1, hz2, hz3, hz4⟩, hat, hj1, hj2, hj3, hca, hca1⟩ := counts_law hbd h12 hP hG hl
    have HBD := Lib.hid hbd
    have HP := Lib.hid hP
    have HG := Lib.hid hG
    have H12 := Lib.hid h12
    have HL := Lib.hid hl
    have HPOP := Lib.hid hpop
    have HCN := Lib.hid hcn
    have HCS := Lib.hid hcs
    have HOFF := Lib.hid hoff
    have HZ1 := Lib.hid hz1
    have HZ2 := Lib.hid hz2
    have HZ4 := Lib.hid hz4
    obtain ⟨m0, hm0⟩ : ∃ m0, w0.length = m0 := ⟨_, rfl⟩
    have HM0 := Lib.hid hm0
    rw [hm0] at hz3
    have HAT := Lib.hid hat
    have HJ1 := Lib.hid hj1
    have HJ2 := Lib.hid hj2
    have HJ3 := Lib.hid hj3
    have HCA := Lib.hid hca
    have hni : I64 (n : Int) := by constructor <;> omega
    have hn1' : (1 : Int) ≤ (n : Int) := by omega
    have hnd : decide ((n : Int) < 1) = false := by simp; omega
    have BX1 := Lib.hid (box5_new 85 w1 x y s p g)
    have hwa := hw1.alloc hw1.size (.cells #[.int .i64 x, .int .i64 y, .int .i64 s, .int .i64 p, .int .i64 g] 85)
    clear hbd h12 hP hG hl hpop hcn hcs hoff hz1 hz2 hz4 hm0 hat hj1 hj2 hj3 hca hw1
    have hwB := hwa
    clear hwa
    go_upto_region 4 with fail
    generalize w1.alloc (.cells #[.int .i64 x, .int .i64 y, .int .i64 s, .int .i64 p, .int .i64 g] 85) = v1 at *
    generalize w1.heap.size = B at *
    have hw1 := hwB
    clear hwB
    obtain ⟨c0, c1, c2, c3, c4⟩ := BX1.out.cells
    go_wp2_with fail
    refine (isI_ (iCountGames_ ⟨x, y, s⟩ p g hpi hgi _) HCN.out).mono ?_
    rintro e w2 ⟨rfl, hb2⟩
    have BX2 := Lib.hid (BX1.out.next hb2)
    have hw2 := below_next hw1 hb2
    clear c0 c1 c2 c3 c4 BX1
    obtain ⟨c0, c1, c2, c3, c4⟩ := BX2.out.cells
    clear hb2
    go_wp2_with fail
    refine (isI_ (iCountGames_ ⟨x, y, s⟩ p p hpi hpi _) HCS.out).mono ?_
    rintro e w3 ⟨rfl, hb3⟩
    have BX3 := Lib.hid (BX2.out.next hb3)
    have hw3 := below_next hw2 hb3
    clear c0 c1 c2 c3 c4 BX2
    obtain ⟨c0, c1, c2, c3, c4⟩ := BX3.out.cells
    clear hb3
    have RC3 := Lib.hid ((RC.out.below hw3).more hw3.size)
    have hnz : ¬ (n : Int) = 0 := by omega
    have hnd0 : decide ((n : Int) = 0) = false := by simp; omega
    go_wp2_with fail
    refine (at_mod xs A c 0 (by omega) (by omega) n hn1 _ RC3.out hm1).mono ?_
    rintro e wV ⟨v, i, hv, hvm, hvt, hin, hi255, rfl, rfl⟩
    have hii : I64 (i : Int) := by constructor <;> omega
    obtain ⟨js, ha1, ha2, ha3, ha4, ha5, ha6⟩ := HAT.out i hin
    have HA1 := Lib.hid ha1
    have HA2 := Lib.hid ha2
    have HA4 := Lib.hid ha4
    have HA5 := Lib.hid ha5
    have HA6 := Lib.hid ha6
    obtain ⟨nj, hnj⟩ : ∃ nj, js.length = nj := ⟨_, rfl⟩
    have HNJ := Lib.hid hnj
    rw [hnj] at ha3
    clear ha1 ha2 ha4 ha5 ha6 hnj HAT RC3
    go_wp2_with fail
    refine (gameAt_on ⟨x, y, s⟩ p g i hpi hgi hii js nj true HA2.out HNJ.out HA1.out _).mono ?_
    rintro e w4 ⟨AG, cG, rfl, rdG, hb4⟩
    have BX4 := Lib.hid (BX3.out.next hb4)
    have hw4 := below_next hw3 hb4
    clear c0 c1 c2 c3 c4 BX3
    obtain ⟨c0, c1, c2, c3, c4⟩ := BX4.out.cells
    have RG4 := Lib.hid rdG
    clear hb4 rdG
    go_wp2_with fail
    refine (gameAt_off ⟨x, y, s⟩ p g n hpi hgi hni HOFF.out _).mono ?_
    rintro e w5 ⟨AO, cO, rfl, hb5⟩
    have BX5 := Lib.hid (BX4.out.next hb5)
    have hw5 := below_next hw4 hb5
    clear c0 c1 c2 c3 c4 BX4
    obtain ⟨c0, c1, c2, c3, c4⟩ := BX5.out.cells
    have RG5 := Lib.hid (RG4.out.next hb5)
    clear hb5 RG4
    go_wp2_with fail
    refine (gameAt_on ⟨x, y, s⟩ p g 0 hpi hgi (by constructor <;> omega) w0 m0 true HZ2.out HM0.out HZ1.out _).mono ?_
    rintro e w6 ⟨AF, cF, rfl, rdF, hb6⟩
    have BX6 := Lib.hid (BX5.out.next hb6)
    have hw6 := below_next hw5 hb6
    clear c0 c1 c2 c3 c4 BX5
    obtain ⟨c0, c1, c2, c3, c4⟩ := BX6.out.cells
    have RG6 := Lib.hid (RG5.out.next hb6)
    have RF6 := Lib.hid rdF
    clear hb6 RG5 rdF
    go_wp2_with fail
    refine (wayTo_on x y s p g HBD.out H12.out HP.out HG.out HL.out w0 m0 HZ4.out HM0.out _).mono ?_
    rintro e w7 ⟨AW, cW, rfl, rdW, hb7⟩
    have BX7 := Lib.hid (BX6.out.next hb7)
    have hw7 := below_next hw6 hb7
    clear c0 c1 c2 c3 c4 BX6
    obtain ⟨c0, c1, c2, c3, c4⟩ := BX7.out.cells
    have RG7 := Lib.hid (RG6.out.next hb7)
    have RF7 := Lib.hid (RF6.out.next hb7)
    have RW7 := Lib.hid rdW
    clear hb7 RG6 RF6 rdW
    have RC7 := Lib.hid ((RC.out.below hw7).more hw7.size)
    have hhz : ¬ (hn : Int) = 0 := by omega
    have hhd0 : decide ((hn : Int) = 0) = false := by simp; omega
    have hh3 : (hn : Int) ≤ 49 := by omega
    have hh5 : 0 < hn := by omega
    have hh6 : (0 : Int) < (hn : Int) := by omega
    go_upto_region 12 with fail
    go_cut [14] (fun kv wc => ∃ k : Nat, kv = .int .i64 k ∧ k ≤ 255 ∧ Below w7.heap.size w7 wc)
    case first =>
      have HX := Lib.hid ((Below.refl w7.heap.size w7).drew)
      go_region_with (first
        | (go_at_call 16; refine (at_mod xs A c _ (by omega) (by omega) hn hh1 _ (RC7.out.next HX.out) hm1).mono ?_; rintro e wV ⟨v, k, hv', hkm, hkt, hkn, hk255, rfl, rfl⟩)
        | (go_at_call 46; refine (isI_ (sCountHoles_ x y s HBD.out _) (show ((popc s : Nat) : Int) = (hn : Int) by rw [HPOP.out])).mono ?_; rintro e wX ⟨rfl, hbX⟩; (
          have hZ := below_next HX.out hbX
          have HX' := Lib.hid hZ
          have BX7' := Lib.hid (BX7.out.next hZ)
          clear HX hZ hbX c0 c1 c2 c3 c4
          have HX := HX'
          clear HX'
          obtain ⟨c0, c1, c2, c3, c4⟩ := BX7'.out.cells
          )))
      all_goals
        go_wp2_with fail
        go_meet
        exact ⟨k, rfl, hk255, HX.out⟩
    case rest =>
      obtain ⟨k, rfl, hk, hb8⟩ := hcut
      have hki : I64 (k : Int) := by constructor <;> omega
      obtain ⟨u, hu1, hu2, hu3⟩ := HA6.out k
      have HU1 := Lib.hid hu1
      have HU3 := Lib.hid hu3
      clear hu1 hu3 HA6 RC7
      have hb8' := hb8
      rename_i w8
      have BX8 := Lib.hid (BX7.out.next hb8')
      have hw8 := below_next hw7 hb8'
      clear c0 c1 c2 c3 c4 BX7
      obtain ⟨c0, c1, c2, c3, c4⟩ := BX8.out.cells
      have RG8 := Lib.hid (RG7.out.next hb8)
      have RF8 := Lib.hid (RF7.out.next hb8)
      have RW8 := Lib.hid (RW7.out.next hb8)
      clear hb8 hb8' RG7 RF7 RW7
      go_wp2_with fail
      refine (isI_ (iHoleUse_ ⟨x, y, s⟩ p g k hpi hgi hki _) HU1.out).mono ?_
      rintro e w9 ⟨rfl, hb9⟩
      have BX9 := Lib.hid (BX8.out.next hb9)
      have hw9 := below_next hw8 hb9
      clear c0 c1 c2 c3 c4 BX8
      obtain ⟨c0, c1, c2, c3, c4⟩ := BX9.out.cells
      have RG9 := Lib.hid (RG8.out.next hb9)
      have RF9 := Lib.hid (RF8.out.next hb9)
      have RW9 := Lib.hid (RW8.out.next hb9)
      clear hb9 RG8 RF8 RW8
      go_wp2_with fail
      go_loop [16, 17] (fun uv mv => ∃ m : Nat, mv = .int .i64 m ∧ m ≤ nj ∧ uv = .bool (usedL js k m)) (fun _ mv => nj - (intOf mv).toNat)
      case atStart => exact ⟨0, rfl, Nat.zero_le _, rfl⟩
      case round =>
        obtain ⟨m, rfl, hmj, rfl⟩ := hrel
        by_cases hlt : m < nj
        · obtain ⟨gb, off, l, hA, hgb, hl, l0, l1, l2⟩ := RG9.out.line (k := m) (by rw [HNJ.out]; exact hlt)
          subst hA
          have HN := Lib.hid (usedL_next (k := k) hl)
          generalize usedL js k m = ub at *
          clear hl
          cases ub with
          | true =>
            go_wp2
            go_round
            case rel => exact ⟨m + 1, by go_num, by omega, by rw [HN.out]; rfl⟩
            case measure => simp [intOf]; omega
          | false =>
            go_wp2
            go_round
            case rel => exact ⟨m + 1, by go_num, by omega, by rw [HN.out]; simp⟩
            case measure => simp [intOf]; omega
        · have hmn : m = nj := by omega
          subst hmn
          have HUB : Hid (usedL js k m = true → 1 ≤ u) := Lib.hid (fun e => HU3.out (usedL_all HNJ.out e))
          generalize usedL js k m = ub at *
          clear hlt
          go_wp2_with fail
          refine (sJumpsOfL_ ⟨x, y, s⟩ p hpi _).mono ?_
          rintro e w10 ⟨AJ, cJ, rfl, rdJ, hb10, -⟩
          have BX10 := Lib.hid (BX9.out.next hb10)
          have hw10 := below_next hw9 hb10
          clear c0 c1 c2 c3 c4 BX9
          obtain ⟨c0, c1, c2, c3, c4⟩ := BX10.out.cells
          have RG10 := Lib.hid (RG9.out.next hb10)
          have RF10 := Lib.hid (RF9.out.next hb10)
          have RW10 := Lib.hid (RW9.out.next hb10)
          have RJ10 := Lib.hid rdJ
          have hll := jumpsL_le ⟨x, y, s⟩ p
          obtain ⟨ls, hls⟩ : ∃ ls, jumpsL ⟨x, y, s⟩ p = ls := ⟨_, rfl⟩
          rw [hls] at RJ10 HJ1 HJ2 HJ3 hll ⊢
          obtain ⟨nl, hnl⟩ : ∃ nl, ls.length = nl := ⟨_, rfl⟩
          have HNL := Lib.hid hnl
          rw [hnl] at hll ⊢
          clear hb10 RG9 RF9 RW9 rdJ hls hnl
          go_wp2_with fail
          go_loopw [18, 20] (fun sv mv wr => ∃ m : Nat, mv = .int .i64 m ∧ m ≤ nl ∧ sv = .int .i64 (((ls.take m).map f).sum : Nat) ∧ Below w10.heap.size w10 wr) (fun _ mv _ => nl - (intOf mv).toNat)
          case atStart => exact ⟨0, rfl, Nat.zero_le _, rfl, Below.refl _ _⟩
          case round =>
            obtain ⟨z, rfl, hzl, rfl, hwr⟩ := hrel
            clear c0 c1 c2 c3 c4
            have BXr := Lib.hid (BX10.out.next hwr)
            obtain ⟨c0, c1, c2, c3, c4⟩ := BXr.out.cells
            by_cases hlt : z < nl
            · obtain ⟨gb, off, l, hA, hgb, hl, l0, l1, l2⟩ := (RJ10.out.next hwr).line (k := z) (by rw [HNL.out]; exact hlt)
              subst hA
              obtain ⟨d1, d2, d3⟩ := HJ3.out l (List.mem_of_getElem? hl)
              have hS := sum_take_next f hl
              have hS2 := sum_take_le f ls (z + 1)
              have hS3 := HJ1.out
              rw [hS] at hS2
              have HS := Lib.hid hS
              have HD1 := Lib.hid d1
              have HD3 := Lib.hid d3
              have hyi : I64 ((flip p l : Nat) : Int) := posB_i64 d2
              generalize ((ls.take z).map f).sum = T at *
              generalize f l = j at *
              generalize flip p l = q at *
              have hWT : IntKind.i64.wrap ((T : Int) + (j : Int)) = ((T + j : Nat) : Int) := by rw [IntKind.wrap_i64]; omega
              have HX := Lib.hid ((Below.refl wr.heap.size wr).drew)
              clear hl hS hS2 hS3 d1 d2 d3
              go_upto_region 24 with fail
              go_region_with (first
                | (go_at_call 64; refine (sDoJump_onC ⟨x, y, s⟩ l p hpi q HD1.out _).mono ?_; rintro e wD ⟨kk, rfl, hbD⟩; have hrD := below_next HX.out hbD; have BXD := Lib.hid (BXr.out.next hrD); clear hbD c0 c1 c2 c3 c4; obtain ⟨c0, c1, c2, c3, c4⟩ := BXD.out.cells))
              all_goals
                go_wp2_with fail
                refine (isI_ (iCountGames_ ⟨x, y, s⟩ q g hyi hgi _) HD3.out).mono ?_
                rintro e wE ⟨rfl, hbE⟩
                have hwE := below_next (below_next hwr hrD) hbE
                clear hbE
                go_wp2
                go_roundw
                case rel => exact ⟨z + 1, by go_num, by omega, by rw [HS.out]; go_num, hwE⟩
                case measure => simp [intOf]; omega
            · have hzn : z = nl := by omega
              subst hzn
              have hT0 : ((ls.take z).map f).sum = (ls.map f).sum := by rw [← HNL.out, List.take_length]
              have HJ4 := Lib.hid HJ2.out
              rw [← hT0] at HJ4
              obtain ⟨T, hT⟩ : ∃ T, ((ls.take z).map f).sum = T := ⟨_, rfl⟩
              rw [hT] at HJ4 ⊢
              have RGr := Lib.hid (RG10.out.next hwr)
              have RFr := Lib.hid (RF10.out.next hwr)
              have RWr := Lib.hid (RW10.out.next hwr)
              have hwR := below_next hw10 hwr
              clear hT hT0 hlt
              have hun' : (u : Int) ≤ (n : Int) := by omega
              go_wp2_with fail
              refine (sol_on ⟨x, y, s⟩ p g hpi js m HNJ.out _ _ (by omega) true HA4.out _ RGr.out).mono ?_
              rintro e wA ⟨rfl, hbA⟩
              have BXA := Lib.hid (BXr.out.next hbA)
              have RGA := Lib.hid (RGr.out.next hbA)
              have RFA := Lib.hid (RFr.out.next hbA)
              have RWA := Lib.hid (RWr.out.next hbA)
              have hwA := below_next hwR hbA
              clear hbA c0 c1 c2 c3 c4
              obtain ⟨c0, c1, c2, c3, c4⟩ := BXA.out.cells
              go_wp2_with fail
              refine (idx_on_ ⟨x, y, s⟩ p g hpi hgi js m HNJ.out _ _ (by omega) i HA5.out _ RGA.out).mono ?_
              rintro e wB ⟨rfl, hbB⟩
              have BXB := Lib.hid (BXA.out.next hbB)
              have RFB := Lib.hid (RFA.out.next hbB)
              have RWB := Lib.hid (RWA.out.next hbB)
              have hwB := below_next hwA hbB
              clear hbB c0 c1 c2 c3 c4
              obtain ⟨c0, c1, c2, c3, c4⟩ := BXB.out.cells
              go_wp2_with fail
              refine (same_on w0 _ _ m0 _ _ _ HM0.out (by omega) RFB.out RWB.out).mono ?_
              rintro e wC ⟨rfl, hbC⟩
              have BXC := Lib.hid (BXB.out.next hbC)
              have hwC := below_next hwB hbC
              clear hbC c0 c1 c2 c3 c4
              obtain ⟨c0, c1, c2, c3, c4⟩ := BXC.out.cells
              go_wp2_with fail
              refine (btoi_ ub u HUB.out _).mono ?_
              rintro e wD ⟨kb, hkb, hku, rfl, rfl⟩
              have hku' : (kb : Int) ≤ (u : Int) := by omega
              by_cases hpg : p = g
              · have hpd : ((p : Int) == (g : Int)) = true := by simp; omega
                clear hpg
                go_wp2_with fail
                refine (isI_ (iCountAllGames_ ⟨x, y, s⟩ p hpi _) HCA.out).mono ?_
                rintro e wE ⟨rfl, hbE⟩
                have hca2 : (1 : Int) ≤ (ca : Int) := by omega
                have hwE := below_next hwC hbE
                clear hbE
                go_wp2
                go_ret
                exact ⟨rfl, hwE⟩
              · have hTn := HJ4.out hpg
                have hpd : ((p : Int) == (g : Int)) = false := by simp; omega
                subst hTn
                clear hpg
                go_wp2_with fail
                refine (isI_ (iCountAllGames_ ⟨x, y, s⟩ p hpi _) HCA.out).mono ?_
                rintro e wE ⟨rfl, hbE⟩
                have hca2 : (1 : Int) ≤ (ca : Int) := by omega
                have hwE := below_next hwC hbE
                clear hbE
                go_wp2
                go_ret
                exact ⟨rfl, hwE⟩
end Go.Proofs.Ytbcgokpamhgabaa

/- The walk of the law FnStuck. -/
import Derived.Test.YtbcgokpamhgabaaChecked
import Derived.Test.YtbcgokpamhgabaaMem
import Derived.Tactics
import Derived.Tactics2
import Derived.WalkKit
import Derived.WalkSpells
import Derived.WalkLawsBesides
import Derived.Deep.QuietTactic
import Derived.BigQuiet
import Derived.BigGuardPart
import Derived.Lib.QuietBelow
import Derived.OwnWalk
import Derived.KernelRfl
import Derived.Test.YtbcgokpamhgabaaOpenC
import Derived.Test.YtbcgokpamhgabaaDrawJ
import Derived.Test.YtbcgokpamhgabaaStuckP
import Derived.Test.YtbcgokpamhgabaaHas
import Derived.Test.YtbcgokpamhgabaaJumpsL
import Derived.Test.YtbcgokpamhgabaaSmall
import Derived.Test.YtbcgokpamhgabaaGameB
set_option linter.unusedVariables false
set_option maxRecDepth 100000
namespace Go.Proofs.Ytbcgokpamhgabaa
open Go.RowKit Go.Sort

theorem iRect31_ (W : World) : Calls Try.prog 56 #[.int .i64 3, .int .i64 1] W fun e W' => e = .returned (.agg #[.int .i64 3, .int .i64 1, .int .i64 7]) ∧ Below W.heap.size W W' := by
  have h := iRectangle_ 3 1 (by omega) (by omega) (by omega) (by omega) W
  exact h
theorem iCount31_ (W : World) : Calls Try.prog 66 #[.agg #[.int .i64 3, .int .i64 1, .int .i64 7]] W fun e W' => e = .returned (.int .i64 6) ∧ Below W.heap.size W W' := by
  have h := iCountStuck_ ⟨3, 1, 7⟩ W
  rw [count_three] at h
  exact h
theorem sDoJump_on (b l : Ln) (p : Int) (hp : I64 p) (r : Int) (h : doP b p l = r) (W : World) :
    Calls Try.prog 64 #[.agg #[.int .i64 b.f, .int .i64 b.o, .int .i64 b.t], .int .i64 p, .agg #[.int .i64 l.f, .int .i64 l.o, .int .i64 l.t]] W fun e w' => ∃ k : Bool, e = .returned (.tuple #[.int .i64 r, .bool k]) ∧ Below W.heap.size W w' := by
  subst h
  exact (sDoJump_ b l p hp W).mono fun e w' h => ⟨_, h.1, h.2⟩

theorem at_line (xs : List UInt8) (A : Option Addr) (c k : Nat) (w : World) (rd : Rd w w.heap.size A (bts xs)) (hm1 : xs.length ≤ 1048576) (hk : k ≤ 1048576) (js : List Ln) (nj gb off : Nat) (hnj : js.length = nj) (hj1 : 0 < nj) (rdj : Rd w w.heap.size (some ⟨gb, off, none⟩) (flat js)) :
    Calls Try.prog 16 #[.slice A xs.length c, .int .i64 k] w fun e w' => ∃ (v r : Nat) (l : Ln), (v : Int) ≤ 255 ∧ v % nj = r ∧ (v : Int) % (nj : Int) = (r : Int) ∧ (v : Int).tmod (nj : Int) = (r : Int) ∧ r < nj ∧ l ∈ js ∧ w.cell? ⟨gb, off + r * 3, none⟩ = some (.int .i64 l.f) ∧ w.cell? ⟨gb, off + r * 3 + 1, none⟩ = some (.int .i64 l.o) ∧ w.cell? ⟨gb, off + r * 3 + 2, none⟩ = some (.int .i64 l.t) ∧ e = .returned (.int .i64 v) ∧ w = w' := by
  refine (at_ xs A c k w rd hm1 hk).mono ?_
  rintro e wV ⟨v, hv, rfl, rfl⟩
  have hrl : v % nj < nj := Nat.mod_lt _ hj1
  obtain ⟨g', o', l, hA', -, hl, l0, l1, l2⟩ := rdj.line (k := v % nj) (by rw [hnj]; exact hrl)
  obtain ⟨rfl, rfl⟩ : gb = g' ∧ off = o' := by simpa using hA'
  exact ⟨v, v % nj, l, by omega, rfl, by simp, rfl, hrl, List.mem_of_getElem? hl, l0, l1, l2, rfl, rfl⟩
set_option maxHeartbeats 4000000 in
theorem fnStuck_walk (xs : List UInt8) (A : Option Addr) (c : Nat) (w : World) (rd : Rd w w.heap.size A (bts xs)) (hm : xs.length ≤ 9223372036854775807) :
    Calls Try.prog 8 #[.slice A xs.length c] w fun e w' => e = .returned (.bool true) ∧ Below w.heap.size w w' := by
  by_cases hbig : (1048576 : Int) < (xs.length : Int)
  · go_enter Try.func8, Try.ntmps8
    go_wp2_with (go_at_call 12; refine (big_ _ _ _ _).mono ?_; rintro e w1 ⟨rfl, rfl⟩)
    go_ret
    exact ⟨rfl, Below.refl _ _⟩
  · have hm1 : xs.length ≤ 1048576 := by omega
    have hm2 : (xs.length : Int) ≤ 1048576 := by omega
    have RC := Lib.hid rd
    clear rd hm
    go_enter Try.func8, Try.ntmps8
    go_wp2_with (go_at_call 12; refine (big_ _ _ _ _).mono ?_; rintro e w1 ⟨rfl, rfl⟩)
    refine (drawStart_ xs A c _ RC.out hm1).mono ?_
    rintro e w1 ⟨x, y, s, p, hbd, h16, hP, rfl, hw1⟩
    have hpi : I64 (p : Int) := posB_i64 hP
    have HBD := Lib.hid hbd
    have HP := Lib.hid hP
    have H16 := Lib.hid h16
    have HFM := Lib.hid (few_most hbd h16 hP)
    have HSZ := Lib.hid (short_zero hbd h16 hP)
    have HMG := Lib.hid (most_ge hbd h16 hP)
    have HMEM := Lib.hid (stuck_mem hbd h16 hP)
    have HSM := Lib.hid (stuck_some hbd h16 hP)
    have hp16 := pop16 hbd h16 hP
    have HPG : Hid (pegsB ⟨x, y, s⟩ p = (popc p : Nat)) := Lib.hid (by rw [pegsB, if_pos hP, Int.toNat_natCast])
    obtain ⟨f, hf⟩ : ∃ f : Nat, fewR ⟨x, y, s⟩ p = f := ⟨(fewR ⟨x, y, s⟩ p).toNat, by have := HFM.out.1; omega⟩
    obtain ⟨m, hmm⟩ : ∃ m : Nat, mostR ⟨x, y, s⟩ p = m := ⟨(mostR ⟨x, y, s⟩ p).toNat, by have := HFM.out; omega⟩
    have HSH : Hid (shortR ⟨x, y, s⟩ p = ((popc p - m : Nat) : Int)) := Lib.hid (by have := HFM.out.2.2; rw [shortR, hmm, if_neg (by omega), Int.toNat_natCast]; omega)
    have HLO : Hid (longR ⟨x, y, s⟩ p = ((popc p - f : Nat) : Int)) := Lib.hid (by have := HFM.out; rw [longR, hf, if_neg (by omega), Int.toNat_natCast]; omega)
    have HST : Hid (stuckB ⟨x, y, s⟩ p = (((popc p - m : Nat) : Int) == 0)) := Lib.hid (by rw [← HSZ.out, hmm]; have := HFM.out.2.2; rw [Bool.eq_iff_iff]; simp; omega)
    have HFF := Lib.hid hf
    have HMM := Lib.hid hmm
    have hfm : f ≤ m := by have := HFM.out; omega
    have hmp : m ≤ popc p := by have := HFM.out; omega
    have hMG : Hid (∀ z : Nat, Leads (linesL ⟨x, y, s⟩) p z → stuckL (linesL ⟨x, y, s⟩) z = true → popc z ≤ m) := Lib.hid fun z h1 h2 => by have := HMG.out z h1 h2; omega
    have HPP : Hid (popc p = popc p) := Lib.hid rfl
    obtain ⟨n0, hn0⟩ : ∃ n0, popc p = n0 := ⟨_, rfl⟩
    have HN0 := Lib.hid hn0
    rw [hn0] at HPG HSH HLO HST hmp hp16
    obtain ⟨sh, hsh⟩ : ∃ sh, n0 - m = sh := ⟨_, rfl⟩
    obtain ⟨lo, hlo⟩ : ∃ lo, n0 - f = lo := ⟨_, rfl⟩
    rw [hsh] at HSH HST
    rw [hlo] at HLO
    have HW1 : Hid (IntKind.i64.wrap ((n0 : Int) - (m : Int)) = (sh : Int)) := Lib.hid (by rw [IntKind.wrap_i64]; omega)
    have HW2 : Hid (IntKind.i64.wrap ((n0 : Int) - (f : Int)) = (lo : Int)) := Lib.hid (by rw [IntKind.wrap_i64]; omega)
    have HD1 : Hid (decide ((lo : Int) < (sh : Int)) = false) := Lib.hid (by simp; omega)
    have HD3 : Hid (decide (lo < sh) = false) := Lib.hid (by simp; omega)
    obtain ⟨L, hL⟩ : ∃ L, stuckR ⟨x, y, s⟩ p = L := ⟨_, rfl⟩
    have hL0 : L.length ≤ 65536 := by rw [← hL]; exact stuckR_le _ _
    rw [hL] at HMEM HSM
    have HL := Lib.hid hL
    obtain ⟨nL, hnL⟩ : ∃ nL, L.length = nL := ⟨_, rfl⟩
    have HNL := Lib.hid hnL
    have hnL0 : 0 < nL := by
      have := HSM.out
      cases L with
      | nil => exact absurd rfl this
      | cons a L => simp at hnL; omega
    rw [hnL] at hL0
    have HD2 : Hid (decide ((nL : Int) = 0) = false) := Lib.hid (by simp; omega)
    have BX1 := Lib.hid (box_new 42 w1 x y s)
    have hw2 := hw1.alloc hw1.size (.cells #[.int .i64 x, .int .i64 y, .int .i64 s] 42)
    clear hbd h16 hP hf hmm hn0 hsh hlo hL hnL hw1 HSM HMG HSZ HFM HPP
    go_upto_region 4 with fail
    generalize w1.alloc (.cells #[.int .i64 x, .int .i64 y, .int .i64 s] 42) = u1 at *
    generalize w1.heap.size = B at *
    obtain ⟨c0, c1, c2⟩ := BX1.out.cells
    go_wp2_with fail
    refine (iStuckOf_ ⟨x, y, s⟩ p hpi _).mono ?_
    rintro e w2 ⟨AS, cS, rfl, own2, hb2⟩
    rw [HL.out, HNL.out] at own2 ⊢
    have RS2 := Lib.hid (rd_of_own own2)
    have BX2 := Lib.hid (BX1.out.next hb2)
    have hw2 := below_next hw2 hb2
    clear hb2 own2 c0 c1 c2 BX1
    obtain ⟨c0, c1, c2⟩ := BX2.out.cells
    go_wp2_with fail
    refine (isI_ (iMostLeft_ ⟨x, y, s⟩ p hpi _) HMM.out).mono ?_
    rintro e w3 ⟨rfl, hb3⟩
    have RS3 := Lib.hid (RS2.out.next hb3)
    have BX3 := Lib.hid (BX2.out.next hb3)
    have hw3 := below_next hw2 hb3
    clear hb3 c0 c1 c2 RS2 BX2
    obtain ⟨c0, c1, c2⟩ := BX3.out.cells
    go_wp2_with fail
    refine (isI_ (iShortestGame_ ⟨x, y, s⟩ p hpi _) HSH.out).mono ?_
    rintro e w4 ⟨rfl, hb4⟩
    have RS4 := Lib.hid (RS3.out.next hb4)
    have BX4 := Lib.hid (BX3.out.next hb4)
    have hw4 := below_next hw3 hb4
    clear hb4 c0 c1 c2 RS3 BX3
    obtain ⟨c0, c1, c2⟩ := BX4.out.cells
    go_wp2_with fail
    refine (isI_ (iLongestGame_ ⟨x, y, s⟩ p hpi _) HLO.out).mono ?_
    rintro e w5 ⟨rfl, hb5⟩
    have RS5 := Lib.hid (RS4.out.next hb5)
    have BX5 := Lib.hid (BX4.out.next hb5)
    have hw5 := below_next hw4 hb5
    clear hb5 c0 c1 c2 RS4 BX4
    obtain ⟨c0, c1, c2⟩ := BX5.out.cells
    go_wp2_with fail
    refine (isI_ (sCountPegs_ ⟨x, y, s⟩ p hpi _) HPG.out).mono ?_
    rintro e w6 ⟨rfl, hb6⟩
    have RS6 := Lib.hid (RS5.out.next hb6)
    have BX6 := Lib.hid (BX5.out.next hb6)
    have hw6 := below_next hw5 hb6
    clear hb6 c0 c1 c2 RS5 BX5
    obtain ⟨c0, c1, c2⟩ := BX6.out.cells
    have hW1 := HW1.out
    have hD2 := HD2.out
    go_wp2_with fail
    refine (isI_ (sFewestLeft_ ⟨x, y, s⟩ p hpi _) HFF.out).mono ?_
    rintro e w7 ⟨rfl, hb7⟩
    have RS7 := Lib.hid (RS6.out.next hb7)
    have BX7 := Lib.hid (BX6.out.next hb7)
    have hw7 := below_next hw6 hb7
    clear hb7 c0 c1 c2 RS6 BX6
    obtain ⟨c0, c1, c2⟩ := BX7.out.cells
    have hW2 := HW2.out
    have hD1 := HD1.out
    have hD3 := HD3.out
    go_wp2_with fail
    refine (is_ (iIsStuck_ ⟨x, y, s⟩ p hpi _) HST.out).mono ?_
    rintro e w8 ⟨rfl, hb8⟩
    have RS8 := Lib.hid (RS7.out.next hb8)
    have BX8 := Lib.hid (BX7.out.next hb8)
    have hw8 := below_next hw7 hb8
    clear hb8 c0 c1 c2 RS7 BX7 hW1 hW2 hD1 hD2 hD3
    go_wp2_with fail
    go_loopw [10, 11] (fun qv kv wr => ∃ (q k : Nat), qv = .int .i64 q ∧ kv = .int .i64 k ∧ k ≤ 16 ∧ Leads (linesL ⟨x, y, s⟩) p q ∧ popc q + k = n0 ∧ posB ⟨x, y, s⟩ q = true ∧ Below w8.heap.size w8 wr) (fun _ kv _ => 16 - (intOf kv).toNat)
    case atStart => exact ⟨p, 0, rfl, rfl, by omega, .refl p, by have := HN0.out; omega, HP.out, Below.refl _ _⟩
    case round =>
      obtain ⟨q, k, rfl, rfl, hk, hld, hpop, hQ, hwr⟩ := hrel
      have hqi : I64 (q : Int) := posB_i64 hQ
      have RSr := Lib.hid (RS8.out.next hwr)
      have BXr := Lib.hid (BX8.out.next hwr)
      have hwc := below_next hw8 hwr
      have HLD := Lib.hid hld
      have HQ := Lib.hid hQ
      have HPOP := Lib.hid hpop
      clear hld hQ hpop
      obtain ⟨c0, c1, c2⟩ := BXr.out.cells
      by_cases hlt : k < 16
      · go_wp2_with fail
        refine (sJumpsOfL_ ⟨x, y, s⟩ q hqi _).mono ?_
        rintro e w9 ⟨AJ, cJ, rfl, rd9, hb9, -⟩
        have RJ9 := Lib.hid rd9
        have RS9 := Lib.hid (RSr.out.next hb9)
        have BX9 := Lib.hid (BXr.out.next hb9)
        have hw9 := below_next hwc hb9
        have hwr9 := below_next hwr hb9
        obtain ⟨js, hjs⟩ : ∃ js, jumpsL ⟨x, y, s⟩ q = js := ⟨_, rfl⟩
        rw [hjs] at RJ9 ⊢
        have HJS := Lib.hid hjs
        obtain ⟨nj, hnj⟩ : ∃ nj, js.length = nj := ⟨_, rfl⟩
        have HNJ := Lib.hid hnj
        rw [hnj]
        clear rd9 hb9 hjs hnj c0 c1 c2 RSr BXr
        obtain ⟨c0, c1, c2⟩ := BX9.out.cells
        by_cases h0 : nj = 0
        · subst h0
          have HSQ : Hid (stuckL (linesL ⟨x, y, s⟩) q = true) := Lib.hid (by rw [stuck_jumps HQ.out, HJS.out, HNJ.out]; rfl)
          go_wp2_with fail
          refine (iRect31_ _).mono ?_
          rintro e wA ⟨rfl, hbA⟩
          have HSB := Lib.hid (stuckB_of HQ.out HSQ.out)
          have HLQ := Lib.hid ((HMEM.out q).2 ⟨HLD.out, HSQ.out⟩)
          have HPQ : Hid (pegsB ⟨x, y, s⟩ q = (popc q : Nat)) := Lib.hid (by rw [pegsB, if_pos HQ.out, Int.toNat_natCast])
          have hzm := hMG.out q HLD.out HSQ.out
          have RSB := Lib.hid ((RS9.out.next hbA).laid (.cells #[.int .i64 3, .int .i64 1, .int .i64 7] 42))
          have BXB := Lib.hid ((BX9.out.next hbA).alloc (.cells #[.int .i64 3, .int .i64 1, .int .i64 7] 42))
          have BRB := Lib.hid (box_new 42 wA 3 1 7)
          have hwA := below_next hw9 hbA
          have hwB := hwA.alloc hwA.size (.cells #[.int .i64 3, .int .i64 1, .int .i64 7] 42)
          clear hbA c0 c1 c2 hwA
          go_upto_region 19 with fail
          generalize wA.alloc (.cells #[.int .i64 3, .int .i64 1, .int .i64 7] 42) = wB at *
          generalize wA.heap.size = R at *
          obtain ⟨c0, c1, c2⟩ := BXB.out.cells
          obtain ⟨d0, d1, d2⟩ := BRB.out.cells
          generalize popc q = z at hzm HPQ
          have hzm' : (z : Int) ≤ (m : Int) := by omega
          go_wp2_with fail
          refine (has_ L nL HNL.out AS cS q HLQ.out (by omega) _ RSB.out).mono ?_
          rintro e wC ⟨rfl, rfl⟩
          go_wp2_with fail
          refine (is_ (iIsStuck_ ⟨x, y, s⟩ q hqi _) HSB.out).mono ?_
          rintro e wD ⟨rfl, hbD⟩
          have BXD := Lib.hid (BXB.out.next hbD)
          have BRD := Lib.hid (BRB.out.next hbD)
          have hwD := below_next hwB hbD
          clear hbD c0 c1 c2 d0 d1 d2
          obtain ⟨c0, c1, c2⟩ := BXD.out.cells
          obtain ⟨d0, d1, d2⟩ := BRD.out.cells
          go_wp2_with fail
          refine (isI_ (sCountPegs_ ⟨x, y, s⟩ q hqi _) HPQ.out).mono ?_
          rintro e wE ⟨rfl, hbE⟩
          have BRE := Lib.hid (BRD.out.next hbE)
          have hwE := below_next hwD hbE
          clear hbE c0 c1 c2 d0 d1 d2
          obtain ⟨d0, d1, d2⟩ := BRE.out.cells
          go_wp2_with fail
          refine (iCount31_ _).mono ?_
          rintro e wF ⟨rfl, hbF⟩
          have hwF := below_next hwE hbF
          clear hbF
          go_wp2
          go_ret
          exact ⟨rfl, hwF⟩
        · have hd0 : decide ((nj : Int) = 0) = false := by simp; omega
          have hj1 : 0 < nj := by omega
          have hj2 : (0 : Int) < (nj : Int) := by omega
          have hj3 : ¬ (nj : Int) = 0 := by omega
          have hj4 : (nj : Int) ≤ 196 := by have := jumpsL_le ⟨x, y, s⟩ q; rw [HJS.out, HNJ.out] at this; omega
          obtain ⟨gb, off, l0, hA, hgb, -, -, -, -⟩ := RJ9.out.line (k := 0) (by rw [HNJ.out]; omega)
          subst hA
          have HC9 := Lib.hid ((RC.out.below hw9).more hw9.size)
          have HX := Lib.hid ((Below.refl w9.heap.size w9).drew)
          have hk' : (k : Int) < 16 := by omega
          go_upto_region 17 with fail
          go_region_with (first
            | (go_at_call 16; refine (at_line xs A c k _ (HC9.out.next HX.out) hm1 (by omega) js nj gb off HNJ.out hj1 (RJ9.out.next HX.out)).mono ?_; rintro e wV ⟨v, r, l, hv', hmod2, hmod, htm, hrl, hlj, l0, l1, l2, rfl, rfl⟩; have hrl' : (r : Int) < (nj : Int) := (by omega); have hr0 : (0 : Int) ≤ (r : Int) := (by omega); have hr9 : (r : Int) ≤ 196 := (by omega); have HJ := Lib.hid (jump_on HBD.out HQ.out (l := l) (by rw [HJS.out]; exact hlj) HLD.out); clear hlj)
            | (go_at_call 64; refine (sDoJump_on ⟨x, y, s⟩ l q hqi (flip q l : Nat) HJ.out.1 _).mono ?_; rintro e wD ⟨kk, rfl, hbD⟩; have hwD := below_next (below_next hwr9 HX.out) hbD))
          all_goals
            go_wp2
            go_roundw
            case rel => exact ⟨flip q l, k + 1, rfl, by go_num, by omega, HJ.out.2.1, by have := HPOP.out; have := HJ.out.2.2.1; omega, HJ.out.2.2.2, hwD⟩
            case measure => simp [intOf]; omega
      · have HSQ : Hid (stuckL (linesL ⟨x, y, s⟩) q = true) := Lib.hid (none_stuck HBD.out (by have := HPOP.out; omega))
        have RS9 := RSr
        have BX9 := BXr
        have hw9 := hwc
        go_wp2_with fail
        refine (iRect31_ _).mono ?_
        rintro e wA ⟨rfl, hbA⟩
        have HSB := Lib.hid (stuckB_of HQ.out HSQ.out)
        have HLQ := Lib.hid ((HMEM.out q).2 ⟨HLD.out, HSQ.out⟩)
        have HPQ : Hid (pegsB ⟨x, y, s⟩ q = (popc q : Nat)) := Lib.hid (by rw [pegsB, if_pos HQ.out, Int.toNat_natCast])
        have hzm := hMG.out q HLD.out HSQ.out
        have RSB := Lib.hid ((RS9.out.next hbA).laid (.cells #[.int .i64 3, .int .i64 1, .int .i64 7] 42))
        have BXB := Lib.hid ((BX9.out.next hbA).alloc (.cells #[.int .i64 3, .int .i64 1, .int .i64 7] 42))
        have BRB := Lib.hid (box_new 42 wA 3 1 7)
        have hwA := below_next hw9 hbA
        have hwB := hwA.alloc hwA.size (.cells #[.int .i64 3, .int .i64 1, .int .i64 7] 42)
        clear hbA c0 c1 c2 hwA
        go_upto_region 19 with fail
        generalize wA.alloc (.cells #[.int .i64 3, .int .i64 1, .int .i64 7] 42) = wB at *
        generalize wA.heap.size = R at *
        obtain ⟨c0, c1, c2⟩ := BXB.out.cells
        obtain ⟨d0, d1, d2⟩ := BRB.out.cells
        generalize popc q = z at hzm HPQ
        have hzm' : (z : Int) ≤ (m : Int) := by omega
        go_wp2_with fail
        refine (has_ L nL HNL.out AS cS q HLQ.out (by omega) _ RSB.out).mono ?_
        rintro e wC ⟨rfl, rfl⟩
        go_wp2_with fail
        refine (is_ (iIsStuck_ ⟨x, y, s⟩ q hqi _) HSB.out).mono ?_
        rintro e wD ⟨rfl, hbD⟩
        have BXD := Lib.hid (BXB.out.next hbD)
        have BRD := Lib.hid (BRB.out.next hbD)
        have hwD := below_next hwB hbD
        clear hbD c0 c1 c2 d0 d1 d2
        obtain ⟨c0, c1, c2⟩ := BXD.out.cells
        obtain ⟨d0, d1, d2⟩ := BRD.out.cells
        go_wp2_with fail
        refine (isI_ (sCountPegs_ ⟨x, y, s⟩ q hqi _) HPQ.out).mono ?_
        rintro e wE ⟨rfl, hbE⟩
        have BRE := Lib.hid (BRD.out.next hbE)
        have hwE := below_next hwD hbE
        clear hbE c0 c1 c2 d0 d1 d2
        obtain ⟨d0, d1, d2⟩ := BRE.out.cells
        go_wp2_with fail
        refine (iCount31_ _).mono ?_
        rintro e wF ⟨rfl, hbF⟩
        have hwF := below_next hwE hbF
        clear hbF
        go_wp2
        go_ret
        exact ⟨rfl, hwF⟩
end Go.Proofs.Ytbcgokpamhgabaa

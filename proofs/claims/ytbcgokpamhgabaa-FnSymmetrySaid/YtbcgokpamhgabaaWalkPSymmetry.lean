/- The walk of the law FnSymmetry. -/
import Derived.Test.YtbcgokpamhgabaaChecked
import Derived.Test.YtbcgokpamhgabaaMem
import Derived.Tactics
import Derived.Tactics2
import Derived.WalkKit
import Derived.WalkSpells
import Derived.WalkLawsBesides
import Derived.Deep.QuietTactic
import Derived.BigQuiet
import Derived.BigGuardPart
import Derived.Lib.QuietBelow
import Derived.OwnWalk
import Derived.KernelRfl
import Derived.Test.YtbcgokpamhgabaaOpenC
import Derived.Test.YtbcgokpamhgabaaDrawK
import Derived.Test.YtbcgokpamhgabaaSymmQ
import Derived.Test.YtbcgokpamhgabaaSymB
import Derived.Test.YtbcgokpamhgabaaLeast
import Derived.Test.YtbcgokpamhgabaaPegs
import Derived.Test.YtbcgokpamhgabaaJumpsL
set_option linter.unusedVariables false
set_option maxRecDepth 100000
namespace Go.Proofs.Ytbcgokpamhgabaa
open Go.RowKit Go.Sort

theorem rd_drewN {w : World} {B : Nat} {A : Option Addr} {xs : List Value} (h : Rd w B A xs) (n : Nat) : Rd (w.drewN n) B A xs := h
theorem at_int (xs : List UInt8) (A : Option Addr) (c : Nat) (i : Int) (h0 : 0 ≤ i) (h1 : i ≤ 1048576) (w : World) (rd : Rd w w.heap.size A (bts xs)) (hm : xs.length ≤ 1048576) :
    Calls Try.prog 16 #[.slice A xs.length c, .int .i64 i] w (GivesByte w) := by
  obtain ⟨k, rfl⟩ : ∃ k : Nat, i = k := ⟨i.toNat, by omega⟩
  exact at_ xs A c k w rd hm (by omega)
/-- The byte that at reads. -/
def byteA (xs : List UInt8) (i : Nat) : Nat := if xs.length = 0 then 0 else (xs.getD ((i * 5 + 1) % xs.length) 0).toNat
theorem byteA_le (xs : List UInt8) (i : Nat) : byteA xs i ≤ 255 := by
  unfold byteA
  split
  · omega
  · have := (xs.getD ((i * 5 + 1) % xs.length) 0).toNat_lt
    omega
theorem atN (xs : List UInt8) (A : Option Addr) (c : Nat) (i : Int) (h0 : 0 ≤ i) (h1 : i ≤ 1048576) (v : Nat) (hv : byteA xs i.toNat = v) (w : World) (rd : Rd w w.heap.size A (bts xs)) (hm : xs.length ≤ 1048576) :
    Calls Try.prog 16 #[.slice A xs.length c, .int .i64 i] w fun e w' => e = .returned (.int .i64 v) ∧ w = w' := by
  obtain ⟨i, rfl⟩ : ∃ k : Nat, i = k := ⟨i.toNat, by omega⟩
  rw [Int.toNat_natCast] at hv
  have hi' : (i : Int) ≤ 1048576 := h1
  by_cases hl0 : xs.length = 0
  · have h0' : (xs.length : Int) = 0 := by omega
    have hv0 : v = 0 := by rw [← hv, byteA, if_pos hl0]
    subst hv0
    clear hv
    go_enter Try.func16, Try.ntmps16
    go_wp2
    go_ret
    exact ⟨rfl, rfl⟩
  · have h0' : ¬ (xs.length : Int) = 0 := by omega
    have hp : 0 < xs.length := by omega
    have hlt := Nat.mod_lt (i * 5 + 1) hp
    have e1 : ((i : Int) * 5 + 1) % (xs.length : Int) = (((i * 5 + 1) % xs.length : Nat) : Int) := by rw [Int.natCast_emod]; rfl
    rw [byteA, if_neg hl0] at hv
    generalize (i * 5 + 1) % xs.length = j at *
    have hx : xs[j]? = some xs[j] := List.getElem?_eq_getElem hlt
    have hxe : xs.getD j 0 = xs[j] := by rw [List.getD_eq_getElem?_getD, hx]; rfl
    rw [hxe] at hv
    clear hxe
    generalize hxe : xs[j] = x at hx hv
    subst hv
    obtain ⟨g, off, rfl, hg, hc⟩ := rd (by rw [bts_length]; omega)
    have d0 : w.cell? ⟨g, off + j, none⟩ = some (.int .u8 (x.toNat : Int)) := hc j _ (by simp [bts, hx])
    have hx8 : x.toNat ≤ 255 := by have := x.toNat_lt; omega
    have hx9 : (x.toNat : Int) ≤ 255 := by omega
    have g1 : (j : Int) < (xs.length : Int) := by omega
    have g0 : (0 : Int) ≤ (j : Int) := by omega
    have gp : (0 : Int) < (xs.length : Int) := by omega
    clear hc hxe hx rd
    go_enter Try.func16, Try.ntmps16
    go_wp2
    go_ret
    exact ⟨rfl, rfl⟩
theorem turnB3 (f o t : Int) (c : Ln) (h : turnBoard ⟨f, o, t⟩ = c) (w : World) : Calls Try.prog 30 #[.agg #[.int .i64 f, .int .i64 o, .int .i64 t]] w fun e w' => e = .returned (.agg #[.int .i64 c.f, .int .i64 c.o, .int .i64 c.t]) ∧ Below w.heap.size w w' := by
  subst h; exact iTurnBoard_ ⟨f, o, t⟩ w
theorem mirB3 (f o t : Int) (c : Ln) (h : mirBoard ⟨f, o, t⟩ = c) (w : World) : Calls Try.prog 31 #[.agg #[.int .i64 f, .int .i64 o, .int .i64 t]] w fun e w' => e = .returned (.agg #[.int .i64 c.f, .int .i64 c.o, .int .i64 c.t]) ∧ Below w.heap.size w w' := by
  subst h; exact iMirrorBoard_ ⟨f, o, t⟩ w
theorem turnP3 (f o t p : Int) (hp : I64 p) (r : Int) (h : turnPos ⟨f, o, t⟩ p = r) (w : World) : Calls Try.prog 32 #[.agg #[.int .i64 f, .int .i64 o, .int .i64 t], .int .i64 p] w fun e w' => e = .returned (.int .i64 r) ∧ Below w.heap.size w w' := by
  subst h; exact iTurnPosition_ ⟨f, o, t⟩ p hp w
theorem mirP3 (f o t p : Int) (hp : I64 p) (r : Int) (h : mirPos ⟨f, o, t⟩ p = r) (w : World) : Calls Try.prog 33 #[.agg #[.int .i64 f, .int .i64 o, .int .i64 t], .int .i64 p] w fun e w' => e = .returned (.int .i64 r) ∧ Below w.heap.size w w' := by
  subst h; exact iMirrorPosition_ ⟨f, o, t⟩ p hp w
theorem pegs3 (f o t p : Int) (hp : I64 p) (n : Int) (h : pegsB ⟨f, o, t⟩ p = n) (w : World) : Calls Try.prog 34 #[.agg #[.int .i64 f, .int .i64 o, .int .i64 t], .int .i64 p] w fun e w' => e = .returned (.int .i64 n) ∧ Below w.heap.size w w' := by
  subst h; exact sCountPegs_ ⟨f, o, t⟩ p hp w
theorem jumps3 (f o t p : Int) (hp : I64 p) (n : Nat) (h : (jumpsL ⟨f, o, t⟩ p).length = n) (w : World) : Calls Try.prog 35 #[.agg #[.int .i64 f, .int .i64 o, .int .i64 t], .int .i64 p] w fun e w' => ∃ (A : Option Addr) (c : Nat), e = .returned (.slice A n c) ∧ Below w.heap.size w w' := by
  subst h
  exact (sJumpsOfL_ ⟨f, o, t⟩ p hp w).mono fun e w' ⟨A, c, he, _, hb, _⟩ => ⟨A, c, he, hb⟩
theorem isT3 (f o t : Int) (k : Bool) (h : isTurnB ⟨f, o, t⟩ = k) (w : World) : Calls Try.prog 38 #[.agg #[.int .i64 f, .int .i64 o, .int .i64 t]] w fun e w' => e = .returned (.bool k) ∧ Below w.heap.size w w' := by
  subst h; exact iIsTurned_ ⟨f, o, t⟩ w
theorem isM3 (f o t : Int) (k : Bool) (h : isMirB ⟨f, o, t⟩ = k) (w : World) : Calls Try.prog 39 #[.agg #[.int .i64 f, .int .i64 o, .int .i64 t]] w fun e w' => e = .returned (.bool k) ∧ Below w.heap.size w w' := by
  subst h; exact iIsMirrored_ ⟨f, o, t⟩ w
theorem least3 (f o t p : Int) (hp : I64 p) (n : Int) (h : leastF ⟨f, o, t⟩ p = n) (w : World) : Calls Try.prog 37 #[.agg #[.int .i64 f, .int .i64 o, .int .i64 t], .int .i64 p] w fun e w' => e = .returned (.int .i64 n) ∧ Below w.heap.size w w' := by
  subst h; exact iLeastForm_ ⟨f, o, t⟩ p hp w
theorem eqL_self (a : Ln) : eqL a a = true := by simp [eqL]
set_option maxHeartbeats 4000000 in
theorem fnSymmetry_walk (xs : List UInt8) (A : Option Addr) (c : Nat) (w : World) (rd : Rd w w.heap.size A (bts xs)) (hm : xs.length ≤ 9223372036854775807) :
    Calls Try.prog 5 #[.slice A xs.length c] w fun e w' => e = .returned (.bool true) ∧ Below w.heap.size w w' := by
  by_cases hbig : (1048576 : Int) < (xs.length : Int)
  · go_enter Try.func5, Try.ntmps5
    go_wp2_with (go_at_call 12; refine (big_ _ _ _ _).mono ?_; rintro e w1 ⟨rfl, rfl⟩)
    go_ret
    exact ⟨rfl, Below.refl _ _⟩
  · have hm1 : xs.length ≤ 1048576 := by omega
    have hm2 : (xs.length : Int) ≤ 1048576 := by omega
    have RC := Lib.hid rd
    clear rd hm
    go_enter Try.func5, Try.ntmps5
    go_wp2_with (go_at_call 12; refine (big_ _ _ _ _).mono ?_; rintro e w1 ⟨rfl, rfl⟩)
    refine (drawPosition_ xs A c _ RC.out hm1).mono ?_
    rintro e w1 ⟨x, y, s, p, hbd, hP, rfl, hw1⟩
    have hpi : I64 (p : Int) := posB_i64 hP
    have HSQ := Lib.hid (fun k => seq_i64 hbd hP k)
    have HS4 := Lib.hid (seq_four hbd hP)
    obtain ⟨t, m, q, r, n0, nj, eb, h1, h2, h3, h4, h5, h6, h7, h8, h9, h10, h11, h12, h13, h14, h15⟩ := symm_law hbd hP
    have hqi : I64 (q : Int) := posB_i64 h5
    have hri : I64 (r : Int) := posB_i64 h6
    have HTB := Lib.hid h1
    have HMB := Lib.hid h2
    have HTP := Lib.hid h3
    have HMP := Lib.hid h4
    have HMM := Lib.hid h7
    have HMN := Lib.hid h8
    have HPB : Hid (pegsB ⟨x, y, s⟩ p = (n0 : Int)) := Lib.hid (by rw [pegsB, if_pos hP, Int.toNat_natCast, h9])
    have HPT : Hid (pegsB ⟨y, x, t⟩ q = (n0 : Int)) := Lib.hid (by rw [pegsB, if_pos h5, Int.toNat_natCast, h10])
    have HJB := Lib.hid h11
    have HJT := Lib.hid h12
    have HJM := Lib.hid h13
    have HIT := Lib.hid h14
    have HEB := Lib.hid h15
    have BX1 := Lib.hid (box_new 42 w1 x y s)
    have hw1' := hw1.alloc hw1.size (.cells #[.int .i64 x, .int .i64 y, .int .i64 s] 42)
    have hB0 : w.heap.size ≤ w1.heap.size := hw1.size
    clear hbd hP h1 h2 h3 h4 h5 h6 h7 h8 h9 h10 h11 h12 h13 h14 h15 hw1
    go_upto_region 4 with fail
    generalize w1.alloc (.cells #[.int .i64 x, .int .i64 y, .int .i64 s] 42) = v1 at *
    generalize w1.heap.size = B at *
    obtain ⟨c0, c1, c2⟩ := BX1.out.cells
    go_wp2_with fail
    refine (turnB3 x y s ⟨y, x, t⟩ HTB.out _).mono ?_
    rintro e w2 ⟨rfl, hb2⟩
    have BX2 := Lib.hid ((BX1.out.next hb2).alloc (.cells #[.int .i64 y, .int .i64 x, .int .i64 t] 42))
    have TX2 := Lib.hid (box_new 42 w2 y x t)
    have hw2 := below_next hw1' hb2
    have hw2' := hw2.alloc hw2.size (.cells #[.int .i64 y, .int .i64 x, .int .i64 t] 42)
    have hBT : B < w2.heap.size := by have := BX1.out.lt; have := hb2.size; omega
    clear hb2 hw2 hw1' c0 c1 c2 BX1
    go_upto_region 5 with fail
    generalize w2.alloc (.cells #[.int .i64 y, .int .i64 x, .int .i64 t] 42) = v2 at *
    generalize w2.heap.size = TB at *
    obtain ⟨c0, c1, c2⟩ := BX2.out.cells
    go_wp2_with fail
    refine (mirB3 x y s ⟨x, y, m⟩ HMB.out _).mono ?_
    rintro e w3 ⟨rfl, hb3⟩
    have BX3 := Lib.hid ((BX2.out.next hb3).alloc (.cells #[.int .i64 x, .int .i64 y, .int .i64 m] 42))
    have TX3 := Lib.hid ((TX2.out.next hb3).alloc (.cells #[.int .i64 x, .int .i64 y, .int .i64 m] 42))
    have MX3 := Lib.hid (box_new 42 w3 x y m)
    have hw3 := below_next hw2' hb3
    have hw3' := hw3.alloc hw3.size (.cells #[.int .i64 x, .int .i64 y, .int .i64 m] 42)
    have hTM : TB < w3.heap.size := by have := TX2.out.lt; have := hb3.size; omega
    clear hb3 hw3 hw2' c0 c1 c2 BX2 TX2
    go_upto_region 6 with fail
    generalize w3.alloc (.cells #[.int .i64 x, .int .i64 y, .int .i64 m] 42) = v3 at *
    generalize w3.heap.size = MB at *
    obtain ⟨c0, c1, c2⟩ := BX3.out.cells
    go_wp2_with fail
    refine (turnP3 x y s p hpi q HTP.out _).mono ?_
    rintro e w4 ⟨rfl, hb4⟩
    have BX4 := Lib.hid (BX3.out.next hb4)
    have TX4 := Lib.hid (TX3.out.next hb4)
    have MX4 := Lib.hid (MX3.out.next hb4)
    have hw4 := below_next hw3' hb4
    clear hb4 c0 c1 c2 BX3 TX3 MX3 hw3'
    obtain ⟨c0, c1, c2⟩ := BX4.out.cells
    go_wp2_with fail
    refine (mirP3 x y s p hpi r HMP.out _).mono ?_
    rintro e w5 ⟨rfl, hb5⟩
    have BX5 := Lib.hid ((BX4.out.next hb5).alloc (.cells #[.int .i64 x, .int .i64 y, .int .i64 s] 42))
    have TX5 := Lib.hid ((TX4.out.next hb5).alloc (.cells #[.int .i64 x, .int .i64 y, .int .i64 s] 42))
    have MX5 := Lib.hid ((MX4.out.next hb5).alloc (.cells #[.int .i64 x, .int .i64 y, .int .i64 s] 42))
    have YX5 := Lib.hid (box_new 42 w5 x y s)
    have hw5 := below_next hw4 hb5
    have hw5' := hw5.alloc hw5.size (.cells #[.int .i64 x, .int .i64 y, .int .i64 s] 42)
    have hMY : MB < w5.heap.size := by have := MX4.out.lt; have := hb5.size; omega
    have C5 := (BX4.out.next hb5).cells
    clear hb5 hw5 hw4 c0 c1 c2 BX4 TX4 MX4
    obtain ⟨c0, c1, c2⟩ := C5
    go_upto_region 10 with fail
    generalize w5.alloc (.cells #[.int .i64 x, .int .i64 y, .int .i64 s] 42) = v5 at *
    generalize w5.heap.size = Y at *
    clear c0 c1 c2
    have nB : ¬ Y = B := by omega
    have nT : ¬ Y = TB := by omega
    have nM : ¬ Y = MB := by omega
    have hwY : w.heap.size ≤ Y := by omega
    go_wp2_with fail
    go_loopw [9, 11] (fun xv kv wr => ∃ k : Nat, k ≤ 4 ∧ kv = .int .i64 k ∧ xv = .int .i64 (seqP ⟨x, y, s⟩ p k) ∧ Box 42 wr B x y s ∧ Box 42 wr TB y x t ∧ Box 42 wr MB x y m ∧ Box 42 wr Y (seqB ⟨x, y, s⟩ k).f (seqB ⟨x, y, s⟩ k).o (seqB ⟨x, y, s⟩ k).t ∧ Below w.heap.size w wr) (fun _ kv _ => 4 - (intOf kv).toNat)
    case atStart => exact ⟨0, by omega, rfl, rfl, BX5.out, TX5.out, MX5.out, YX5.out, hw5'⟩
    case round =>
      obtain ⟨k, hk, rfl, rfl, bx, tx, mx, yx, hwr⟩ := hrel
      have BX := Lib.hid bx
      have TX := Lib.hid tx
      have MX := Lib.hid mx
      have YX := Lib.hid yx
      clear bx tx mx yx
      by_cases hk4 : k < 4
      · have hsi := HSQ.out k
        have HP' : Hid (seqP ⟨x, y, s⟩ p (k + 1) = turnPos (seqB ⟨x, y, s⟩ k) (seqP ⟨x, y, s⟩ p k)) := Lib.hid rfl
        have HB' : Hid (seqB ⟨x, y, s⟩ (k + 1) = turnBoard (seqB ⟨x, y, s⟩ k)) := Lib.hid rfl
        generalize seqP ⟨x, y, s⟩ p k = xk at *
        generalize seqB ⟨x, y, s⟩ k = bk at *
        obtain ⟨y0, y1, y2⟩ := YX.out.cells
        go_wp2_with fail
        refine (iTurnPosition_ bk xk hsi _).mono ?_
        rintro e w6 ⟨rfl, hb6⟩
        have BX6 := Lib.hid (BX.out.next hb6)
        have TX6 := Lib.hid (TX.out.next hb6)
        have MX6 := Lib.hid (MX.out.next hb6)
        have YX6 := Lib.hid (YX.out.next hb6)
        have hw6 := below_next hwr hb6
        clear hb6 y0 y1 y2 BX TX MX YX
        obtain ⟨y0, y1, y2⟩ := YX6.out.cells
        go_wp2_with fail
        refine (iTurnBoard_ bk _).mono ?_
        rintro e w7 ⟨rfl, hb7⟩
        have BX7 := Lib.hid (BX6.out.next hb7)
        have TX7 := Lib.hid (TX6.out.next hb7)
        have MX7 := Lib.hid (MX6.out.next hb7)
        have YX7 := Lib.hid (YX6.out.next hb7)
        have hw7 := below_next hw6 hb7
        clear hb7 y0 y1 y2 BX6 TX6 MX6 YX6
        obtain ⟨y0, y1, y2⟩ := YX7.out.cells
        obtain ⟨f0, f1, f2⟩ := YX7.out.soft
        have hly := YX7.out.lt
        generalize turnPos bk xk = xn at *
        generalize turnBoard bk = bn at *
        go_wp2
        go_roundw
        case rel =>
          refine ⟨k + 1, by omega, by go_num, by rw [HP'.out], ?_, ?_, ?_, ?_, ?_⟩
          · exact ((BX7.out.far (p := ⟨Y, 0, none⟩) nB _).far (p := ⟨Y, 1, none⟩) nB _).far (p := ⟨Y, 2, none⟩) nB _
          · exact ((TX7.out.far (p := ⟨Y, 0, none⟩) nT _).far (p := ⟨Y, 1, none⟩) nT _).far (p := ⟨Y, 2, none⟩) nT _
          · exact ((MX7.out.far (p := ⟨Y, 0, none⟩) nM _).far (p := ⟨Y, 1, none⟩) nM _).far (p := ⟨Y, 2, none⟩) nM _
          · rw [HB'.out]; exact YX7.out.set3 _ _ _
          · exact ((hw7.setCell (p := ⟨Y, 0, none⟩) hwY _).setCell (p := ⟨Y, 1, none⟩) hwY _).setCell (p := ⟨Y, 2, none⟩) hwY _
        case measure => simp [intOf]; omega
      · obtain rfl : k = 4 := by omega
        have hs4 := HS4.out
        rw [hs4.1] at YX
        rw [hs4.2]
        clear hs4 HS4 HSQ
        go_upto_region 15 with fail
        have heq1 : ∀ w', (binOp .neq 42 (.agg #[.int .i64 (x : Int), .int .i64 (y : Int), .int .i64 (s : Int)]) (.agg #[.int .i64 (x : Int), .int .i64 (y : Int), .int .i64 (s : Int)])).run Try.prog w' = .ok (.bool false) w' := fun w' => by
          have := board_neq ⟨x, y, s⟩ ⟨x, y, s⟩ w'
          rw [eqL_self] at this
          exact this
        go_cut [95] (fun v wc => v = .bool false ∧ Below wr.heap.size wr wc)
        case first =>
          have HX := Lib.hid ((Below.refl wr.heap.size wr).drew)
          obtain ⟨c0, c1, c2⟩ := BX.out.cells
          obtain ⟨t0, t1, t2⟩ := TX.out.cells
          obtain ⟨m0, m1, m2⟩ := MX.out.cells
          obtain ⟨y0, y1, y2⟩ := YX.out.cells
          go_region_held3 (fun w' => w'.cell? ⟨B, 0, none⟩ = some (.int .i64 x) ∧ w'.cell? ⟨B, 1, none⟩ = some (.int .i64 y) ∧ w'.cell? ⟨B, 2, none⟩ = some (.int .i64 s) ∧ w'.cell? ⟨TB, 0, none⟩ = some (.int .i64 y) ∧ w'.cell? ⟨TB, 1, none⟩ = some (.int .i64 x) ∧ w'.cell? ⟨TB, 2, none⟩ = some (.int .i64 t) ∧
              w'.cell? ⟨MB, 0, none⟩ = some (.int .i64 x) ∧ w'.cell? ⟨MB, 1, none⟩ = some (.int .i64 y) ∧ w'.cell? ⟨MB, 2, none⟩ = some (.int .i64 m) ∧ w'.cell? ⟨Y, 0, none⟩ = some (.int .i64 x) ∧ w'.cell? ⟨Y, 1, none⟩ = some (.int .i64 y) ∧ w'.cell? ⟨Y, 2, none⟩ = some (.int .i64 s)) (first | exact ⟨c0, c1, c2, t0, t1, t2, m0, m1, m2, y0, y1, y2⟩) (first
            | (go_at_call 33; refine (mirP3 x y m r hri p HMM.out _).mono ?_; rintro e wX ⟨rfl, hbX⟩; (
              have hZ := below_next HX.out hbX
              have HX' := Lib.hid hZ
              clear HX hZ hbX c0 c1 c2 t0 t1 t2 m0 m1 m2 y0 y1 y2
              have HX := HX'
              clear HX'
              obtain ⟨c0, c1, c2⟩ := (BX.out.next HX.out).cells
              obtain ⟨t0, t1, t2⟩ := (TX.out.next HX.out).cells
              obtain ⟨m0, m1, m2⟩ := (MX.out.next HX.out).cells
              obtain ⟨y0, y1, y2⟩ := (YX.out.next HX.out).cells
              ))
            | (go_at_call 31; refine (mirB3 x y m ⟨x, y, s⟩ HMN.out _).mono ?_; rintro e wX ⟨rfl, hbX⟩; (
              have hZ := below_next HX.out hbX
              have HX' := Lib.hid hZ
              clear HX hZ hbX c0 c1 c2 t0 t1 t2 m0 m1 m2 y0 y1 y2
              have HX := HX'
              clear HX'
              obtain ⟨c0, c1, c2⟩ := (BX.out.next HX.out).cells
              obtain ⟨t0, t1, t2⟩ := (TX.out.next HX.out).cells
              obtain ⟨m0, m1, m2⟩ := (MX.out.next HX.out).cells
              obtain ⟨y0, y1, y2⟩ := (YX.out.next HX.out).cells
              ))
            | (go_at_call 34; refine (pegs3 _ _ _ _ (by first | exact hpi | exact hqi) n0 (by first | exact HPB.out | exact HPT.out) _).mono ?_; rintro e wX ⟨rfl, hbX⟩; (
              have hZ := below_next HX.out hbX
              have HX' := Lib.hid hZ
              clear HX hZ hbX c0 c1 c2 t0 t1 t2 m0 m1 m2 y0 y1 y2
              have HX := HX'
              clear HX'
              obtain ⟨c0, c1, c2⟩ := (BX.out.next HX.out).cells
              obtain ⟨t0, t1, t2⟩ := (TX.out.next HX.out).cells
              obtain ⟨m0, m1, m2⟩ := (MX.out.next HX.out).cells
              obtain ⟨y0, y1, y2⟩ := (YX.out.next HX.out).cells
              ))
            | (go_at_call 35; refine (jumps3 _ _ _ _ (by first | exact hpi | exact hqi | exact hri) nj (by first | exact HJB.out | exact HJT.out | exact HJM.out) _).mono ?_; rintro e wX ⟨AX, cX, rfl, hbX⟩; (
              have hZ := below_next HX.out hbX
              have HX' := Lib.hid hZ
              clear HX hZ hbX c0 c1 c2 t0 t1 t2 m0 m1 m2 y0 y1 y2
              have HX := HX'
              clear HX'
              obtain ⟨c0, c1, c2⟩ := (BX.out.next HX.out).cells
              obtain ⟨t0, t1, t2⟩ := (TX.out.next HX.out).cells
              obtain ⟨m0, m1, m2⟩ := (MX.out.next HX.out).cells
              obtain ⟨y0, y1, y2⟩ := (YX.out.next HX.out).cells
              )))
          all_goals
            go_wp2_with fail
            go_meet
            exact ⟨rfl, HX.out⟩
        case rest =>
          obtain ⟨rfl, hbc⟩ := hcut
          have BXc := Lib.hid (BX.out.next hbc)
          have TXc := Lib.hid (TX.out.next hbc)
          have hwc := below_next hwr hbc
          clear hbc BX TX MX YX HMM HMN HPB HPT HJB HJT HJM hwr heq1
          have RCc := Lib.hid ((RC.out.below hwc).more hwc.size)
          go_wp2_with fail
          refine (at_int xs A c 0 (by omega) (by omega) _ RCc.out hm1).mono ?_
          rintro e wV ⟨v, hv, rfl, rfl⟩
          have hmod : (v : Int) % 3 = ((v % 3 : Nat) : Int) := by omega
          have hvm : v % 3 < 3 := Nat.mod_lt _ (by omega)
          generalize v % 3 = u at *
          obtain ⟨n, hn⟩ : ∃ n, 2 + u = n := ⟨_, rfl⟩
          have hn2 : 2 ≤ n := by omega
          have hn5 : n < 5 := by omega
          have hnI : (2 : Int) + (u : Int) = (n : Int) := by omega
          have hu3 : (u : Int) ≤ 2 := by omega
          clear hv hvm hn
          go_wp2_with fail
          refine (sRectangle_ n n (by omega) (by omega) (by omega) (by omega) _).mono ?_
          rintro e w8 ⟨rfl, hb8⟩
          have hSL := fun g hg => square_law (n := n) (g := g) hn2 hn5 hg
          have hST := full_turn n hn5 hn2
          obtain ⟨F, hF⟩ : ∃ F, fullS (n * n) = F := ⟨_, rfl⟩
          have hF2 : fullN (n * n) = F := hF
          have hFb : (F : Int) ≤ 65535 := by
            have := Nat.pow_le_pow_right (n := 2) (j := 16) (by omega) (show n * n ≤ 16 by have := Nat.mul_le_mul (show n ≤ 4 by omega) (show n ≤ 4 by omega); omega)
            unfold fullS at hF
            omega
          rw [hF] at hSL hST
          rw [hF2]
          have HSL := Lib.hid hSL
          have HIS := Lib.hid hST.1
          have HIM := Lib.hid hST.2
          have BX8 := Lib.hid ((BXc.out.next hb8).alloc (.cells #[.int .i64 n, .int .i64 n, .int .i64 F] 42))
          have TX8 := Lib.hid ((TXc.out.next hb8).alloc (.cells #[.int .i64 n, .int .i64 n, .int .i64 F] 42))
          have SX8 := Lib.hid (box_new 42 w8 n n F)
          have hw8 := below_next hwc hb8
          have hw8' := hw8.alloc hw8.size (.cells #[.int .i64 n, .int .i64 n, .int .i64 F] 42)
          clear hSL hST hF hF2 hb8 hw8 BXc TXc RCc
          go_upto_region 19 with fail
          generalize w8.alloc (.cells #[.int .i64 n, .int .i64 n, .int .i64 F] 42) = w9 at *
          generalize w8.heap.size = SB at *
          have RC9 := Lib.hid (((RC.out.below hw8').more hw8'.size))
          obtain ⟨F1, hF1⟩ : ∃ F1, F + 1 = F1 := ⟨_, rfl⟩
          have hW1 := Lib.hid (show (F : Int) + 1 = (F1 : Int) by omega)
          have hW2 : IntKind.i64.wrap ((F : Int) + 1) = (F1 : Int) := by rw [IntKind.wrap_i64]; omega
          have hd0 : decide ((F1 : Int) = 0) = false := by simp; omega
          have hj1 : 0 < F1 := by omega
          have hj2 : (0 : Int) < (F1 : Int) := by omega
          have hj3 : ¬ (F1 : Int) = 0 := by omega
          have hj4 : (F1 : Int) ≤ 65536 := by omega
          clear hFb
          have HF1 := Lib.hid hF1
          clear hF1
          go_cut [14] (fun v wd => ∃ g : Nat, v = .int .i64 g ∧ g ≤ F ∧ Below w9.heap.size w9 wd)
          case first =>
            obtain ⟨s0, s1, s2⟩ := SX8.out.cells
            obtain ⟨b1, hb1⟩ : ∃ b1, byteA xs (Int.toNat 1) = b1 := ⟨_, rfl⟩
            obtain ⟨b2, hb2⟩ : ∃ b2, byteA xs (Int.toNat 2) = b2 := ⟨_, rfl⟩
            have HB1 := Lib.hid hb1
            have HB2 := Lib.hid hb2
            have hbb1 : (b1 : Int) ≤ 255 := by have := byteA_le xs (Int.toNat 1); omega
            have hbb2 : (b2 : Int) ≤ 255 := by have := byteA_le xs (Int.toNat 2); omega
            obtain ⟨g, hg⟩ : ∃ g, (b1 + 256 * b2) % F1 = g := ⟨_, rfl⟩
            have hgl : g < F1 := by rw [← hg]; exact Nat.mod_lt _ hj1
            have hW3 : IntKind.i64.wrap ((b1 : Int) + 256 * (b2 : Int)) = (b1 : Int) + 256 * (b2 : Int) := by rw [IntKind.wrap_i64]; omega
            have HTE : Hid (((b1 : Int) + 256 * (b2 : Int)) % (F1 : Int) = (g : Int)) := Lib.hid (by
              have e : (b1 : Int) + 256 * (b2 : Int) = ((b1 + 256 * b2 : Nat) : Int) := by omega
              rw [e, ← Int.natCast_emod, hg])
            have hg1 : (g : Int) < (F1 : Int) := by omega
            clear hb1 hb2 hg
            go_region_with (first
              | (go_at_call 16; refine (atN xs A c _ (by omega) (by omega) _ (by first | exact HB1.out | exact HB2.out) _ (rd_drewN RC9.out 1) hm1).mono ?_; rintro e wV ⟨rfl, rfl⟩))
            all_goals
              go_wp2_with fail
              go_meet
              exact ⟨g, by rw [HTE.out], by have := HF1.out; omega, (Below.refl _ _).drew⟩
          case rest =>
            obtain ⟨g, rfl, hg, hbd⟩ := hcut
            obtain ⟨hPg, f, tt, mm, h1, h2, h3, h4, h5, h6, h7, h8, h9⟩ := HSL.out g hg
            have BXd := Lib.hid (BX8.out.next hbd)
            have TXd := Lib.hid (TX8.out.next hbd)
            have SXd := Lib.hid (SX8.out.next hbd)
            have hwd := below_next hw8' hbd
            have hgi : I64 (g : Int) := posB_i64 hPg
            have hti : I64 (tt : Int) := by constructor <;> omega
            have hmi : I64 (mm : Int) := by constructor <;> omega
            have hfi : I64 (f : Int) := by obtain ⟨_, _⟩ := hgi; constructor <;> omega
            have hfg : (f : Int) ≤ (g : Int) := by omega
            have HL1 := Lib.hid h1
            have HT := Lib.hid h3
            have HM := Lib.hid h4
            have HL2 := Lib.hid h5
            have HL3 := Lib.hid h6
            have HL4 := Lib.hid h7
            clear hPg h1 h2 h3 h4 h5 h6 h7 h8 h9 hg hbd HSL HF1 hW1 hW2 hd0 hj1 hj2 hj3 hj4 BX8 TX8 SX8 RC9
            obtain ⟨s0, s1, s2⟩ := SXd.out.cells
            go_wp2_with fail
            refine (least3 n n F g hgi f HL1.out _).mono ?_
            rintro e wE ⟨rfl, hbE⟩
            have BX := Lib.hid (BXd.out.next hbE)
            have TX := Lib.hid (TXd.out.next hbE)
            have SX := Lib.hid (SXd.out.next hbE)
            have hwE := below_next hwd hbE
            clear hbE s0 s1 s2 BXd TXd SXd
            have heq2 : ∀ w', (binOp .eql 42 (.agg #[.int .i64 (y : Int), .int .i64 (x : Int), .int .i64 (t : Int)]) (.agg #[.int .i64 (x : Int), .int .i64 (y : Int), .int .i64 (s : Int)])).run Try.prog w' = .ok (.bool eb) w' := fun w' => by
              have := board_eql ⟨y, x, t⟩ ⟨x, y, s⟩ w'
              rw [HEB.out] at this
              exact this
            have HX := Lib.hid ((Below.refl wE.heap.size wE).drew)
            obtain ⟨c0, c1, c2⟩ := BX.out.cells
            obtain ⟨t0, t1, t2⟩ := TX.out.cells
            obtain ⟨s0, s1, s2⟩ := SX.out.cells
            go_upto_region 21 with fail
            go_region_held3 (fun w' => w'.cell? ⟨B, 0, none⟩ = some (.int .i64 x) ∧ w'.cell? ⟨B, 1, none⟩ = some (.int .i64 y) ∧ w'.cell? ⟨B, 2, none⟩ = some (.int .i64 s) ∧ w'.cell? ⟨TB, 0, none⟩ = some (.int .i64 y) ∧ w'.cell? ⟨TB, 1, none⟩ = some (.int .i64 x) ∧ w'.cell? ⟨TB, 2, none⟩ = some (.int .i64 t) ∧
                w'.cell? ⟨SB, 0, none⟩ = some (.int .i64 n) ∧ w'.cell? ⟨SB, 1, none⟩ = some (.int .i64 n) ∧ w'.cell? ⟨SB, 2, none⟩ = some (.int .i64 F)) (first | exact ⟨c0, c1, c2, t0, t1, t2, s0, s1, s2⟩) (first
              | (go_at_call 38; refine (isT3 _ _ _ _ (by first | exact HIS.out | exact HIT.out) _).mono ?_; rintro e wX ⟨rfl, hbX⟩; (
                have hZ := below_next HX.out hbX
                have HX' := Lib.hid hZ
                clear HX hZ hbX c0 c1 c2 t0 t1 t2 s0 s1 s2
                have HX := HX'
                clear HX'
                obtain ⟨c0, c1, c2⟩ := (BX.out.next HX.out).cells
                obtain ⟨t0, t1, t2⟩ := (TX.out.next HX.out).cells
                obtain ⟨s0, s1, s2⟩ := (SX.out.next HX.out).cells
                ))
              | (go_at_call 39; refine (isM3 n n F true HIM.out _).mono ?_; rintro e wX ⟨rfl, hbX⟩; (
                have hZ := below_next HX.out hbX
                have HX' := Lib.hid hZ
                clear HX hZ hbX c0 c1 c2 t0 t1 t2 s0 s1 s2
                have HX := HX'
                clear HX'
                obtain ⟨c0, c1, c2⟩ := (BX.out.next HX.out).cells
                obtain ⟨t0, t1, t2⟩ := (TX.out.next HX.out).cells
                obtain ⟨s0, s1, s2⟩ := (SX.out.next HX.out).cells
                ))
              | (go_at_call 32; refine (turnP3 n n F g hgi tt HT.out _).mono ?_; rintro e wX ⟨rfl, hbX⟩; (
                have hZ := below_next HX.out hbX
                have HX' := Lib.hid hZ
                clear HX hZ hbX c0 c1 c2 t0 t1 t2 s0 s1 s2
                have HX := HX'
                clear HX'
                obtain ⟨c0, c1, c2⟩ := (BX.out.next HX.out).cells
                obtain ⟨t0, t1, t2⟩ := (TX.out.next HX.out).cells
                obtain ⟨s0, s1, s2⟩ := (SX.out.next HX.out).cells
                ))
              | (go_at_call 33; refine (mirP3 n n F g hgi mm HM.out _).mono ?_; rintro e wX ⟨rfl, hbX⟩; (
                have hZ := below_next HX.out hbX
                have HX' := Lib.hid hZ
                clear HX hZ hbX c0 c1 c2 t0 t1 t2 s0 s1 s2
                have HX := HX'
                clear HX'
                obtain ⟨c0, c1, c2⟩ := (BX.out.next HX.out).cells
                obtain ⟨t0, t1, t2⟩ := (TX.out.next HX.out).cells
                obtain ⟨s0, s1, s2⟩ := (SX.out.next HX.out).cells
                ))
              | (go_at_call 37; refine (least3 _ _ _ _ (by first | exact hti | exact hmi | exact hfi) f (by first | exact HL2.out | exact HL3.out | exact HL4.out) _).mono ?_; rintro e wX ⟨rfl, hbX⟩; (
                have hZ := below_next HX.out hbX
                have HX' := Lib.hid hZ
                clear HX hZ hbX c0 c1 c2 t0 t1 t2 s0 s1 s2
                have HX := HX'
                clear HX'
                obtain ⟨c0, c1, c2⟩ := (BX.out.next HX.out).cells
                obtain ⟨t0, t1, t2⟩ := (TX.out.next HX.out).cells
                obtain ⟨s0, s1, s2⟩ := (SX.out.next HX.out).cells
                )))
            all_goals
              go_wp2
              go_ret
              exact ⟨rfl, below_next hwE HX.out⟩
end Go.Proofs.Ytbcgokpamhgabaa

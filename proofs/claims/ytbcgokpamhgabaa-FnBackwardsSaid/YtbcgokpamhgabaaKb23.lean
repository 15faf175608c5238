/- The contracts of the cursor's functions: l01New, l01Byte, l01Below, l01Once: what is drawn is not said, only its range. The contracts of the generators of boards: Rectangle (both), CrossBoard, l01New, l02Small. The contracts of the generators of boards: CrossBoard, l02Small. -/
import Derived.Test.YtbcgokpamhgabaaChecked
import Derived.Test.YtbcgokpamhgabaaKb01
import Derived.Tactics
import Derived.Tactics2
import Derived.WalkKit
import Derived.WalkSpells
import Derived.WalkLawsBesides
import Derived.Deep.QuietTactic
import Derived.BigQuiet
import Derived.BigGuardPart
import Derived.Lib.QuietBelow
import Derived.OwnWalk
import Derived.KernelRfl
import Derived.Test.YtbcgokpamhgabaaKb04
import Derived.Test.YtbcgokpamhgabaaKb02
import Derived.Test.YtbcgokpamhgabaaKb07
import Derived.Test.YtbcgokpamhgabaaKb14
import Derived.IntWalk
import Derived.BigRegion
import Derived.Test.YtbcgokpamhgabaaKb19
import Derived.Test.YtbcgokpamhgabaaKb22
import Derived.Deep.DeepCutAuto
namespace Go.Proofs.Ytbcgokpamhgabaa
set_option linter.unusedVariables false
set_option maxRecDepth 20000
open Go.RowKit Go.Sort

/-- The call hands back a number of the range, the cursor stands, and nothing else has turned. -/
def GivesDraw (T : TypeId) (b : Nat) (P : Nat → Prop) (w : World) (e : Ending) (w' : World) : Prop :=
  ∃ n : Nat, P n ∧ e = .returned (.int .i64 n) ∧ Cur T b w' ∧ Cb w.heap.size b w w'

theorem cur_store {T : TypeId} {b : Nat} {w : World} {xs : List UInt8} {A : Option Addr} {c i : Nat} {h : Int}
    (h1 : w.heap[b]? = some (.cells #[.slice A xs.length c, .int .i64 i, .int .i64 h] T (0, 0))) : ∀ h' : Int, (w.setCell ⟨b, 2, none⟩ (.int .i64 h')).heap[b]? = some (.cells #[.slice A xs.length c, .int .i64 i, .int .i64 h'] T (0, 0)) := fun h' => by
  simp only [World.setCell, Array.getElem?_modify, if_pos, h1]
  rfl
theorem cur_store1 {T : TypeId} {b : Nat} {w : World} {xs : List UInt8} {A : Option Addr} {c i : Nat} {h : Int}
    (h1 : w.heap[b]? = some (.cells #[.slice A xs.length c, .int .i64 i, .int .i64 h] T (0, 0))) : ∀ i' : Int, (w.setCell ⟨b, 1, none⟩ (.int .i64 i')).heap[b]? = some (.cells #[.slice A xs.length c, .int .i64 i', .int .i64 h] T (0, 0)) := fun i' => by
  simp only [World.setCell, Array.getElem?_modify, if_pos, h1]
  rfl

theorem both {p q : Prop} (h : q) (k : q → p) : p ∧ q := ⟨k h, h⟩
theorem cur_lt {b : Nat} {w : World} {o : Obj} (h : w.heap[b]? = some o) : b < w.heap.size := (Array.getElem?_eq_some_iff.1 h).1
theorem Cb.rd {b : Nat} {w w' : World} {A : Option Addr} {xs : List Value} (h : Cb w.heap.size b w w') (hb : b < w.heap.size) (r : Rd w b A xs) : Rd w' b A xs :=
  r.keep fun k o hk => h.cell (p := ⟨k, o, none⟩) (show k < _ by omega) (show k ≠ b by omega)
set_option maxHeartbeats 1000000 in
theorem l01Byte_ (b : Nat) (w : World) (hC : Cur 129 b w) :
    Calls Try.prog 153 #[.pointer (some ⟨b, 0, none⟩)] w (GivesDraw 129 b (· ≤ 255) w) := by
  obtain ⟨xs, A, c, i, h, h1, rd, hi, hm⟩ := hC
  have c0 : w.cell? ⟨b, 0, none⟩ = some (.slice A xs.length c) := by simp [World.cell?, h1]
  have c1 : w.cell? ⟨b, 1, none⟩ = some (.int .i64 i) := by simp [World.cell?, h1]
  have c2 : w.cell? ⟨b, 2, none⟩ = some (.int .i64 h) := by simp [World.cell?, h1]
  have f1 : w.frozen? ⟨b, 1, none⟩ = false := by simp [World.frozen?, h1]
  have f2 : w.frozen? ⟨b, 2, none⟩ = false := by simp [World.frozen?, h1]
  have HB := Lib.hid h1
  clear h1
  obtain ⟨m, hm1, hm2⟩ := and255 (bits BinOp.xor IntKind.i64 (wrap64 (wrap64 (h * 6364136223846793005) + 1442695040888963407) / 8589934592) (wrap64 (wrap64 (h * 6364136223846793005) + 1442695040888963407) / 35184372088832))
  have HM := Lib.hid hm1
  clear hm1
  have hmm : (m : Int) ≤ 255 := by omega
  by_cases hlt : i < xs.length
  · have hx : xs[i]? = some xs[i] := List.getElem?_eq_getElem hlt
    generalize hxe : xs[i] = x at hx
    obtain ⟨g, off, rfl, hg, hc⟩ := rd (by rw [bts_length]; omega)
    have d0 : w.cell? ⟨g, off + i, none⟩ = some (.int .u8 (x.toNat : Int)) := hc i _ (by simp [bts, hx])
    have hgb : g ≠ b := by omega
    have hx8 : (x.toNat : Int) ≤ 255 := by have := x.toNat_lt; omega
    obtain ⟨k, hk1, hk2⟩ := and255 ((m : Int) + (x.toNat : Int))
    have HK := Lib.hid hk1
    have HR := Lib.hid rd
    clear hk1 rd hc hxe hx
    go_enter Try.func153, Try.ntmps153
    go_wp2
    go_quiet (fail)
    rw [HM.out]
    go_wp2
    go_quiet (fail)
    go_wp2
    go_quiet (fail)
    rw [HK.out]
    go_wp2
    go_ret
    exact ⟨k, hk2, rfl, both ((((Cb.refl _ _ _).setCell (p := ⟨b, 2, none⟩) (.inr rfl) _).drewN _).setCell (p := ⟨b, 1, none⟩) (.inr rfl) _) fun hcb => ⟨xs, _, c, i + 1, _, cur_store1 (cur_store HB.out _) _, hcb.rd (cur_lt HB.out) HR.out, hlt, hm⟩⟩
  · have HR := Lib.hid rd
    clear rd
    have e : i = xs.length := by omega
    subst e
    go_enter Try.func153, Try.ntmps153
    go_wp2
    go_quiet (fail)
    rw [HM.out]
    go_wp2
    go_quiet (fail)
    go_wp2
    go_ret
    exact ⟨m, hm2, rfl, both ((((Cb.refl _ _ _).setCell (p := ⟨b, 2, none⟩) (.inr rfl) _).drewN _).drewN _) fun hcb => ⟨xs, _, c, xs.length, _, cur_store HB.out _, hcb.rd (cur_lt HB.out) HR.out, Nat.le_refl _, hm⟩⟩

theorem sum_cast (x y z v m : Nat) : ((x : Int) * 16777216 + (y : Int) * 65536 + (z : Int) * 256 + (v : Int)) % (m : Int) = (((x * 16777216 + y * 65536 + z * 256 + v) % m : Nat) : Int) := by
  rw [Int.natCast_emod]
  rfl
theorem l01Below_ (b : Nat) (n : Int) (hn : I64 n) (w : World) (hC : Cur 129 b w) :
    Calls Try.prog 114 #[.pointer (some ⟨b, 0, none⟩), .int .i64 n] w (GivesDraw 129 b (fun k => (k : Int) < n ∨ n ≤ 0 ∧ k = 0) w) := by
  unfold I64 at hn
  by_cases h0 : n ≤ 0
  · go_enter Try.func114, Try.ntmps114
    go_wp2
    go_ret
    exact ⟨0, .inr ⟨h0, rfl⟩, rfl, hC, Cb.refl _ _ _⟩
  · obtain ⟨m, rfl⟩ := Int.eq_ofNat_of_zero_le (show 0 ≤ n by omega)
    have hm : 0 < m := by omega
    have hq : (0 : Int) < (m : Int) := by omega
    have hz : ¬ (m : Int) = 0 := by omega
    clear h0
    by_cases h1 : (m : Int) ≤ 256
    · go_enter Try.func114, Try.ntmps114
      go_wp2_with (go_at_call 153; refine (l01Byte_ _ _ hC).mono ?_; rintro e w1 ⟨k, hk, rfl, hC1, hb1⟩)
      go_ret
      exact ⟨k % m, .inl (by have := Nat.mod_lt k hm; omega), by simp, hC1, hb1⟩
    · go_enter Try.func114, Try.ntmps114
      go_wp2_with fail
      refine (l01Byte_ _ _ hC).mono ?_
      rintro e w1 ⟨x, hx, rfl, hC1, hb1⟩
      go_wp2_with fail
      refine (l01Byte_ _ _ hC1).mono ?_
      rintro e w2 ⟨y, hy, rfl, hC2, hb2⟩
      go_wp2_with fail
      refine (l01Byte_ _ _ hC2).mono ?_
      rintro e w3 ⟨z, hz', rfl, hC3, hb3⟩
      go_wp2_with fail
      refine (l01Byte_ _ _ hC3).mono ?_
      rintro e w4 ⟨v, hv, rfl, hC4, hb4⟩
      have hx' : (x : Int) ≤ 255 := by omega
      have hy' : (y : Int) ≤ 255 := by omega
      have hz2 : (z : Int) ≤ 255 := by omega
      have hv' : (v : Int) ≤ 255 := by omega
      go_wp2
      go_ret
      exact ⟨(x * 16777216 + y * 65536 + z * 256 + v) % m, .inl (by have := Nat.mod_lt (x * 16777216 + y * 65536 + z * 256 + v) hm; omega), ret_int (sum_cast x y z v m), hC4, ((hb1.next hb2).next hb3).next hb4⟩
theorem l01Once_ (b : Nat) (n : Int) (hn : I64 n) (w : World) (hC : Cur 129 b w) :
    Calls Try.prog 119 #[.pointer (some ⟨b, 0, none⟩), .int .i64 n] w fun e w' => ∃ r : Bool, e = .returned (.bool r) ∧ Cur 129 b w' ∧ Cb w.heap.size b w w' := by
  go_enter Try.func119, Try.ntmps119
  go_wp2_with fail
  refine (l01Below_ _ _ hn _ hC).mono ?_
  rintro e w1 ⟨k, hk, rfl, hC1, hb1⟩
  go_wp2
  go_ret
  exact ⟨_, rfl, hC1, hb1⟩

def fullN (n : Nat) : Nat := 2 ^ n - 1
theorem fullN_ok {w h : Nat} (h1 : 1 ≤ w) (h2 : w ≤ 7) (h3 : 1 ≤ h) (h4 : h ≤ 7) : BdOk w h (fullN (w * h)) := by
  have hA : 1 ≤ w * h := Nat.mul_le_mul h1 h3
  have hp : 2 ^ 1 ≤ 2 ^ (w * h) := Nat.pow_le_pow_right (n := 2) (by omega) hA
  exact ⟨h1, h2, h3, h4, by unfold fullN; omega, by unfold fullN; omega⟩
theorem full_int (n : Nat) : ((2 : Int) ^ n) - 1 = ((fullN n : Nat) : Int) := by
  have h : 1 ≤ 2 ^ n := Nat.one_le_two_pow
  have e : ((2 : Int) ^ n) = ((2 ^ n : Nat) : Int) := by simp
  rw [e]
  unfold fullN
  omega
/-- A valid board of that size, by value. -/
def GivesRect (w h : Nat) (W : World) (e : Ending) (W' : World) : Prop := e = .returned (.agg #[.int .i64 w, .int .i64 h, .int .i64 (fullN (w * h) : Nat)]) ∧ Below W.heap.size W W'

set_option maxHeartbeats 1000000 in
theorem sRectangle_ (w h : Nat) (h1 : 1 ≤ w) (h2 : w ≤ 7) (h3 : 1 ≤ h) (h4 : h ≤ 7) (W : World) :
    Calls Try.prog 36 #[.int .i64 w, .int .i64 h] W (GivesRect w h W) := by
  obtain ⟨m1, m2, m3⟩ := area_bounds h1 h2 h3 h4
  have i1 : inB (w : Int) 1 7 = true := inB_iff.2 (by omega)
  have i2 : inB (h : Int) 1 7 = true := inB_iff.2 (by omega)
  obtain ⟨p1, p2⟩ := pow_bounds m3
  have m4 : ((w : Int) * h) = ((w * h : Nat) : Int) := by simp
  generalize hn : w * h = n at *
  have HN := Lib.hid hn
  have HF := Lib.hid (full_int n)
  clear hn
  go_enter Try.func36, Try.ntmps36
  go_wp2_with (go_at_call 111; refine (l01In_ _ _ _ _).mono ?_; rintro e w' ⟨rfl, rfl⟩)
  refine bodyPost_ret (v := .agg #[.int .i64 w, .int .i64 h, .int .i64 (2 ^ n - 1)]) (by simp [results, Try.results36, go_sem]) rfl ⟨by rw [HF.out, HN.out], (Below.refl _ _).alloc (Nat.le_refl _) _⟩
set_option maxHeartbeats 1000000 in
theorem iRectangle_ (w h : Nat) (h1 : 1 ≤ w) (h2 : w ≤ 7) (h3 : 1 ≤ h) (h4 : h ≤ 7) (W : World) :
    Calls Try.prog 56 #[.int .i64 w, .int .i64 h] W (GivesRect w h W) := by
  obtain ⟨m1, m2, m3⟩ := area_bounds h1 h2 h3 h4
  have i1 : inB (w : Int) 1 7 = true := inB_iff.2 (by omega)
  have i2 : inB (h : Int) 1 7 = true := inB_iff.2 (by omega)
  obtain ⟨p1, p2⟩ := pow_bounds m3
  have m4 : ((w : Int) * h) = ((w * h : Nat) : Int) := by simp
  generalize hn : w * h = n at *
  have HN := Lib.hid hn
  have HF := Lib.hid (full_int n)
  clear hn
  go_enter Try.func56, Try.ntmps56
  go_wp2_with (go_at_call 120; refine (within_ _ _ _ _).mono ?_; rintro e w' ⟨rfl, rfl⟩)
  refine bodyPost_ret (v := .agg #[.int .i64 w, .int .i64 h, .int .i64 (2 ^ n - 1)]) (by simp [results, Try.results56, go_sem]) rfl ⟨by rw [HF.out, HN.out], (Below.refl _ _).alloc (Nat.le_refl _) _⟩

set_option maxHeartbeats 1000000 in
theorem l01New_ (xs : List UInt8) (A : Option Addr) (c : Nat) (w : World) (rd : Rd w w.heap.size A (bts xs)) (hm : xs.length ≤ 1048576) :
    Calls Try.prog 94 #[.slice A xs.length c] w fun e w' => e = .returned (.pointer (some ⟨w.heap.size, 0, none⟩)) ∧ Cur 129 w.heap.size w' ∧ Below w.heap.size w w' := by
  have HM := Lib.hid hm
  have HR := Lib.hid rd
  have m1 : (xs.length : Int) ≤ 1048576 := by omega
  clear rd hm
  go_enter Try.func94, Try.ntmps94
  go_wp2
  go_loop [3, 4] (fun hv iv => ∃ (k : Nat) (n : Int), k ≤ xs.length ∧ iv = .int .i64 k ∧ hv = .int .i64 n) (fun _ iv => xs.length - (intOf iv).toNat)
  case atStart => exact ⟨0, _, Nat.zero_le _, rfl, rfl⟩
  case round =>
    obtain ⟨k, n, hk, rfl, rfl⟩ := hrel
    by_cases hlt : k < xs.length ∧ k < 4000
    · obtain ⟨h1, h2⟩ := hlt
      have hx : xs[k]? = some xs[k] := List.getElem?_eq_getElem h1
      generalize hxe : xs[k] = x at hx
      obtain ⟨g, off, rfl, hg, hc⟩ := HR.out (by rw [bts_length]; omega)
      have d0 : w.cell? ⟨g, off + k, none⟩ = some (.int .u8 (x.toNat : Int)) := hc k _ (by simp [bts, hx])
      have hx8 : (x.toNat : Int) ≤ 255 := by have := x.toNat_lt; omega
      have g1 : (k : Int) < (xs.length : Int) := by omega
      have g2 : (k : Int) < 4000 := by omega
      clear hc hxe hx
      go_wp2
      go_round
      case rel => exact ⟨k + 1, _, h1, by go_num, rfl⟩
      case measure => simp [intOf]; omega
    · by_cases h1 : k < xs.length
      · have g2 : ¬ (k : Int) < 4000 := by omega
        have g1 : (k : Int) < (xs.length : Int) := by omega
        clear hlt
        go_wp2
        go_ret
        exact ⟨rfl, cur_new w xs A c n HR.out HM.out, (Below.refl _ _).alloc (Nat.le_refl _) _⟩
      · have g1 : ¬ (k : Int) < (xs.length : Int) := by omega
        clear hlt
        go_wp2
        go_ret
        exact ⟨rfl, cur_new w xs A c n HR.out HM.out, (Below.refl _ _).alloc (Nat.le_refl _) _⟩

def crossB (k : Nat) : Bool := decide (2 ≤ k % 7 ∧ k % 7 ≤ 4 ∨ 2 ≤ k / 7 ∧ k / 7 ≤ 4)
def crossS : Nat → Nat
  | 0 => 0
  | k + 1 => if crossB k then crossS k ||| pow2 k else crossS k
theorem crossS_yes {k : Nat} (h : crossB k = true) : crossS (k + 1) = crossS k ||| pow2 k := by rw [crossS, if_pos h]
theorem crossS_no {k : Nat} (h : crossB k = false) : crossS (k + 1) = crossS k := by rw [crossS, if_neg (by rw [h]; decide)]
theorem crossS_lt (k : Nat) : crossS k < 2 ^ k := by
  induction k with
  | zero => decide
  | succ k ih =>
    have hp : 2 ^ (k + 1) = 2 ^ k * 2 := Nat.pow_succ 2 k
    rw [crossS]
    split
    · exact Nat.or_lt_two_pow (by omega) (by unfold pow2; omega)
    · omega
theorem crossS_63 {k : Nat} (h : k ≤ 49) : B63 (crossS k) := Nat.lt_of_lt_of_le (crossS_lt k) (Nat.le_trans (Nat.pow_le_pow_right (n := 2) (by omega) h) (by decide))
theorem cross_ok : BdOk 7 7 (crossS 49) := ⟨by decide, by decide, by decide, by decide, by decide +kernel, crossS_lt 49⟩
/-- A valid board, by value. -/
def GivesBd (P : Nat → Nat → Nat → Prop) (w : World) (e : Ending) (w' : World) : Prop :=
  ∃ x y s : Nat, BdOk x y s ∧ P x y s ∧ e = .returned (.agg #[.int .i64 x, .int .i64 y, .int .i64 s]) ∧ Below w.heap.size w w'
/-- .. drawn from a cursor. -/
def GivesBdC (T : TypeId) (b : Nat) (P : Nat → Nat → Nat → Prop) (w : World) (e : Ending) (w' : World) : Prop :=
  ∃ x y s : Nat, BdOk x y s ∧ P x y s ∧ e = .returned (.agg #[.int .i64 x, .int .i64 y, .int .i64 s]) ∧ Cur T b w' ∧ Cb w.heap.size b w w'

set_option maxHeartbeats 4000000 in
theorem sCrossBoard_ (w : World) :
    Calls Try.prog 151 #[] w (GivesBd (fun _ _ _ => True) w) := by
  go_enter Try.func151, Try.ntmps151
  go_wp2
  go_loopw [2] (fun kv wr => ∃ k : Nat, k ≤ 49 ∧ kv = .int .i64 k ∧ Box 42 wr w.heap.size 0 0 0 ∧ Box 42 wr (w.heap.size + 1) 7 7 (crossS k : Nat) ∧ Below w.heap.size w wr) (fun kv _ => 49 - (intOf kv).toNat)
  case atStart =>
    refine ⟨0, Nat.zero_le _, rfl, (box_new _ _ _ _ _).alloc _, ?_, ((Below.refl _ _).alloc (Nat.le_refl _) _).alloc (by simp) _⟩
    have := box_new 42 (w.alloc (.cells #[.int .i64 0, .int .i64 0, .int .i64 0] 42)) 7 7 0
    rw [show ((crossS 0 : Nat) : Int) = 0 from rfl]
    simpa using this
  case round =>
    obtain ⟨k, hk, rfl, bx, bb, hw⟩ := hrel
    have hs1 := bb.lt
    have hs0 := bx.lt
    have BX := Lib.hid bx
    have BB := Lib.hid bb
    obtain ⟨x0, x1, x2⟩ := bx.cells
    obtain ⟨g0, g1, g2⟩ := bx.soft
    obtain ⟨c0, c1, c2⟩ := bb.cells
    obtain ⟨f0, f1, f2⟩ := bb.soft
    clear bx bb
    by_cases hlt : k < 49
    · have h1 : (k : Int) < 49 := by omega
      have pf := i64_pow k (by omega)
      have a1 := i64_or (crossS k) (pow2 k) (crossS_63 hk) (b63_pow2 (by omega))
      have HY := Lib.hid (crossS_yes (k := k))
      have HN := Lib.hid (crossS_no (k := k))
      have HB : Hid (crossB k = decide (2 ≤ k % 7 ∧ k % 7 ≤ 4 ∨ 2 ≤ k / 7 ∧ k / 7 ≤ 4)) := Lib.hid rfl
      generalize crossS k = S at *
      by_cases q1 : 2 ≤ (k : Int) % 7 <;> by_cases q2 : (k : Int) % 7 ≤ 4 <;> by_cases q3 : 2 ≤ (k : Int) / 7 <;> by_cases q4 : (k : Int) / 7 ≤ 4
      all_goals first
        | (exfalso; omega)
        | (have hy : crossB k = true := by rw [HB.out, decide_eq_true_eq]; omega
           have HE := Lib.hid (HY.out hy)
           clear hy)
        | (have hy : crossB k = false := by rw [HB.out, decide_eq_false_iff_not]; omega
           have HE := Lib.hid (HN.out hy)
           clear hy)
      all_goals go_wp2
      all_goals first
        | (go_region
           go_wp2
           go_roundw
           case rel => exact ⟨k + 1, hlt, by go_num, BX.out.far (by simp) _, by rw [HE.out]; exact (BB.out).set2 _, (hw.setCell (by simp) _).drew⟩
           case measure => simp [intOf]; omega)
        | (go_roundw
           case rel => exact ⟨k + 1, hlt, by go_num, BX.out, by rw [HE.out]; exact BB.out, hw⟩
           case measure => simp [intOf]; omega)
    · have e : k = 49 := by omega
      subst e
      generalize hS : crossS 49 = S at *
      have HS := Lib.hid hS
      clear hS
      go_wp2
      refine bodyPost_ret (v := .agg #[.int .i64 7, .int .i64 7, .int .i64 (S : Nat)]) (by simp [results, Try.results151, go_sem, *]) rfl ⟨7, 7, S, HS.out ▸ cross_ok, trivial, rfl, ?_⟩
      exact ((hw.setCell (by simp) _).setCell (by simp) _).setCell (by simp) _

theorem popc_pow {s i : Nat} (h : s.testBit i = true) (h5 : 1 < popc s) : pow2 i < s := by
  have h1 : 2 ^ i ≤ s := Nat.ge_two_pow_of_testBit h
  rcases Nat.lt_or_ge (2 ^ i) s with h2 | h2
  · exact h2
  · exfalso
    have e : s = 2 ^ i := by omega
    have hn : (bitsOf s 49).Nodup := List.Pairwise.filter _ List.nodup_range
    have ha : ∀ k ∈ bitsOf s 49, k = i := fun k hk => by
      have := (bits_mem.1 hk).2
      rw [e, Nat.testBit_two_pow] at this
      exact (of_decide_eq_true this).symm
    unfold popc at h5
    match hl : bitsOf s 49 with
    | [] => rw [hl] at h5; simp at h5
    | [_] => rw [hl] at h5; simp at h5
    | x :: y :: r =>
      rw [hl] at hn ha
      have hx := ha x (by simp)
      have hy := ha y (by simp)
      simp [hx, hy] at hn

/-- Small: at most sixteen cells. -/
def Sm (x y s : Nat) : Prop := x * y ≤ 16 ∧ x ≤ 5 ∧ y ≤ 4

set_option maxHeartbeats 4000000 in
theorem l02Small_ (b : Nat) (w : World) (hC : Cur 129 b w) :
    Calls Try.prog 101 #[.pointer (some ⟨b, 0, none⟩)] w (GivesBdC 129 b Sm w) := by
  have hbl := hC.lt
  go_enter Try.func101, Try.ntmps101
  go_upto_region 2 with (go_at_call 114; refine (l01Below_ b 5 (by unfold I64; omega) _ (hC.alloc _)).mono ?_; rintro e w1 ⟨k, hk, rfl, hC1, hb1⟩)
  have hk1 : (k : Int) ≤ 4 := by omega
  have bx1 : Box 42 w1 w.heap.size 0 0 0 := (box_new _ _ _ _ _).cb hb1 hbl
  have hw1 : Cb w.heap.size b w w1 := ((Cb.refl _ _ _).alloc (Nat.le_refl _) _).trans (hb1.mono (by simp))
  obtain ⟨x, hx⟩ : ∃ x : Nat, (1 : Int) + (k : Int) = (x : Int) := ⟨1 + k, by omega⟩
  have hx1 : (1 : Int) ≤ (x : Int) := by omega
  have hx2 : (x : Int) ≤ 5 := by omega
  have BX1 := Lib.hid bx1
  have HW1 := Lib.hid hw1
  clear hk hb1 bx1 hw1
  rw [hx]
  clear hx hk1
  go_cut [4] (fun v wc => ∃ y : Nat, v = .int .i64 y ∧ 1 ≤ y ∧ y ≤ 4 ∧ x * y ≤ 16 ∧ Cur 129 b wc ∧ Cb w1.heap.size b w1 wc)
  case first =>
    by_cases h5 : x = 5
    · subst h5
      go_wp2_with fail
      refine (l01Below_ b 3 (by unfold I64; omega) _ hC1).mono ?_
      rintro e w2 ⟨k2, hk2, rfl, hC2, hb2⟩
      have hk3 : (k2 : Int) ≤ 2 := by omega
      go_wp2_with fail
      go_meet
      exact ⟨1 + k2, by go_num, by omega, by omega, by omega, hC2, hb2⟩
    · have h4 : (4 : Int) ≤ 16 / (x : Int) := by
        have : x = 1 ∨ x = 2 ∨ x = 3 ∨ x = 4 := by omega
        rcases this with rfl | rfl | rfl | rfl <;> decide
      have h5' : ¬ (16 : Int) / (x : Int) < 4 := by omega
      have h6 : x ≤ 4 := by omega
      clear h5
      go_wp2_with fail
      refine (l01Below_ b 4 (by unfold I64; omega) _ hC1).mono ?_
      rintro e w2 ⟨k2, hk2, rfl, hC2, hb2⟩
      have hk3 : (k2 : Int) ≤ 3 := by omega
      go_wp2_with fail
      go_meet
      exact ⟨1 + k2, by go_num, by omega, by omega, Nat.mul_le_mul h6 (show 1 + k2 ≤ 4 by omega), hC2, hb2⟩
  case rest =>
    obtain ⟨y, rfl, y1, y2, hxy, hC2, hb2⟩ := hcut
    have y1' : (1 : Int) ≤ (y : Int) := by omega
    have y2' : (y : Int) ≤ 4 := by omega
    have HW2 := Lib.hid (HW1.out.next hb2)
    have BX2 := Lib.hid (BX1.out.cb hb2 hbl)
    clear HW1 BX1 hb2
    go_step
    go_step
    go_cut [4] (fun v wd => ∃ y : Nat, v = .int .i64 y ∧ 1 ≤ y ∧ y ≤ 4 ∧ x * y ≤ 16 ∧ wd = wc)
    case first =>
      by_cases q1 : (x : Int) < 3
      · by_cases q2 : (y : Int) < 3
        · go_wp2_with fail
          go_meet
          exact ⟨3, rfl, by omega, by omega, by omega, rfl⟩
        · go_wp2_with fail
          go_meet
          exact ⟨y, rfl, y1, y2, hxy, rfl⟩
      · go_wp2_with fail
        go_meet
        exact ⟨y, rfl, y1, y2, hxy, rfl⟩
    case rest =>
      clear y1 y2 hxy y1' y2'
      obtain ⟨y, rfl, y1, y2, hxy, rfl⟩ := hcut
      have y1' : (1 : Int) ≤ (y : Int) := by omega
      have y2' : (y : Int) ≤ 4 := by omega
      go_upto_region 6 with (go_at_call 36; refine (sRectangle_ x y (by omega) (by omega) y1 (by omega) _).mono ?_; rintro e w3 ⟨rfl, hb3⟩)
      have hS3 : w.heap.size < w3.heap.size := Nat.lt_of_lt_of_le BX2.out.lt hb3.size
      have HW3 := Lib.hid ((HW2.out.next (cb_of hb3 b)).alloc (Nat.le_of_lt hS3) (.cells #[.int .i64 x, .int .i64 y, .int .i64 (fullN (x * y) : Nat)] 42))
      have BX3 := Lib.hid ((BX2.out.next hb3).alloc (.cells #[.int .i64 x, .int .i64 y, .int .i64 (fullN (x * y) : Nat)] 42))
      have BB3 := Lib.hid (box_new 42 w3 x y (fullN (x * y) : Nat))
      have hC3 := (hC2.next hb3).alloc (.cells #[.int .i64 x, .int .i64 y, .int .i64 (fullN (x * y) : Nat)] 42)
      have hb4 : BdOk x y (fullN (x * y)) := fullN_ok (by omega) (by omega) y1 (by omega)
      have hgw : w.heap.size < w3.heap.size := hS3
      have HBD := Lib.hid hb4
      have HSM := Lib.hid hxy
      clear hb3 hC2 HW2 BX2 hb4 hxy hC1
      generalize w3.heap.size = g at *
      go_wp2_with fail
      refine (l01Below_ b 3 (by unfold I64; omega) _ hC3).mono ?_
      rintro e w4 ⟨k4, hk4, rfl, hC4, hb4⟩
      have HW4 := Lib.hid (HW3.out.next hb4)
      have BX4 := Lib.hid (BX3.out.cb hb4 hbl)
      have BB4 := Lib.hid (BB3.out.cb hb4 (by omega))
      clear HW3 BX3 BB3 hb4 hC3
      go_wp2_with fail
      go_loopw [6] (fun kv wr => ∃ (k s : Nat), kv = .int .i64 k ∧ k ≤ 2 ∧ BdOk x y s ∧ Cur 129 b wr ∧ Box 42 wr w.heap.size 0 0 0 ∧ Box 42 wr g x y s ∧ Cb w.heap.size b w wr) (fun kv _ => (intOf kv).toNat)
      case atStart => exact ⟨k4, _, rfl, by omega, HBD.out, hC4, BX4.out, BB4.out, HW4.out⟩
      case round =>
        obtain ⟨k, s, rfl, hk, hbd, hC5, bx, bb, hw⟩ := hrel
        have hlg := bb.lt
        have hlw := bx.lt
        have hbg : b < g := by omega
        have HBD := Lib.hid hbd
        by_cases h0 : 0 < k
        · obtain ⟨c0, c1, c2⟩ := bb.cells
          have BX := Lib.hid bx
          have BB := Lib.hid bb
          clear bx bb hbd
          go_wp2_with fail
          refine (sCountHoles_ x y s HBD.out _).mono ?_
          rintro e w5 ⟨rfl, hb5⟩
          have bx5 := BX.out.next hb5
          have bb5 := BB.out.next hb5
          have hC6 := hC5.next hb5
          have HW5 := Lib.hid (hw.next (cb_of hb5 b))
          have hlg5 := bb5.lt
          have hlw5 := bx5.lt
          obtain ⟨c0, c1, c2⟩ := bb5.cells
          obtain ⟨f0, f1, f2⟩ := bb5.soft
          obtain ⟨x0, x1, x2⟩ := bx5.cells
          obtain ⟨g0, g1, g2⟩ := bx5.soft
          have BX5 := Lib.hid bx5
          have BB5 := Lib.hid bb5
          clear bx5 bb5 hb5 BX BB hC5 hw
          by_cases hp : (5 : Int) < (popc s : Nat)
          · obtain ⟨m1, m2, m3⟩ := area_bounds HBD.out.w1 HBD.out.w7 HBD.out.h1 HBD.out.h7
            have m4 : ((x : Int) * y) = ((x * y : Nat) : Int) := by simp
            have m5 : x * y ≤ 16 := HSM.out
            obtain ⟨n, hn⟩ : ∃ n, n = x * y := ⟨_, rfl⟩
            rw [← hn] at m4 m5 m3
            have HN := Lib.hid hn
            clear hn m1 m2
            go_wp2_with fail
            refine (l01Below_ b (n : Int) (by unfold I64; omega) _ hC6).mono ?_
            rintro e w6 ⟨i, hi, rfl, hC7, hb6⟩
            have hi1 : i ≤ 15 := by omega
            have hi2 : (i : Int) ≤ 15 := by omega
            have bx6 := BX5.out.cb hb6 hbl
            have bb6 := BB5.out.cb hb6 hbg
            have HW6 := Lib.hid (HW5.out.next hb6)
            have hlg6 := bb6.lt
            have hlw6 := bx6.lt
            clear c0 c1 c2 f0 f1 f2 x0 x1 x2 g0 g1 g2
            obtain ⟨c0, c1, c2⟩ := bb6.cells
            obtain ⟨f0, f1, f2⟩ := bb6.soft
            have BX6 := Lib.hid bx6
            have BB6 := Lib.hid bb6
            have hBit := bit_of s i HBD.out.b63
            have pf := i64_pow i (by omega)
            clear bx6 bb6 hb6 BX5 BB5 hC6 HW5 hi m4 m5
            rcases Bool.eq_false_or_eq_true (s.testBit i) with ht | ht
            · have hlt := popc_pow ht (by omega)
              have hsub : (s : Int) - (pow2 i : Nat) = ((s - pow2 i : Nat) : Int) := by omega
              have hs63 := HBD.out.b63
              unfold B63 at hs63
              have hs1 : (s : Int) ≤ 9223372036854775807 := by omega
              have hs2 : ((pow2 i : Nat) : Int) < (s : Int) := by omega
              have hs3 : (0 : Int) ≤ ((pow2 i : Nat) : Int) := by omega
              have hnew : BdOk x y (s - pow2 i) := ⟨HBD.out.w1, HBD.out.w7, HBD.out.h1, HBD.out.h7, by omega, by have := HBD.out.s2; omega⟩
              have HNEW := Lib.hid hnew
              rw [ht] at hBit
              clear ht hnew hlt hs63
              go_wp2_with fail
              go_region
              go_wp2
              go_roundw
              case rel => exact ⟨k - 1, s - pow2 i, by go_num, by omega, HNEW.out, (hC7.setCell (by simpa using hbg) _).drew, BX6.out.far (by simp; omega) _, by exact BB6.out.set2 _, (HW6.out.setCell (.inl (by simp; omega)) _).drew⟩
              case measure => simp [intOf]; omega
            · rw [ht] at hBit
              clear ht
              go_wp2_with fail
              go_roundw
              case rel => exact ⟨k - 1, s, by go_num, by omega, HBD.out, hC7, BX6.out, BB6.out, HW6.out⟩
              case measure => simp [intOf]; omega
          · go_wp2_with fail
            refine bodyPost_ret (v := .agg #[.int .i64 x, .int .i64 y, .int .i64 s]) (by simp [results, Try.results101, go_sem, *]) rfl ⟨x, y, s, HBD.out, ⟨HSM.out, by omega, by omega⟩, rfl, ?_, ?_⟩
            · exact ((hC6.setCell (by simpa using hbl) _).setCell (by simpa using hbl) _).setCell (by simpa using hbl) _
            · exact ((HW5.out.setCell (.inl (by simp)) _).setCell (.inl (by simp)) _).setCell (.inl (by simp)) _
        · obtain ⟨c0, c1, c2⟩ := bb.cells
          obtain ⟨f0, f1, f2⟩ := bb.soft
          obtain ⟨x0, x1, x2⟩ := bx.cells
          obtain ⟨g0, g1, g2⟩ := bx.soft
          clear bx bb hbd
          go_wp2_with fail
          refine bodyPost_ret (v := .agg #[.int .i64 x, .int .i64 y, .int .i64 s]) (by simp [results, Try.results101, go_sem, *]) rfl ⟨x, y, s, HBD.out, ⟨HSM.out, by omega, by omega⟩, rfl, ?_, ?_⟩
          · exact ((hC5.setCell (by simpa using hbl) _).setCell (by simpa using hbl) _).setCell (by simpa using hbl) _
          · exact ((hw.setCell (.inl (by simp)) _).setCell (.inl (by simp)) _).setCell (.inl (by simp)) _
end Go.Proofs.Ytbcgokpamhgabaa

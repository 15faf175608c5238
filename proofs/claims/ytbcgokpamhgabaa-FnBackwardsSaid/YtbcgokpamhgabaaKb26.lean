/- The contracts of the generators of positions and games: l04Some, l06Start, l06Play. The contract of the generator of games: l06Play. -/
import Derived.Test.YtbcgokpamhgabaaChecked
import Derived.Test.YtbcgokpamhgabaaKb01
import Derived.Tactics
import Derived.Tactics2
import Derived.WalkKit
import Derived.WalkSpells
import Derived.WalkLawsBesides
import Derived.Deep.QuietTactic
import Derived.BigQuiet
import Derived.BigGuardPart
import Derived.Lib.QuietBelow
import Derived.OwnWalk
import Derived.KernelRfl
import Derived.Test.YtbcgokpamhgabaaKb23
import Derived.Test.YtbcgokpamhgabaaKb25
import Derived.Test.YtbcgokpamhgabaaKb17
import Derived.Deep.RegionHeld3
import Derived.Deep.DeepCutAuto
namespace Go.Proofs.Ytbcgokpamhgabaa
set_option linter.unusedVariables false
set_option maxRecDepth 20000
open Go.RowKit Go.Sort

theorem rdc_of {w' : World} {b B : Nat} {A : Option Addr} {xs : List Value} (h : Rd w' w'.heap.size A xs) (hl : ∀ a, A = some a → B ≤ a.block) (hb : b < B) : RdC w' b w'.heap.size A xs := fun hn => by
  obtain ⟨g, off, e, h1, hc⟩ := h hn
  exact ⟨g, off, e, by have := hl _ e; simp at this; omega, h1, hc⟩
theorem RdC.next {w w' : World} {b : Nat} {A : Option Addr} {xs : List Value} (h : RdC w b w.heap.size A xs) (hb : Below w.heap.size w w') : RdC w' b w'.heap.size A xs := h.cb (cb_of hb b)

/-- All pegs of q lie in holes. -/
def SubL (q : Nat) (hs : List Nat) : Prop := ∀ i, q.testBit i = true → i ∈ hs
theorem sub_add {q k : Nat} {hs : List Nat} (h : SubL q hs) (hk : k ∈ hs) : SubL (q ||| pow2 k) hs := fun i hi => by
  rw [Nat.testBit_or, testBit_pow2] at hi
  rcases Bool.eq_false_or_eq_true (q.testBit i) with h1 | h1
  · exact h i h1
  · simp [h1] at hi
    subst hi
    exact hk
theorem sub_pos {w h s q : Nat} (hb : BdOk w h s) (hq : SubL q (holesL ⟨w, h, s⟩)) : q &&& s = q := by
  apply Nat.eq_of_testBit_eq
  intro i
  rw [Nat.testBit_and]
  cases hi : q.testBit i with
  | false => rfl
  | true =>
    have := hq i hi
    rw [holesL_yes hb, bits_mem] at this
    simp [this.2]
theorem sub_nil {q : Nat} (h : SubL q []) : q = 0 := by
  apply Nat.eq_of_testBit_eq
  intro i
  rw [Nat.zero_testBit]
  cases hi : q.testBit i with
  | false => rfl
  | true => have := h i hi; simp at this
theorem sub_lt {q : Nat} {b : Ln} (h : SubL q (holesL b)) : q < 2 ^ 49 := by
  apply Nat.lt_pow_two_of_testBit
  intro i hi
  cases hq : q.testBit i with
  | false => rfl
  | true =>
    have := h i hq
    exfalso
    rcases Bool.eq_false_or_eq_true (boardB b) with hB | hB
    · obtain ⟨w, hh, s, rfl, hb⟩ := boardB_nat hB
      rw [holesL_yes hb, bits_mem] at this
      have := hb.area
      omega
    · rw [holesL_no hB] at this; simp at this
theorem holes_lt {b : Ln} {k : Nat} (h : k ∈ holesL b) : k < 49 := by
  rcases Bool.eq_false_or_eq_true (boardB b) with hB | hB
  · obtain ⟨w, hh, s, rfl, hb⟩ := boardB_nat hB
    rw [holesL_yes hb, bits_mem] at h
    have := hb.area
    omega
  · rw [holesL_no hB] at h; simp at h

/-- A position, drawn. -/
def GivesPos (T : TypeId) (b : Nat) (bd : Ln) (w : World) (e : Ending) (w' : World) : Prop :=
  ∃ q : Nat, SubL q (holesL bd) ∧ e = .returned (.int .i64 q) ∧ Cur T b w' ∧ Cb w.heap.size b w w'

set_option maxHeartbeats 1000000 in
theorem l04Some_ (g : Nat) (b : Ln) (W : World) (hC : Cur 129 g W) :
    Calls Try.prog 102 #[.pointer (some ⟨g, 0, none⟩), .agg #[.int .i64 b.f, .int .i64 b.o, .int .i64 b.t]] W (GivesPos 129 g b W) := by
  have hgl := hC.lt
  have hle := holesL_le b
  go_enter Try.func102, Try.ntmps102
  go_wp2_with fail
  refine (sHolesOfL_ b _).mono ?_
  rintro e w1 ⟨A, c, rfl, rd1, hb1, hlo⟩
  have hC1 := (hC.alloc _).next hb1
  have hw1 : Cb W.heap.size g W w1 := ((Cb.refl _ _ _).alloc (Nat.le_refl _) _).trans (cb_of (hb1.mono (by simp)) g)
  have RD1 := Lib.hid (rdc_of rd1 hlo (show g < _ by simp; omega))
  have HW1 := Lib.hid hw1
  have HMEM : Hid (∀ (i : Nat) (k : Nat), (holesL b)[i]? = some k → k ∈ holesL b) := Lib.hid fun i k h => List.mem_of_getElem? h
  have HLT : Hid (∀ k, k ∈ holesL b → k < 49) := Lib.hid fun k h => holes_lt h
  have HQL : Hid (∀ q, SubL q (holesL b) → q < 2 ^ 49) := Lib.hid fun q h => sub_lt h
  clear hb1 rd1 hlo hw1
  obtain ⟨hs, hhs⟩ : ∃ hs, holesL b = hs := ⟨_, rfl⟩
  have HHS := Lib.hid hhs
  rw [hhs] at RD1 hle HMEM HLT HQL ⊢
  clear hhs
  go_wp2_with fail
  go_loopw [5, 7] (fun pv kv wr => ∃ (q k : Nat), pv = .int .i64 q ∧ kv = .int .i64 k ∧ k ≤ hs.length ∧ SubL q hs ∧ Cur 129 g wr ∧ RdC wr g wr.heap.size A (ints (natL hs)) ∧ Cb W.heap.size g W wr) (fun _ kv _ => hs.length - (intOf kv).toNat)
  case atStart => exact ⟨0, 0, rfl, rfl, Nat.zero_le _, fun i hi => by simp at hi, hC1, RD1.out, HW1.out⟩
  case round =>
    obtain ⟨q, k, rfl, rfl, hk, hq, hCr, rdr, hwr⟩ := hrel
    have HQ := Lib.hid hq
    have RDR := Lib.hid rdr
    clear hq rdr
    by_cases hlt : k < hs.length
    · go_wp2_with fail
      refine (l01Below_ g 3 (by unfold I64; omega) _ hCr).mono ?_
      rintro e w2 ⟨r, hr, rfl, hC2, hb2⟩
      have RD2 := Lib.hid (RDR.out.cb hb2)
      have HW2 := Lib.hid (hwr.next hb2)
      clear hwr hb2
      by_cases h0 : 0 < r
      · obtain ⟨bb, off, x, rfl, hbl, hx, x0⟩ := RD2.out.rd.int (k := k) (by rw [natL_length]; exact hlt)
        obtain ⟨m, hm, rfl⟩ : ∃ m : Nat, hs[k]? = some m ∧ x = m := by
          have hm : hs[k]? = some hs[k] := List.getElem?_eq_getElem hlt
          refine ⟨_, hm, ?_⟩
          rw [natL_get hm] at hx
          injection hx with hx
          exact hx.symm
        have hmem := HMEM.out _ _ hm
        have hm49 := HLT.out _ hmem
        have hq49 := HQL.out _ HQ.out
        have HN := Lib.hid (sub_add HQ.out hmem)
        have i0' : (0 : Int) ≤ (k : Int) := by omega
        have i1' : (k : Int) < (hs.length : Int) := by omega
        have pf := i64_pow m (by omega)
        have a1 := i64_or q (pow2 m) (by unfold B63; omega) (b63_pow2 (by omega))
        clear hx hm hmem hr
        go_wp2
        go_roundw
        case rel => exact ⟨q ||| pow2 m, k + 1, rfl, by go_num, hlt, HN.out, hC2, RD2.out, HW2.out⟩
        case measure => simp [intOf]; omega
      · go_wp2
        go_roundw
        case rel => exact ⟨q, k + 1, rfl, by go_num, hlt, HQ.out, hC2, RD2.out, HW2.out⟩
        case measure => simp [intOf]; omega
    · go_wp2
      go_ret
      exact ⟨q, by rw [HHS.out]; exact HQ.out, rfl, hCr, hwr⟩

theorem sub_cut {q x : Nat} {hs : List Nat} (h : SubL q hs) : SubL (adiff q x) hs := fun i hi => by
  rw [testBit_adiff] at hi
  exact h i (by simp only [Bool.and_eq_true] at hi; exact hi.1)
theorem take_bit {s i : Nat} (hs : B63 s) (h : s.testBit i = true) : (s : Int) - (pow2 i : Nat) = (adiff s (pow2 i) : Nat) ∧ ((pow2 i : Nat) : Int) ≤ (s : Int) := by
  have e : pow2 i &&& s = pow2 i := by
    apply Nat.eq_of_testBit_eq
    intro k
    rw [Nat.testBit_and, testBit_pow2]
    by_cases hk : i = k
    · subst hk; simp [h]
    · simp [hk]
  have := adiff_sub' hs e
  omega
theorem wrap_sub {s m : Nat} (hs : B63 s) (hm : m < 63) (h : s.testBit m = true) : IntKind.i64.wrap ((s : Int) - IntKind.i64.wrap ((2 : Int) ^ m)) = (adiff s (pow2 m) : Nat) := by
  have e : ∀ x : Int, IntKind.i64.wrap x = wrap64 x := fun x => by unfold wrap64; rw [IntKind.wrap_i64]
  rw [e, e, i64_pow m hm, (take_bit hs h).1]
  have := b63_adiff (b := pow2 m) hs
  unfold B63 at this
  unfold wrap64
  omega
theorem holes_one {w h s : Nat} (hb : BdOk w h s) : 0 < (holesL ⟨w, h, s⟩).length := by
  rw [holesL_yes hb]
  rcases Nat.eq_zero_or_pos (bitsOf s (w * h)).length with h0 | h0
  · exfalso
    have hn := List.eq_nil_of_length_eq_zero h0
    have hz : s = 0 := by
      apply Nat.eq_of_testBit_eq
      intro i
      rw [Nat.zero_testBit]
      cases hi : s.testBit i with
      | false => rfl
      | true =>
        have : i ∈ bitsOf s (w * h) := bits_mem.2 ⟨bit_lt hb.s2 hi, hi⟩
        rw [hn] at this; simp at this
    have := hb.s1
    omega
  · exact h0
theorem sub_self {w h s : Nat} (hb : BdOk w h s) : SubL s (holesL ⟨w, h, s⟩) := fun i hi => by
  rw [holesL_yes hb, bits_mem]
  exact ⟨bit_lt hb.s2 hi, hi⟩
theorem nat_int {hs : List Nat} {k : Nat} {x : Int} (h : (natL hs)[k]? = some x) : ∃ m : Nat, hs[k]? = some m ∧ x = m := by
  have hk : k < hs.length := by have := (List.getElem?_eq_some_iff.1 h).1; rwa [natL_length] at this
  have hm : hs[k]? = some hs[k] := List.getElem?_eq_getElem hk
  refine ⟨_, hm, ?_⟩
  rw [natL_get hm] at h
  injection h with h
  exact h.symm
set_option maxHeartbeats 2000000 in
theorem l06Start_ (g : Nat) (w h s : Nat) (hb : BdOk w h s) (W : World) (hC : Cur 129 g W) :
    Calls Try.prog 112 #[.pointer (some ⟨g, 0, none⟩), .agg #[.int .i64 w, .int .i64 h, .int .i64 s]] W (GivesPos 129 g ⟨w, h, s⟩ W) := by
  have hgl := hC.lt
  have hle := holesL_le ⟨w, h, s⟩
  have h1 := holes_one hb
  have HS := Lib.hid (sub_self hb)
  have HMEM : Hid (∀ (i : Nat) (k : Nat), (holesL ⟨w, h, s⟩)[i]? = some k → k ∈ holesL ⟨w, h, s⟩ ∧ s.testBit k = true ∧ k < 49) := Lib.hid fun i k hx => by
    have hm := List.mem_of_getElem? hx
    refine ⟨hm, ?_, holes_lt hm⟩
    rw [holesL_yes hb, bits_mem] at hm
    exact hm.2
  go_enter Try.func112, Try.ntmps112
  go_wp2_with fail
  refine (sHolesOfL_ ⟨w, h, s⟩ _).mono ?_
  rintro e w1 ⟨A, c, rfl, rd1, hb1, hlo⟩
  have hC1 := (hC.alloc _).next hb1
  have hw1 : Cb W.heap.size g W w1 := ((Cb.refl _ _ _).alloc (Nat.le_refl _) _).trans (cb_of (hb1.mono (by simp)) g)
  have RD1 := Lib.hid (rdc_of rd1 hlo (show g < _ by simp; omega))
  have bx1 := (box_new 42 W w h s).next hb1
  obtain ⟨c0, c1, c2⟩ := bx1.cells
  have HX1 := Lib.hid bx1
  have HW1 := Lib.hid hw1
  have HBD := Lib.hid hb
  have hbl1 := bx1.lt
  clear hb1 rd1 hlo hw1 bx1
  have HQ : Hid (∀ q, SubL q (holesL ⟨w, h, s⟩) → B63 q) := Lib.hid fun q h => by have := sub_lt h; unfold B63; omega
  have HG : Hid (∀ (q : Nat) (w' : World), SubL q (holesL ⟨w, h, s⟩) → Cur 129 g w' → Cb W.heap.size g W w' → GivesPos 129 g ⟨w, h, s⟩ W (.returned (.int .i64 q)) w') := Lib.hid fun q w' h1 h2 h3 => ⟨q, h1, rfl, h2, h3⟩
  obtain ⟨hs, hhs⟩ : ∃ hs, holesL ⟨w, h, s⟩ = hs := ⟨_, rfl⟩
  have HHS := Lib.hid hhs
  rw [hhs] at RD1 hle HMEM h1 HS HG HQ ⊢
  clear hhs
  have h1' : ¬ hs.length = 0 := by omega
  have h1'' : ¬ (hs.length : Int) = 0 := by omega
  go_wp2_with fail
  refine (l01Once_ g 3 (by unfold I64; omega) _ hC1).mono ?_
  rintro e w2 ⟨r, rfl, hC2, hb2⟩
  have RD2 := Lib.hid (RD1.out.cb hb2)
  have HW2 := Lib.hid (HW1.out.next hb2)
  have HX2 := Lib.hid (HX1.out.cb hb2 hgl)
  clear hb2 RD1 HW1 HX1 c0 c1 c2 hC1
  obtain ⟨c0, c1, c2⟩ := HX2.out.cells
  have hbl2 := HX2.out.lt
  cases r with
  | true =>
    go_wp2_with fail
    refine (l04Some_ g ⟨w, h, s⟩ _ hC2).mono ?_
    rintro e w3 ⟨q, hq, rfl, hC3, hb3⟩
    go_wp2
    go_ret
    exact HG.out q _ (by rw [HHS.out] at hq; exact hq) hC3 (HW2.out.next hb3)
  | false =>
    have hn0 : (0 : Int) < (hs.length : Int) := by omega
    have HTB : Hid (∀ i, s.testBit i = true → (s : Int) - (pow2 i : Nat) = (adiff s (pow2 i) : Nat) ∧ ((pow2 i : Nat) : Int) ≤ (s : Int)) := Lib.hid fun i hi => take_bit HBD.out.b63 hi
    go_upto_region 4 with fail
    go_cut [6] (fun v wc => ∃ q : Nat, v = .int .i64 q ∧ SubL q hs ∧ Cur 129 g wc ∧ RdC wc g wc.heap.size A (ints (natL hs)) ∧ Cb W.heap.size g W wc)
    case first =>
      go_region_with (first
        | (go_at_call 114; refine (l01Below_ g (hs.length : Int) (by unfold I64; omega) _ hC2.drew).mono ?_; rintro e w3 ⟨r, hr, rfl, hC3, hb3⟩; have HX3 := Lib.hid (HX2.out.drew.cb hb3 hgl); have RD3 := Lib.hid (RD2.out.drew.cb hb3); have HW3 := Lib.hid (HW2.out.drew.next hb3); have c2' := HX3.out.cells.2.2; have hr1 : r < hs.length := (by omega); have hr2 : (r : Int) < (hs.length : Int) := (by omega); obtain ⟨bb, off, x, rfl, hbl, hx, x0⟩ := RD3.out.rd.int (k := r) (by rw [natL_length]; exact hr1); obtain ⟨m, hm, rfl⟩ := nat_int hx; obtain ⟨hm1, hm2, hm3⟩ := HMEM.out _ _ hm; have pf := i64_pow m (by omega); have hsub := (HTB.out m hm2).1; have HN := Lib.hid (sub_cut (x := pow2 m) HS.out); clear hb3 hr hx hm))
      all_goals
        go_wp2_with fail
        go_meet
        exact ⟨adiff s (pow2 m), by rw [wrap_sub HBD.out.b63 (by omega) hm2], HN.out, hC3, RD3.out, HW3.out⟩
    case rest =>
      obtain ⟨q, rfl, hq, hC3, rd3, hw3⟩ := hcut
      have HQ3 := Lib.hid hq
      have RD3 := Lib.hid rd3
      have HW3 := Lib.hid hw3
      have q63 := HQ.out q hq
      have hC4 : Cur 129 g wc := hC3
      clear hq rd3 hw3 hC2 RD2 HW2 HX2 c0 c1 c2
      go_wp2_with fail
      refine (l01Below_ g (hs.length : Int) (by unfold I64; omega) _ hC3).mono ?_
      rintro e w5 ⟨r, hr, rfl, hC5, hb5⟩
      have RD5 := RD3.out.cb hb5
      have HW5 := Lib.hid (HW3.out.next hb5)
      have hr1 : r < hs.length := by omega
      have hr2 : (r : Int) < (hs.length : Int) := by omega
      have hr3 : (0 : Int) ≤ (r : Int) := by omega
      obtain ⟨bb, off, x, rfl, hbl, hx, x0⟩ := RD5.rd.int (k := r) (by rw [natL_length]; exact hr1)
      obtain ⟨m, hm, rfl⟩ := nat_int hx
      obtain ⟨hm1, hm2, hm3⟩ := HMEM.out _ _ hm
      have hBit := bit_of q m q63
      have pf := i64_pow m (by omega)
      clear hb5 hr hx hm RD3 HW3 RD5
      rcases Bool.eq_false_or_eq_true (q.testBit m) with ht | ht
      · have hsub := take_bit q63 ht
        obtain ⟨hs1, hs2⟩ := hsub
        have HN := Lib.hid (sub_cut (x := pow2 m) HQ3.out)
        have q63' := q63
        unfold B63 at q63'
        have q64 : (q : Int) ≤ 9223372036854775807 := by omega
        have p0 : (0 : Int) ≤ ((pow2 m : Nat) : Int) := by omega
        rw [ht] at hBit
        clear ht q63'
        go_wp2_with fail
        refine (l01Once_ g 2 (by unfold I64; omega) _ hC5).mono ?_
        rintro e w6 ⟨b2, rfl, hC6, hb6⟩
        have HW6 := Lib.hid (HW5.out.next hb6)
        cases b2 with
        | true =>
          go_wp2
          go_ret
          exact HG.out _ _ HN.out hC6 HW6.out
        | false =>
          go_wp2
          go_ret
          exact HG.out _ _ HQ3.out hC6 HW6.out
      · rw [ht] at hBit
        clear ht
        go_wp2
        go_ret
        exact HG.out _ _ HQ3.out hC5 HW5.out

theorem Slab.cb {w w' : World} {base b : Nat} {v0 : Option Addr} {e : TypeId} {size n : Nat} {v : Value} {xs : List Value} (h : Slab w base v0 e size v n xs) (hb : Cb w.heap.size b w w') (hB : b < base) : Slab w' base v0 e size v n xs := by
  rcases h with h | h
  · exact .inl (own_cb h hb hB)
  · exact .inr h
theorem RdC.line {w : World} {b B : Nat} {A : Option Addr} {ls : List Ln} {k : Nat} (h : RdC w b B A (flat ls)) (hk : k < ls.length) :
    ∃ g off l, A = some ⟨g, off, none⟩ ∧ g < B ∧ ls[k]? = some l ∧ w.cell? ⟨g, off + k * 3, none⟩ = some (.int .i64 l.f) ∧ w.cell? ⟨g, off + k * 3 + 1, none⟩ = some (.int .i64 l.o) ∧ w.cell? ⟨g, off + k * 3 + 2, none⟩ = some (.int .i64 l.t) := h.rd.line hk

/-- A game that can be played, drawn. -/
def GivesGame (T TL : TypeId) (g : Nat) (b : Ln) (p : Int) (n : Int) (w : World) (e : Ending) (w' : World) : Prop :=
  ∃ (ls : List Ln) (A : Option Addr) (c : Nat), (ls.length : Int) ≤ n ∧ playsB b p ls = true ∧ e = .returned (.slice A ls.length c) ∧ Rd w' w'.heap.size A (flat ls) ∧ (∀ a, A = some a → w.heap.size ≤ a.block) ∧ Cur T g w' ∧ Cb w.heap.size g w w'

set_option maxHeartbeats 4000000 in
theorem l06Play_ (g : Nat) (w h s : Nat) (hb : BdOk w h s) (p : Int) (hP : posB ⟨w, h, s⟩ p = true) (n : Nat) (hn : n ≤ 60) (W : World) (hC : Cur 129 g W) :
    Calls Try.prog 113 #[.pointer (some ⟨g, 0, none⟩), .agg #[.int .i64 w, .int .i64 h, .int .i64 s], .int .i64 p, .int .i64 n] W (GivesGame 129 34 g ⟨w, h, s⟩ p n W) := by
  obtain ⟨i0, hi, hz0, hz1, hz2⟩ := info_parts infoLine
  have hgl := hC.lt
  have HBD := Lib.hid hb
  have HPOS : Hid (∀ ls, posB ⟨w, h, s⟩ (playP ⟨w, h, s⟩ p ls) = true) := Lib.hid fun ls => playP_pos hP ls
  have HI : Hid (∀ ls, I64 (playP ⟨w, h, s⟩ p ls)) := Lib.hid fun ls => posB_i64 (playP_pos hP ls)
  have HDO : Hid (∀ q l, l ∈ jumpsL ⟨w, h, s⟩ q → doB ⟨w, h, s⟩ q l = true) := Lib.hid fun q l hl => jumps_do hl
  have HLE : Hid (∀ q, (jumpsL ⟨w, h, s⟩ q).length ≤ 196) := Lib.hid fun q => jumpsL_le _ q
  have hn' : (n : Int) ≤ 60 := by omega
  clear hP hb
  go_enter Try.func113, Try.ntmps113
  go_wp2_with fail
  go_loopw [2, 9, 10] (fun pv ov kv wr => ∃ (ls : List Ln) (A : Option Addr) (c : Nat), pv = .int .i64 (playP ⟨w, h, s⟩ p ls) ∧ ov = .slice A ls.length c ∧ kv = .int .i64 ls.length ∧ ls.length ≤ n ∧ playsB ⟨w, h, s⟩ p ls = true ∧ Slab wr (W.heap.size + 2) (some ⟨W.heap.size + 1, 0, none⟩) 34 3 (.slice A ls.length c) ls.length (flat ls) ∧
      Cur 129 g wr ∧ Box 42 wr W.heap.size w h s ∧ Cb W.heap.size g W wr ∧ W.heap.size + 2 ≤ wr.heap.size) (fun _ _ kv _ => n - (intOf kv).toNat)
  case atStart => exact ⟨[], _, _, rfl, rfl, rfl, Nat.zero_le _, rfl, slab_zero _ _ _ _ _, (hC.alloc _).alloc _, (box_new _ _ _ _ _).alloc _, ((Cb.refl _ _ _).alloc (Nat.le_refl _) _).alloc (by simp) _, by simp⟩
  case round =>
    obtain ⟨ls, A, c, rfl, rfl, rfl, hln, hpl, hsl, hCr, bx, hwr, hsz⟩ := hrel
    have HPL := Lib.hid hpl
    have HSL := Lib.hid hsl
    have HX := Lib.hid bx
    have hi64 := HI.out ls
    obtain ⟨c0, c1, c2⟩ := bx.cells
    have hzr := bx.lt
    clear hpl hsl bx
    by_cases hlt : ls.length < n
    · obtain ⟨J, hJ⟩ : ∃ J, jumpsL ⟨w, h, s⟩ (playP ⟨w, h, s⟩ p ls) = J := ⟨_, rfl⟩
      have HJ := Lib.hid hJ
      have hle := HLE.out (playP ⟨w, h, s⟩ p ls)
      rw [hJ] at hle
      clear hJ
      go_wp2_with fail
      refine (sJumpsOfL_ ⟨w, h, s⟩ (playP ⟨w, h, s⟩ p ls) hi64 _).mono ?_
      rintro e w2 ⟨A2, k2, rfl, rd2, hb2, hlo⟩
      rw [HJ.out] at rd2 ⊢
      have RD2 := Lib.hid (rdc_of (b := g) rd2 hlo (by omega))
      have hC2 := hCr.next hb2
      have HX2 := Lib.hid (HX.out.next hb2)
      have HS2 := Lib.hid (HSL.out.next hb2)
      have HW2 := Lib.hid (hwr.next (cb_of hb2 g))
      have hsz2 := Nat.le_trans hsz hb2.size
      clear hCr HX HSL hwr rd2 hb2 hlo c0 c1 c2
      by_cases h0 : J.length = 0
      · have h0' : (J.length : Int) = 0 := by omega
        go_wp2
        go_ret
        exact ⟨ls, A, c, by omega, HPL.out, rfl, rd_of_slab HS2.out, Slab.lo HS2.out (by omega) (fun a ha => by injection ha with ha; subst ha; show W.heap.size ≤ W.heap.size + 1; omega), hC2, HW2.out⟩
      · have h0' : ¬ (J.length : Int) = 0 := by omega
        have h0'' : (0 : Int) < (J.length : Int) := by omega
        go_wp2_with fail
        refine (l01Below_ g (J.length : Int) (by unfold I64; omega) _ hC2).mono ?_
        rintro e w3 ⟨r, hr, rfl, hC3, hb3⟩
        have hr1 : r < J.length := by omega
        have hr2 : (r : Int) < (J.length : Int) := by omega
        have hr3 : (0 : Int) ≤ (r : Int) := by omega
        have RD3 := RD2.out.cb hb3
        obtain ⟨bb, off, l, rfl, hbl, hl, x0, x1, x2⟩ := RD3.line hr1
        have HX3 := Lib.hid (HX2.out.cb hb3 (by omega))
        have HS3 := Lib.hid (HS2.out.cb hb3 (by omega))
        have HW3 := Lib.hid (HW2.out.next hb3)
        have hsz3 := Nat.le_trans hsz2 hb3.size
        have hzr3 : W.heap.size < w3.heap.size := by omega
        obtain ⟨c0, c1, c2⟩ := HX3.out.cells
        have hdo := HDO.out _ l (by rw [HJ.out]; exact List.mem_of_getElem? hl)
        have HNX := Lib.hid (show playsB ⟨w, h, s⟩ p (ls ++ [l]) = true from playsB_snoc HPL.out hdo)
        have HPX := Lib.hid (playP_snoc ⟨w, h, s⟩ p ls l)
        have HDX := Lib.hid hdo
        clear hr hb3 RD3 RD2 HX2 HS2 HW2 hC2 hl hdo
        go_wp2_with fail
        refine (sDoJump_ ⟨w, h, s⟩ l (playP ⟨w, h, s⟩ p ls) hi64 _).mono ?_
        rintro e w4 ⟨rfl, hb4⟩
        have HX4 := Lib.hid ((HX3.out.alloc _).next hb4)
        have HL4 := Lib.hid ((box_new 34 w3 l.f l.o l.t).next hb4)
        have hs4 := (HS3.out.alloc _).next hb4
        have hC4 := (hC3.alloc _).next hb4
        have HW4 := Lib.hid ((HW3.out.alloc (by omega) _).trans (cb_of (hb4.mono (by simp; omega)) g))
        have hsz4 : W.heap.size + 2 ≤ w4.heap.size := by have := hb4.size; simp at this; omega
        obtain ⟨y0, y1, y2⟩ := HL4.out.cells
        have hll := HL4.out.lt
        have hm60 : ls.length ≤ 60 := by omega
        clear hb4 HX3 HS3 HW3 x0 x1 x2 c0 c1 c2 HL4 hC3
        rw [HDX.out, ← HPX.out]
        go_wp2_with (at_builtin; refine wpList_append_slab _ rfl (.tmp 39) (.tmp 41) 24 rfl (W.heap.size + 2) (some ⟨W.heap.size + 1, 0, none⟩) 34 i0 _ 3 24 Try.underlying24 hi hz0 hz1 hz2 rfl (by decide) _ _ _ rfl (hs4.alloc _) ⟨w4.heap.size, 0, none⟩ 1 1 [.int .i64 l.f, .int .i64 l.o, .int .i64 l.t] rfl rfl (cell_three_new _ _ _ _ _ rfl rfl rfl) (by intro u hu; simp at hu; rcases hu with rfl | rfl | rfl <;> rfl) (by omega) (by unfold maxLen; omega) (by omega) (by simp; omega) ?_; intro gA cap wA ownA hbA)
        have HO := Lib.hid ownA
        have HXA := Lib.hid (((HX4.out.alloc _).keep (hbA.block W.heap.size (by omega))))
        have HCA := Lib.hid ((hC4.alloc _).keep fun k hk => hbA.block k (by omega))
        have HWA := Lib.hid ((HW4.out.alloc (by omega) _).trans (cb_of (hbA.mono (by omega)) g))
        have hszA : W.heap.size + 2 ≤ wA.heap.size := by have := hbA.size; simp at this; omega
        have eL : ls.length + 1 = (ls ++ [l]).length := by simp
        clear ownA hs4 hC4 hbA
        go_wp2
        go_roundw
        case rel => exact ⟨ls ++ [l], some ⟨gA, 0, none⟩, cap, rfl, by rw [eL], by rw [← eL]; go_num, by simp; omega, HNX.out, .inl (by rw [← eL, flat_append]; exact HO.out), HCA.out, HXA.out, HWA.out, hszA⟩
        case measure => simp [intOf]; omega
    · go_wp2
      go_ret
      exact ⟨ls, A, c, by omega, HPL.out, rfl, rd_of_slab HSL.out, Slab.lo HSL.out (by omega) (fun a ha => by injection ha with ha; subst ha; show W.heap.size ≤ W.heap.size + 1; omega), hCr, hwr⟩
end Go.Proofs.Ytbcgokpamhgabaa

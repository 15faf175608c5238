/- The contracts of (spread).has, (sweeper).cost and (sweeper).fewest. -/
import Derived.Test.YtliljgmpdfdakaaChecked
import Derived.Test.YtliljgmpdfdakaaMem
import Derived.Tactics
import Derived.Tactics2
import Derived.WalkKit
import Derived.WalkSpells
import Derived.WalkLawsBesides
import Derived.Deep.QuietTactic
import Derived.BigQuiet
import Derived.BigGuardPart
import Derived.Lib.QuietBelow
import Derived.OwnWalk
import Derived.KernelRfl
import Derived.Test.YtliljgmpdfdakaaMemoA
import Derived.Test.YtliljgmpdfdakaaSweepP
import Derived.Test.YtliljgmpdfdakaaJump
import Derived.Test.YtliljgmpdfdakaaReach
import Derived.Test.YtliljgmpdfdakaaReachF
import Derived.Test.YtliljgmpdfdakaaWay
set_option linter.unusedVariables false
set_option maxRecDepth 20000
namespace Go.Proofs.Ytliljgmpdfdakaa
open Go.RowKit Go.Sort Go.Maps

def hasB (bs : List Bool) (p : Int) : Bool := decide (0 ≤ p) && (decide (p < bs.length) && bs.getD p.toNat false)
theorem hasB_nat (bs : List Bool) (p : Nat) : hasB bs p = bs.getD p false := by
  unfold hasB
  rw [decide_eq_true (by omega), Bool.true_and, Int.toNat_natCast]
  by_cases h : p < bs.length
  · rw [decide_eq_true (by omega), Bool.true_and]
  · rw [decide_eq_false (by omega), Bool.false_and, List.getD_eq_getElem?_getD, List.getElem?_eq_none (by omega)]; rfl
set_option maxHeartbeats 1000000 in
theorem has_ (bs : List Bool) (A : Option Addr) (c : Nat) (p : Int) (hn : bs.length ≤ 65536) (w : World) (rd : Rd w w.heap.size A (bools bs)) :
    Calls Try.prog 54 #[.slice A bs.length c, .int .i64 p] w fun e w' => e = .returned (.bool (hasB bs p)) ∧ w = w' := by
  rcases Bool.eq_false_or_eq_true (decide (0 ≤ p)) with h0 | h0
  · have h0' := of_decide_eq_true h0
    obtain ⟨q, rfl⟩ := Int.eq_ofNat_of_zero_le h0'
    rcases Bool.eq_false_or_eq_true (decide ((q : Int) < bs.length)) with h1 | h1
    · have h1' := of_decide_eq_true h1
      obtain ⟨b, off, rfl, hb, x0⟩ := rd_bool (k := q) rd (by omega)
      have HR := Lib.hid (show hasB bs (q : Int) = bs.getD q false from hasB_nat bs q)
      generalize bs.getD q false = v at x0 HR
      go_enter Try.func54, Try.ntmps54
      go_wp2
      go_ret
      exact ⟨ret_bool HR.out.symm, rfl⟩
    · have HR : Hid (hasB bs (q : Int) = false) := Lib.hid (by rw [hasB, h1]; simp)
      have hge : bs.length ≤ q := by have := of_decide_eq_false h1; omega
      have hge' : decide (q < bs.length) = false := decide_eq_false (by omega)
      go_enter Try.func54, Try.ntmps54
      go_wp2
      go_ret
      exact ⟨ret_bool HR.out.symm, rfl⟩
  · have HR : Hid (hasB bs p = false) := Lib.hid (by rw [hasB, h0]; simp)
    have hneg : p < 0 := by have := of_decide_eq_false h0; omega
    go_enter Try.func54, Try.ntmps54
    go_wp2
    go_ret
    exact ⟨ret_bool HR.out.symm, rfl⟩
/-- A line's box in memory. -/
def BoxS (w : World) (b : Nat) (x0 x1 x2 : Value) : Prop := b < w.heap.size ∧ w.cell? ⟨b, 0, none⟩ = some x0 ∧ w.cell? ⟨b, 1, none⟩ = some x1 ∧ w.cell? ⟨b, 2, none⟩ = some x2
theorem BoxS.kept {w w' : World} {b : Nat} {x0 x1 x2 : Value} {row : Option Nat} (h : BoxS w b x0 x1 x2) (hg : w.grownBy w' row) (hne : some b ≠ row) : BoxS w' b x0 x1 x2 := by
  obtain ⟨h0, a, b', c⟩ := h
  have hb := hg.block b h0 hne
  exact ⟨Nat.lt_of_lt_of_le h0 hg.size, (World.cell?_of_block (a := ⟨b, 0, none⟩) hb).trans a, (World.cell?_of_block (a := ⟨b, 1, none⟩) hb).trans b', (World.cell?_of_block (a := ⟨b, 2, none⟩) hb).trans c⟩
def goodL (bs : List Bool) (x : Nat) : Bool := bs.getD x false
/-- What one call of fewest is to do, at all positions of n pegs. -/
def FewAt (ls : List Ln) (bs : List Bool) (A : Option Addr) (c : Nat) (A2 : Option Addr) (c2 : Nat) (g M N n : Nat) : Prop :=
  ∀ p : Nat, popc p = n → p < N → ∀ a : Int, -1 ≤ a → a < 63 → ∀ W : World, RdM W M A (flat ls) → RdM W M A2 (bools bs) → M < W.heap.size → MemoA W M N (swp ls (goodL bs) g) →
    Calls Try.prog 55 #[.agg #[.slice A ls.length c, .slice A2 bs.length c2, .int .i64 g, .map (some M)], .int .i64 p, .int .i64 a] W fun e w' =>
      e = .returned (.int .i64 (swp ls (goodL bs) g p a)) ∧ MemoA w' M N (swp ls (goodL bs) g) ∧ W.grownBy w' (some M)
/-- What one call of cost is to do. -/
def CostAt (ls : List Ln) (bs : List Bool) (A : Option Addr) (c : Nat) (A2 : Option Addr) (c2 : Nat) (g M N n : Nat) : Prop :=
  ∀ p : Nat, popc p = n → p < N → ∀ a : Int, -1 ≤ a → a < 63 → ∀ l ∈ ls, ∀ W : World, RdM W M A (flat ls) → RdM W M A2 (bools bs) → M < W.heap.size → MemoA W M N (swp ls (goodL bs) g) →
    Calls Try.prog 62 #[.agg #[.slice A ls.length c, .slice A2 bs.length c2, .int .i64 g, .map (some M)], .int .i64 p, .int .i64 a, .agg #[.int .i64 l.f, .int .i64 l.o, .int .i64 l.t]] W fun e w' =>
      e = .returned (.int .i64 (costS (swp ls (goodL bs) g) (goodL bs) p a l)) ∧ MemoA w' M N (swp ls (goodL bs) g) ∧ W.grownBy w' (some M)
set_option maxHeartbeats 2000000 in
theorem cost_go (ls : List Ln) (bs : List Bool) (A : Option Addr) (c : Nat) (A2 : Option Addr) (c2 : Nat) (g M N n : Nat) (hN : N ≤ 65536) (hst : Stays N ls) (h49 : ∀ l ∈ ls, Ln49 l) (hbl : bs.length ≤ 65536)
    (ih : ∀ m, m < n → FewAt ls bs A c A2 c2 g M N m) : CostAt ls bs A c A2 c2 g M N n := by
  intro p hp hpN a ha1 ha2 l hl W rd rd2 hM memo
  have hp63 : B63 p := by unfold B63; omega
  have HIH := Lib.hid ih
  have HQN := Lib.hid (hst l hl p hpN)
  have HJ := Lib.hid (popc_jump (p := p) (h49 l hl))
  have HBD := Lib.hid (fun (q : Nat) (t : Int) => swp_bd h49 (good := goodL bs) (g := g) q t)
  have hp49 : popc p ≤ 49 := by
    have := List.length_filter_le p.testBit (List.range 49)
    simpa [popc, bitsOf] using this
  obtain ⟨f, o, t, rfl, f1, o1, t1, hft, hot, hfo⟩ := h49 l hl
  have HF := Lib.hid hft
  have HO := Lib.hid hot
  have HM := Lib.hid memo
  have HR1 := Lib.hid rd
  have HR2 := Lib.hid rd2
  have HCN := Lib.hid (fun h => cost_no (f := swp ls (goodL bs) g) (good := goodL bs) (p := p) (last := a) (l := ⟨f, o, t⟩) h)
  have HCY := Lib.hid (fun h => cost_yes (f := swp ls (goodL bs) g) (good := goodL bs) (p := p) (last := a) (l := ⟨f, o, t⟩) h)
  obtain ⟨W2, hW2⟩ : ∃ W2, W2 = (W.alloc (.cells #[.slice A ls.length c, .slice A2 bs.length c2, .int .i64 g, .map (some M)] 73)).alloc (.cells #[.int .i64 f, .int .i64 o, .int .i64 t] 51) := ⟨_, rfl⟩
  have hg2 : W.grownBy W2 none := by subst hW2; exact grown_then (World.grownBy_alloc _ _ _) (World.grownBy_alloc _ _ _)
  have HB2 : Hid (Box4 W2 W.heap.size (.slice A ls.length c) (.slice A2 bs.length c2) (.int .i64 g) (.map (some M))) := Lib.hid (by subst hW2; exact ⟨by simp; omega, by simp [go_sem], by simp [go_sem], by simp [go_sem], by simp [go_sem]⟩)
  have HX2 : Hid (BoxS W2 (W.heap.size + 1) (.int .i64 f) (.int .i64 o) (.int .i64 t)) := Lib.hid (by subst hW2; exact ⟨by simp, by simp [go_sem], by simp [go_sem], by simp [go_sem]⟩)
  have HG2 := Lib.hid hg2
  have HW2 := Lib.hid hW2
  clear ih hst h49 hl hft hot hfo memo rd rd2 hg2 hW2
  rcases Bool.eq_false_or_eq_true (canJ p ⟨f, o, t⟩) with h1 | h1
  · have hqp := HJ.out h1
    obtain ⟨Q, hQ⟩ : ∃ Q, flip p ⟨f, o, t⟩ = Q := ⟨_, rfl⟩
    rw [h1, hQ] at HCN HCY
    rw [hQ] at HQN hqp
    have HQ := Lib.hid hQ
    have hQN := HQN.out
    clear hQ
    go_enter Try.func62, Try.ntmps62
    go_wp2_with fail
    rw [← HW2.out]
    refine (is2c (jumpFrom_ p f o t hp63 (by omega) (by omega) (by omega) HF.out HO.out _) (show _ = (Q : Int) by rw [h1, if_pos rfl, HQ.out]) h1).mono ?_
    rintro e w1 ⟨rfl, hb1⟩
    have HG1 := Lib.hid (grown_then HG2.out (grown_below hb1 none))
    have HB1 := Lib.hid (HB2.out.kept (grown_below hb1 none) (by simp))
    have HX1 := Lib.hid (HX2.out.kept (grown_below hb1 none) (by simp))
    have HM1 := Lib.hid (HM.out.kept HG1.out (by simp))
    obtain ⟨hz, d0, d1, d2, d3⟩ := HB1.out
    obtain ⟨hz', e0, e1, e2⟩ := HX1.out
    have HR1' := Lib.hid (HR1.out.grown (HG1.out.but (some M)))
    have HR2' := Lib.hid (HR2.out.grown (HG1.out.but (some M)))
    clear hb1
    rcases Bool.eq_false_or_eq_true (goodL bs Q) with h2 | h2
    · have HC := Lib.hid (HCY.out (by rw [h2]; rfl))
      have hbd := HBD.out Q t
      have hpq : popc Q ≤ 49 := by omega
      go_wp2_with fail
      refine (is_ (has_ bs A2 c2 Q hbl _ HR2'.out.rd) ((hasB_nat bs Q).trans h2)).mono ?_
      rintro e w' ⟨rfl, rfl⟩
      go_wp2_with fail
      refine (HIH.out (popc Q) (by omega) Q rfl hQN t (by omega) (by omega) w1 HR1'.out HR2'.out (Nat.lt_of_lt_of_le hM HG1.out.size) HM1.out).mono ?_
      rintro e w3 ⟨rfl, hm3, hg3⟩
      have HM3 := Lib.hid hm3
      have HG3 := Lib.hid (grown_then (HG1.out.but (some M)) hg3)
      have hMne : W.heap.size + 1 ≠ M := by omega
      obtain ⟨hz3, l0, l1, l2⟩ := HX1.out.kept hg3 (fun e => by injection e with e; omega)
      obtain ⟨v, hv⟩ : ∃ v, swp ls (goodL bs) g Q t = v := ⟨_, rfl⟩
      rw [hv] at hbd HC
      rw [hv]
      clear hm3 hg3 d0 d1 d2 d3 e0 e1 e2 hv
      rcases Bool.eq_false_or_eq_true ((f : Int) == a) with h3 | h3
      · have h3n : ((f : Int) != a) = false := by simpa using h3
        have HV : Hid (costS (swp ls (goodL bs) g) (goodL bs) p a ⟨f, o, t⟩ = v) := Lib.hid (by rw [HC.out, if_pos (show (f : Int) = a by simpa using h3)]; omega)
        go_wp2
        go_ret
        exact ⟨ret_int HV.out.symm, HM3.out, HG3.out⟩
      · have h3n : ((f : Int) != a) = true := by simpa using h3
        have HV : Hid (costS (swp ls (goodL bs) g) (goodL bs) p a ⟨f, o, t⟩ = v + 1) := Lib.hid (by rw [HC.out, if_neg (show ¬ (f : Int) = a by simpa using h3)])
        go_wp2
        go_ret
        exact ⟨ret_int HV.out.symm, HM3.out, HG3.out⟩
    · have HC := Lib.hid (HCN.out (by rw [h2]; rfl))
      go_wp2_with fail
      refine (is_ (has_ bs A2 c2 Q hbl _ HR2'.out.rd) ((hasB_nat bs Q).trans h2)).mono ?_
      rintro e w' ⟨rfl, rfl⟩
      go_wp2
      go_ret
      exact ⟨ret_int HC.out.symm, HM1.out, HG1.out.but (some M)⟩
  · have HC := Lib.hid (HCN.out (by rw [h1]; rfl))
    go_enter Try.func62, Try.ntmps62
    go_wp2_with fail
    rw [← HW2.out]
    refine (is2c (jumpFrom_ p f o t hp63 (by omega) (by omega) (by omega) HF.out HO.out _) rfl h1).mono ?_
    rintro e w1 ⟨rfl, hb1⟩
    have HG1 := Lib.hid (grown_then HG2.out (grown_below hb1 none))
    have HM1 := Lib.hid (HM.out.kept HG1.out (by simp))
    go_wp2
    go_ret
    exact ⟨ret_int HC.out.symm, HM1.out, HG1.out.but (some M)⟩
set_option maxHeartbeats 4000000 in
theorem fewest_go (ls : List Ln) (bs : List Bool) (A : Option Addr) (c : Nat) (A2 : Option Addr) (c2 : Nat) (g M N n : Nat) (hN : N ≤ 65536) (hst : Stays N ls) (h49 : ∀ l ∈ ls, Ln49 l) (hbl : bs.length ≤ 65536) (hlen : ls.length ≤ 196) (hgN : g < N)
    (hcost : CostAt ls bs A c A2 c2 g M N n) : FewAt ls bs A c A2 c2 g M N n := by
  intro p hp hpN a ha1 ha2 W rd rd2 hM memo
  have hkey := keyA (p := p) (a := a) (by omega) ⟨ha1, ha2⟩
  have HKL := Lib.hid (lawA.key hkey)
  have HK := Lib.hid hkey
  have H49 := Lib.hid h49
  have HCO := Lib.hid hcost
  have hpc : popc p ≤ 49 := by
    have := List.length_filter_le p.testBit (List.range 49)
    simpa [popc, bitsOf] using this
  have HCB := Lib.hid (fun (l : Ln) (hl : l ∈ ls) => cost_bd h49 (good := goodL bs) (g := g) (p := p) (last := a) hl)
  have HFB := Lib.hid (fun (k : Nat) => foldB_bd (f := swp ls (goodL bs) g) (good := goodL bs) (p := p) (last := a) (m := popc p) (ls.take k) (fun l hl => cost_bd h49 (List.mem_of_mem_take hl)))
  have HR1 := Lib.hid rd
  have HR2 := Lib.hid rd2
  obtain ⟨W1, hW1⟩ : ∃ W1, W1 = W.alloc (.cells #[.slice A ls.length c, .slice A2 bs.length c2, .int .i64 g, .map (some M)] 73) := ⟨_, rfl⟩
  have hg1 : W.grownBy W1 none := by subst hW1; exact World.grownBy_alloc _ _ _
  have HB1 : Hid (Box4 W1 W.heap.size (.slice A ls.length c) (.slice A2 bs.length c2) (.int .i64 g) (.map (some M))) := Lib.hid (by subst hW1; exact ⟨by simp, by simp [go_sem], by simp [go_sem], by simp [go_sem], by simp [go_sem]⟩)
  have HM1 := Lib.hid (memo.kept hg1 (by simp))
  have HG1 := Lib.hid hg1
  have HSZ : Hid (W1.heap.size = W.heap.size + 1) := Lib.hid (by subst hW1; simp)
  clear hst h49 hcost hkey memo rd rd2 hg1
  rcases Bool.eq_false_or_eq_true ((p : Int) == (g : Int)) with hgo | hgo
  · have hpg : p = g := by have : (p : Int) = (g : Int) := by simpa using hgo
                           omega
    have HR : Hid (swp ls (goodL bs) g p a = 0) := Lib.hid (by rw [hpg]; exact swp_goal)
    have HGM := Lib.hid (HG1.out.but (some M))
    rw [hW1] at HM1 HGM
    clear hW1 hpg
    go_enter Try.func55, Try.ntmps55
    go_wp2
    go_ret
    exact ⟨by rw [HR.out]; rfl, HM1.out, HGM.out⟩
  · have hne : p ≠ g := by
      intro e; subst e; simp at hgo
    have HSW := Lib.hid (swp_eq H49.out (good := goodL bs) (last := a) hne)
    obtain ⟨W2, hW2⟩ : ∃ W2, W2 = W1.alloc (.cells #[.int .i64 p, .int .i64 a] 97) := ⟨_, rfl⟩
    have hg2 : W1.grownBy W2 none := by subst hW2; exact World.grownBy_alloc _ _ _
    have HB2 := Lib.hid (HB1.out.kept hg2 (by simp))
    have HM2 := Lib.hid (HM1.out.kept hg2 (by simp))
    have HG2 := Lib.hid (grown_then HG1.out hg2)
    have HS2 : Hid (W2.heap.size = W.heap.size + 1 + 1 ∧ W2.cell? ⟨W.heap.size + 1, 0, none⟩ = some (.int .i64 p) ∧ W2.cell? ⟨W.heap.size + 1, 1, none⟩ = some (.int .i64 a)) := Lib.hid (by
      subst hW2
      refine ⟨by simp [HSZ.out], ?_, ?_⟩
      · rw [← HSZ.out]; simp [go_sem]
      · rw [← HSZ.out]; simp [go_sem])
    obtain ⟨n0, D, own, hn0, hn, hat⟩ := HM2.out
    have HAT := Lib.hid hat
    have hMW : M < W2.heap.size := by have := HG2.out.size; omega
    obtain ⟨hz2, d0, d1, d2, d3⟩ := HB2.out
    obtain ⟨s0, s1, s2⟩ := HS2.out
    have hzk : W.heap.size + 1 < W2.heap.size := by omega
    have HNE := Lib.hid hne
    have HW12 : Hid (W2 = (W.alloc (.cells #[.slice A ls.length c, .slice A2 bs.length c2, .int .i64 g, .map (some M)] 73)).alloc (.cells #[.int .i64 p, .int .i64 a] 97)) := Lib.hid (by rw [hW2, hW1])
    clear hat hg2 hW1 hW2 hne s0
    have own0 : ((W.alloc (.cells #[.slice A ls.length c, .slice A2 bs.length c2, .int .i64 g, .map (some M)] 73)).alloc (.cells #[.int .i64 p, .int .i64 a] 97)).ownsMap Try.prog 97 (plainElem Try.prog 3) M n0 D := by rw [← HW12.out]; exact own
    clear own
    rcases Bool.eq_false_or_eq_true (Maps.has D (kA p a)) with hh | hh
    · have HV := Lib.hid (HAT.out p a hpN ha1 ha2 hh)
      have HGM := Lib.hid (HG2.out.but (some M))
      rw [HW12.out] at HM2 HGM
      go_enter Try.func55, Try.ntmps55
      go_wp2_with (first | (at_lookup; refine wpList_lookup_own_ok_int _ rfl _ _ 71 rfl 97 3 .i64 lawA Try.underlying71 Try.underlying3 (zeroI _) M n0 D rfl own0 _ _ rfl HK.out ?_; intro cv hc1 hw1))
      have HC : Hid (cv = swp ls (goodL bs) g p a) := Lib.hid (by
        have := HV.out (.lit (.int .i64 0))
        rw [this] at hc1
        injection hc1 with h1
        injection h1 with _ h2
        exact h2.symm)
      go_ret
      exact ⟨by rw [← HC.out]; rfl, HM2.out, HGM.out⟩
    · go_enter Try.func55, Try.ntmps55
      go_wp2_with (first | (at_lookup; refine wpList_lookup_own_ok_int _ rfl _ _ 71 rfl 97 3 .i64 lawA Try.underlying71 Try.underlying3 (zeroI _) M n0 D rfl own0 _ _ rfl HK.out ?_; intro cv hc1 hw1))
      clear hc1 hw1
      rw [← HW12.out]
      go_loopw [10, 33] (fun bv iv wr => ∃ i : Nat, i ≤ ls.length ∧ iv = .int .i64 i ∧ bv = .int .i64 (foldB (swp ls (goodL bs) g) (goodL bs) p a (ls.take i)) ∧ MemoA wr M N (swp ls (goodL bs) g) ∧ W2.grownBy wr (some M)) (fun _ iv _ => ls.length - (intOf iv).toNat)
      case atStart => exact ⟨0, Nat.zero_le _, rfl, rfl, HM2.out, World.grownBy.refl _ _⟩
      case round =>
        obtain ⟨i, hi, rfl, rfl, hmm, hgr⟩ := hrel
        have HMM := Lib.hid hmm
        have HGR := Lib.hid hgr
        have HGA := Lib.hid (grown_then (HG2.out.but (some M)) hgr)
        have hsz := hgr.size
        have hfb := HFB.out i
        obtain ⟨hbz, y0, y1, y2, y3⟩ := HB2.out.kept hgr (fun e => by injection e with e; omega)
        have u0 : wr.cell? ⟨W.heap.size + 1, 0, none⟩ = some (.int .i64 p) := (World.cell?_of_block (a := ⟨W.heap.size + 1, 0, none⟩) (hgr.block _ hzk (show some (W.heap.size + 1) ≠ some M from fun e => by injection e with e; omega))).trans s1
        have u1 : wr.cell? ⟨W.heap.size + 1, 1, none⟩ = some (.int .i64 a) := (World.cell?_of_block (a := ⟨W.heap.size + 1, 1, none⟩) (hgr.block _ hzk (show some (W.heap.size + 1) ≠ some M from fun e => by injection e with e; omega))).trans s2
        have hzk' : W.heap.size + 1 < wr.heap.size := by omega
        clear hmm d0 d1 d2 d3
        by_cases hlt : i < ls.length
        · have HRA := Lib.hid (HR1.out.grown HGA.out)
          have HRB := Lib.hid (HR2.out.grown HGA.out)
          obtain ⟨bb, off, l, rfl, hbl', hx, x0, x1, x2⟩ := HRA.out.rd.line hlt
          have HS := Lib.hid (foldB_take (f := swp ls (goodL bs) g) (good := goodL bs) (p := p) (last := a) hx)
          have HLM := Lib.hid (List.mem_of_getElem? hx)
          have hcb := HCB.out l HLM.out
          have i0 : (0 : Int) ≤ (i : Int) := by omega
          have i1 : (i : Int) < (ls.length : Int) := by omega
          obtain ⟨bv, hbv⟩ : ∃ x, foldB (swp ls (goodL bs) g) (goodL bs) p a (ls.take i) = x := ⟨_, rfl⟩
          rw [hbv] at HS hfb ⊢
          obtain ⟨W5, hW5⟩ : ∃ W5, W5 = wr.alloc (.cells #[.int .i64 l.f, .int .i64 l.o, .int .i64 l.t] 51) := ⟨_, rfl⟩
          have hg5 : wr.grownBy W5 (some M) := by subst hW5; exact World.grownBy_alloc _ _ _
          have HM5 : Hid (MemoA W5 M N (swp ls (goodL bs) g)) := Lib.hid (by subst hW5; exact HMM.out.kept (World.grownBy_alloc _ _ none) (by simp))
          have HR5 := Lib.hid (HRA.out.grown hg5)
          have HR6 := Lib.hid (HRB.out.grown hg5)
          have HG5 := Lib.hid (grown_then HGR.out hg5)
          have hM5 : M < W5.heap.size := by have := hg5.size; omega
          have HW5 := Lib.hid hW5
          clear hx hbv hg5 hW5
          go_wp2_with fail
          rw [← HW5.out]
          refine (HCO.out p hp hpN a ha1 ha2 l HLM.out W5 HR5.out HR6.out hM5 HM5.out).mono ?_
          rintro e w6 ⟨rfl, hm6, hg6⟩
          have HM6 := Lib.hid hm6
          have HG6 := Lib.hid (grown_then HG5.out hg6)
          obtain ⟨cv, hcv⟩ : ∃ x, costS (swp ls (goodL bs) g) (goodL bs) p a l = x := ⟨_, rfl⟩
          rw [hcv] at HS hcb
          rw [hcv]
          clear hm6 hg6 hcv y0 y1 y2 y3 x0 x1 x2 u0 u1
          rcases Bool.eq_false_or_eq_true (decide (0 ≤ cv)) with h1 | h1
          · rcases Bool.eq_false_or_eq_true (decide (bv < 0)) with h2 | h2
            · have HX : Hid (bestS bv cv = cv) := Lib.hid (by rw [bestS, if_pos ⟨of_decide_eq_true h1, .inl (of_decide_eq_true h2)⟩])
              go_wp2
              go_roundw
              case rel => exact ⟨i + 1, by omega, by go_num, by rw [HS.out, HX.out], HM6.out, HG6.out⟩
              case measure => simp [intOf]; omega
            · rcases Bool.eq_false_or_eq_true (decide (cv < bv)) with h3 | h3
              · have HX : Hid (bestS bv cv = cv) := Lib.hid (by rw [bestS, if_pos ⟨of_decide_eq_true h1, .inr (of_decide_eq_true h3)⟩])
                go_wp2
                go_roundw
                case rel => exact ⟨i + 1, by omega, by go_num, by rw [HS.out, HX.out], HM6.out, HG6.out⟩
                case measure => simp [intOf]; omega
              · have HX : Hid (bestS bv cv = bv) := Lib.hid (by rw [bestS, if_neg (fun h => by rcases h.2 with h | h; exact of_decide_eq_false h2 h; exact of_decide_eq_false h3 h)])
                go_wp2
                go_roundw
                case rel => exact ⟨i + 1, by omega, by go_num, by rw [HS.out, HX.out], HM6.out, HG6.out⟩
                case measure => simp [intOf]; omega
          · have HX : Hid (bestS bv cv = bv) := Lib.hid (by rw [bestS, if_neg (fun h => of_decide_eq_false h1 h.1)])
            go_wp2
            go_roundw
            case rel => exact ⟨i + 1, by omega, by go_num, by rw [HS.out, HX.out], HM6.out, HG6.out⟩
            case measure => simp [intOf]; omega
        · have e : i = ls.length := by omega
          subst e
          obtain ⟨n1, D1, own1, hn1, hc1, hat1⟩ := HMM.out
          have HN1 := Lib.hid hn1
          have HAT1 := Lib.hid hat1
          have HC1 := Lib.hid hc1
          have hcl : n1 < maxLen := by have := cntB_le (fun i => Maps.has D1 (kA (i / 64) (((i % 64 : Nat) : Int) - 1))) (N * 64); unfold maxLen; omega
          rw [List.take_length] at hfb ⊢
          have HEND : ∀ (w' : World) (m : Nat), w'.ownsMap Try.prog 97 (plainElem Try.prog 3) M m (D1.put (kA p a) (.lit (.int .i64 (swp ls (goodL bs) g p a)))) → MemoA w' M N (swp ls (goodL bs) g) :=
            fun w' m h => MemoA.put hN ⟨ha1, ha2⟩ HKL.out own1 HN1.out HC1.out HAT1.out hpN h
          have HE := Lib.hid HEND
          clear hat1 hn1 hc1 HEND
          obtain ⟨v, hv⟩ : ∃ x, foldB (swp ls (goodL bs) g) (goodL bs) p a ls = x := ⟨_, rfl⟩
          rw [HSW.out, hv] at HE
          rw [hv] at hfb ⊢
          have HVV : Hid (swp ls (goodL bs) g p a = v) := Lib.hid (HSW.out.trans hv)
          clear hv
          go_wp2_with (first | (at_mapUpdate; refine wpList_mapUpdate_own _ rfl _ _ _ 71 rfl 97 3 lawA Try.underlying71 _ M n1 D1 rfl own1 hcl _ _ _ rfl rfl HK.out _ [] (plainElem_int Try.underlying3 (WalkArith.wf_i64 (by omega))) ?_; intro w4 own4 hg4))
          go_ret
          exact ⟨by rw [HVV.out]; rfl, HE.out _ _ own4, grown_then HGA.out hg4⟩
theorem fewest_all (ls : List Ln) (bs : List Bool) (A : Option Addr) (c : Nat) (A2 : Option Addr) (c2 : Nat) (g M N : Nat) (hN : N ≤ 65536) (hst : Stays N ls) (h49 : ∀ l ∈ ls, Ln49 l) (hbl : bs.length ≤ 65536) (hlen : ls.length ≤ 196) (hgN : g < N) :
    ∀ n, FewAt ls bs A c A2 c2 g M N n ∧ CostAt ls bs A c A2 c2 g M N n := by
  intro n
  induction n using Nat.strongRecOn with
  | _ n ih =>
    have hc := cost_go ls bs A c A2 c2 g M N n hN hst h49 hbl (fun m hm => (ih m hm).1)
    exact ⟨fewest_go ls bs A c A2 c2 g M N n hN hst h49 hbl hlen hgN hc, hc⟩
end Go.Proofs.Ytliljgmpdfdakaa

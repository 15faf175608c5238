/- A map of numbers that the call makes, as a memory of a function. The contracts of (counter).count and counterOf. -/
import Derived.Test.YtbcgokpamhgabaaChecked
import Derived.Test.YtbcgokpamhgabaaKc01
import Derived.Tactics
import Derived.Tactics2
import Derived.WalkKit
import Derived.WalkSpells
import Derived.WalkLawsBesides
import Derived.Deep.QuietTactic
import Derived.BigQuiet
import Derived.BigGuardPart
import Derived.Lib.QuietBelow
import Derived.OwnWalk
import Derived.KernelRfl
import Derived.Maps.OwnOps
import Derived.Maps.OwnSet
import Derived.Maps.RangeWalk
import Derived.Maps.Views
import Derived.Test.YtbcgokpamhgabaaKc24
import Derived.Test.YtbcgokpamhgabaaKc13
import Derived.Test.YtbcgokpamhgabaaKc12
namespace Go.Proofs.Ytbcgokpamhgabaa
set_option linter.unusedVariables false
open Go.RowKit Go.Sort Go.Maps

theorem lawI : Keyed Try.prog 3 := int_keyed Try.underlying3
theorem zeroI (w : World) : (zeroValue 3).run Try.prog w = .ok (.int .i64 0) w := by kernel_rfl
def cntB (f : Nat → Bool) (n : Nat) : Nat := ((List.range n).filter f).length
theorem cntB_succ (f : Nat → Bool) (n : Nat) : cntB f (n + 1) = cntB f n + (f n).toNat := by
  rw [cntB, List.range_succ, List.filter_append, List.length_append, cntB]
  cases h : f n <;> simp [h]
theorem cntB_same {f g : Nat → Bool} {n : Nat} (h : ∀ q, q < n → f q = g q) : cntB f n = cntB g n := by
  induction n with
  | zero => rfl
  | succ n ih => rw [cntB_succ, cntB_succ, ih (fun q hq => h q (by omega)), h n (by omega)]
theorem cntB_le (f : Nat → Bool) (n : Nat) : cntB f n ≤ n := by
  induction n with
  | zero => simp [cntB]
  | succ n ih => rw [cntB_succ]; cases f n <;> simp <;> omega
theorem cntB_put {f g : Nat → Bool} {n p : Nat} (hp : p < n) (hf : f p = false) (hg : g p = true) (h : ∀ q, q ≠ p → g q = f q) : cntB g n = cntB f n + 1 := by
  induction n with
  | zero => omega
  | succ n ih =>
    rw [cntB_succ, cntB_succ]
    by_cases e : p = n
    · subst e
      rw [hf, hg, cntB_same (f := g) (g := f) (fun q hq => h q (by omega))]
      simp
    · rw [ih (by omega), h n (by omega)]
      omega
def kN (p : Nat) : Lit := .int .i64 (p : Int)
theorem kN_inj {p q : Nat} (h : kN p = kN q) : p = q := by
  unfold kN at h
  injection h with _ h
  omega
/-- Block M is a map that remembers f at some numbers below N. -/
def Memo (w : World) (M N : Nat) (f : Nat → Int) : Prop :=
  ∃ (n : Nat) (D : DataW Unit), w.ownsMap Try.prog 3 (plainElem Try.prog 3) M n D ∧ n = Maps.size D ∧ n ≤ cntB (fun q => Maps.has D (kN q)) N ∧ ∀ p, p < N → Maps.has D (kN p) = true → ∀ z, D.atKey (kN p) z = .lit (.int .i64 (f p))
theorem Memo.kept {w w' : World} {M N : Nat} {f : Nat → Int} {row : Option Nat} (h : Memo w M N f) (hg : w.grownBy w' row) (hne : some M ≠ row) : Memo w' M N f := by
  obtain ⟨n, D, ho, a, b⟩ := h
  exact ⟨n, D, ho.kept hg hne, a, b⟩
theorem Memo.made (w : World) (N : Nat) (f : Nat → Int) : Memo (w.alloc (.map #[] 0)) w.heap.size N f :=
  ⟨0, .map [], World.ownsMap_made _ _ _ _, rfl, Nat.zero_le _, fun p _ h => by simp [Maps.has] at h⟩
theorem own_exact {w : World} {M n : Nat} {D : DataW Unit} (h : w.ownsMap Try.prog 3 (plainElem Try.prog 3) M n D) : w.ownsMap Try.prog 3 (plainElem Try.prog 3) M (Maps.size D) D := by
  obtain ⟨es, clock, hb, F, hs, rfl⟩ := h
  exact ⟨es, clock, hb, F, by rw [Maps.size_eq, length_read]; exact Nat.le_refl _, rfl⟩
theorem put_has {w : World} {M n p q : Nat} {D : DataW Unit} {d : DataW Unit} (h : w.ownsMap Try.prog 3 (plainElem Try.prog 3) M n D) (hk : WideAt.IsKeyLit (kN p)) :
    Maps.has (D.put (kN p) d) (kN q) = (decide (q = p) || Maps.has D (kN q)) := by
  by_cases e : q = p
  · subst e
    rw [Maps.has_put_same (h.tidy lawI).isMap hk]
    simp
  · rw [Maps.has_put_other (fun h => e (kN_inj h))]
    simp [e]
theorem Memo.put {w w' : World} {M N n m p : Nat} {f : Nat → Int} {D : DataW Unit} (hk : WideAt.IsKeyLit (kN p)) (ho : w.ownsMap Try.prog 3 (plainElem Try.prog 3) M n D) (he : n = Maps.size D) (ha : n ≤ cntB (fun q => Maps.has D (kN q)) N)
    (hb : ∀ p, p < N → Maps.has D (kN p) = true → ∀ z, D.atKey (kN p) z = .lit (.int .i64 (f p))) (hp : p < N)
    (ho' : w'.ownsMap Try.prog 3 (plainElem Try.prog 3) M m (D.put (kN p) (.lit (.int .i64 (f p))))) : Memo w' M N f := by
  refine ⟨_, _, own_exact ho', rfl, ?_, fun q hq hh z => ?_⟩
  · rw [Maps.size_put (ho.tidy lawI)]
    cases hn : Maps.has D (kN p) with
    | true =>
      rw [if_pos rfl, ← he, cntB_same (g := fun q => Maps.has D (kN q)) (fun q _ => by
        rw [put_has ho hk]
        by_cases e : q = p
        · subst e; simp [hn]
        · simp [e])]
      exact ha
    | false =>
      rw [if_neg (by simp), ← he, cntB_put (f := fun q => Maps.has D (kN q)) hp hn (by simp only [put_has ho hk]; simp) (fun q hq => by simp only [put_has ho hk]; simp [hq])]
      omega
  · rw [put_has ho hk] at hh
    by_cases e : q = p
    · subst e
      exact Maps.atKey_put_same (ho.tidy lawI).isMap hk _ z
    · rw [Maps.atKey_put_other (fun h => e (kN_inj h))]
      simp [e] at hh
      exact hb q hq hh z
theorem grown_below {w w' : World} (h : Below w.heap.size w w') (row : Option Nat) : w.grownBy w' row := ⟨h.os, h.tape, h.output, h.size, fun k hk _ => h.block k hk⟩
theorem grown_refl (w : World) (row : Option Nat) : w.grownBy w row := ⟨rfl, rfl, rfl, Nat.le_refl _, fun _ _ _ => rfl⟩
theorem grown_then {a b c : World} {row : Option Nat} (h : a.grownBy b row) (k : b.grownBy c row) : a.grownBy c row := h.trans k
theorem grown_alloc {a b : World} {row : Option Nat} (h : a.grownBy b row) (o : Obj) : a.grownBy (b.alloc o) row := h.trans (World.grownBy_alloc _ _ _)
/-- A counter's box. -/
def Box4 (w : World) (b : Nat) (x0 x1 x2 x3 : Value) : Prop := b < w.heap.size ∧ w.cell? ⟨b, 0, none⟩ = some x0 ∧ w.cell? ⟨b, 1, none⟩ = some x1 ∧ w.cell? ⟨b, 2, none⟩ = some x2 ∧ w.cell? ⟨b, 3, none⟩ = some x3
theorem Box4.kept {w w' : World} {b : Nat} {x0 x1 x2 x3 : Value} {row : Option Nat} (h : Box4 w b x0 x1 x2 x3) (hg : w.grownBy w' row) (hne : some b ≠ row) : Box4 w' b x0 x1 x2 x3 := by
  obtain ⟨h0, a, b', c, d⟩ := h
  have hb := hg.block b h0 hne
  exact ⟨Nat.lt_of_lt_of_le h0 hg.size, (World.cell?_of_block (a := ⟨b, 0, none⟩) hb).trans a, (World.cell?_of_block (a := ⟨b, 1, none⟩) hb).trans b', (World.cell?_of_block (a := ⟨b, 2, none⟩) hb).trans c, (World.cell?_of_block (a := ⟨b, 3, none⟩) hb).trans d⟩
end Go.Proofs.Ytbcgokpamhgabaa
namespace Go.Proofs.Ytbcgokpamhgabaa
set_option linter.unusedVariables false
set_option maxRecDepth 20000
open Go.RowKit Go.Sort Go.Maps

/-- What one call of count is to do, at all positions of n pegs. -/
def CountAt (ls : List Ln) (A : Option Addr) (c : Nat) (gs av : Int) (M N n : Nat) : Prop :=
  ∀ p : Nat, popc p = n → p < N → ∀ W : World, Rd W M A (flat ls) → M < W.heap.size → Memo W M N (ways ls gs av) →
    Calls Try.prog 147 #[.agg #[.slice A ls.length c, .int .i64 gs, .int .i64 av, .map (some M)], .int .i64 p] W fun e w' =>
      e = .returned (.int .i64 (ways ls gs av p)) ∧ Memo w' M N (ways ls gs av) ∧ W.grownBy w' (some M)
theorem is2c {P : Program} {f : FuncId} {args : Array Value} {w : World} {k : IntKind} {a b : Int} {x y : Bool} {Q : World → Prop} (h : Calls P f args w fun e w' => e = .returned (.tuple #[.int k a, .bool x]) ∧ Q w') (e : a = b) (e2 : x = y) : Calls P f args w fun e w' => e = .returned (.tuple #[.int k b, .bool y]) ∧ Q w' := e ▸ e2 ▸ h
set_option maxHeartbeats 4000000 in
theorem count_go (ls : List Ln) (A : Option Addr) (c : Nat) (gs av : Int) (M N n : Nat) (hN : N ≤ 65536) (hst : Stays N ls) (h49 : ∀ l ∈ ls, Ln49 l) (hlen : ls.length ≤ 196)
    (ih : ∀ m, m < n → CountAt ls A c gs av M N m) : CountAt ls A c gs av M N n := by
  intro p hp hpN W rd hM memo
  have hp63 : B63 p := by unfold B63; omega
  have hpi : -9223372036854775808 ≤ (p : Int) ∧ (p : Int) ≤ 9223372036854775807 := by omega
  have hkey : keyOf Try.prog 3 (.int .i64 (p : Int)) = some (kN p) := keyOf_int_mk Try.underlying3 (WalkArith.wf_i64 hpi)
  have hkl := lawI.key hkey
  have HK := Lib.hid hkey
  have HKL := Lib.hid hkl
  have HST := Lib.hid hst
  have H49 := Lib.hid h49
  have HIH := Lib.hid ih
  have hW0 : W.heap.size < (W.alloc (.cells #[.slice A ls.length c, .int .i64 gs, .int .i64 av, .map (some M)] 123)).heap.size := by simp
  have HB0 : Hid (Box4 (W.alloc (.cells #[.slice A ls.length c, .int .i64 gs, .int .i64 av, .map (some M)] 123)) W.heap.size (.slice A ls.length c) (.int .i64 gs) (.int .i64 av) (.map (some M))) :=
    Lib.hid ⟨hW0, by simp [go_sem], by simp [go_sem], by simp [go_sem], by simp [go_sem]⟩
  have HG0 : Hid (W.grownBy (W.alloc (.cells #[.slice A ls.length c, .int .i64 gs, .int .i64 av, .map (some M)] 123)) (some M)) := Lib.hid (World.grownBy_alloc _ _ _)
  have HM0 : Hid (Memo (W.alloc (.cells #[.slice A ls.length c, .int .i64 gs, .int .i64 av, .map (some M)] 123)) M N (ways ls gs av)) := Lib.hid (memo.kept (World.grownBy_alloc W _ none) (by simp))
  clear hst h49 ih hkey hkl
  rcases Bool.eq_false_or_eq_true ((p : Int) == gs) with hgo | hgo
  · have HR := Lib.hid (ways_goal H49.out (av := av) (show (p : Int) = gs by simpa using hgo))
    clear memo
    go_enter Try.func147, Try.ntmps147
    go_wp2
    go_ret
    exact ⟨by rw [HR.out]; rfl, HM0.out, HG0.out⟩
  · have hgn : (p : Int) ≠ gs := by simpa using hgo
    have HGN := Lib.hid hgn
    clear hgn
    obtain ⟨n0, D, own, hn0, hn, hat⟩ := memo
    have HAT := Lib.hid hat
    have own0 : (W.alloc (.cells #[.slice A ls.length c, .int .i64 gs, .int .i64 av, .map (some M)] 123)).ownsMap Try.prog 3 (plainElem Try.prog 3) M n0 D := own.alloc _
    clear hat own
    rcases Bool.eq_false_or_eq_true (Maps.has D (kN p)) with hh | hh
    · have HV := Lib.hid (HAT.out p hpN hh)
      go_enter Try.func147, Try.ntmps147
      go_wp2_with (first | (at_lookup; refine wpList_lookup_own_ok_int _ rfl _ _ 121 rfl 3 3 .i64 lawI Try.underlying121 Try.underlying3 (zeroI _) M n0 D rfl own0 _ _ rfl HK.out ?_; intro c1 hc1 hw1))
      have HC : Hid (c1 = ways ls gs av p) := Lib.hid (by
        have := HV.out (.lit (.int .i64 0))
        rw [this] at hc1
        injection hc1 with h1
        injection h1 with _ h2
        exact h2.symm)
      go_ret
      exact ⟨by rw [← HC.out]; rfl, HM0.out, HG0.out⟩
    · have HHN := Lib.hid hh
      go_enter Try.func147, Try.ntmps147
      go_wp2_with (first | (at_lookup; refine wpList_lookup_own_ok_int _ rfl _ _ 121 rfl 3 3 .i64 lawI Try.underlying121 Try.underlying3 (zeroI _) M n0 D rfl own0 _ _ rfl HK.out ?_; intro c1 hc1 hw1))
      clear hc1 hw1
      go_loopw [7, 8, 29] (fun sv tv iv wr => ∃ i : Nat, i ≤ ls.length ∧ iv = .int .i64 i ∧ sv = .int .i64 (wsum (ways ls gs av) av (ls.take i) p) ∧ tv = .bool (stuckL (ls.take i) p) ∧ Memo wr M N (ways ls gs av) ∧ W.grownBy wr (some M) ∧ Box4 wr W.heap.size (.slice A ls.length c) (.int .i64 gs) (.int .i64 av) (.map (some M))) (fun _ _ iv _ => ls.length - (intOf iv).toNat)
      case atStart => exact ⟨0, Nat.zero_le _, rfl, rfl, rfl, HM0.out, HG0.out, HB0.out⟩
      case round =>
        obtain ⟨i, hi, rfl, rfl, rfl, hmm, hgr, hbx⟩ := hrel
        have HBX := Lib.hid hbx
        have HGR := Lib.hid hgr
        have HMM := Lib.hid hmm
        obtain ⟨hbz, c0, c1, c2, c3⟩ := hbx
        have hsz := hgr.size
        have hM' : M ≠ W.heap.size := by omega
        by_cases hlt : i < ls.length
        · obtain ⟨bb, off, l, rfl, hbl, hx, x0, x1, x2⟩ := (rd.grown hgr (Nat.le_of_lt hM) (fun g hg => by injection hg with hg; omega)).line hlt
          have hl49 := H49.out l (List.mem_of_getElem? hx)
          have hq := HST.out l (List.mem_of_getElem? hx) p hpN
          have HJ := Lib.hid (popc_jump (p := p) hl49)
          obtain ⟨f, o, t, rfl, f1, o1, t1, hft, hot, hfo⟩ := hl49
          have HS := Lib.hid (wsum_take (f := ways ls gs av) (av := av) (p := p) hx)
          have HT := Lib.hid (stuck_take (p := p) hx)
          have i0 : (0 : Int) ≤ (i : Int) := by omega
          have i1 : (i : Int) < (ls.length : Int) := by omega
          have HF := Lib.hid hft
          have HO := Lib.hid hot
          have hbz2 : bb < wr.heap.size := by omega
          obtain ⟨s, hs⟩ : ∃ s, wsum (ways ls gs av) av (ls.take i) p = s := ⟨_, rfl⟩
          rw [hs] at HS ⊢
          obtain ⟨st, hst⟩ : ∃ s, stuckL (ls.take i) p = s := ⟨_, rfl⟩
          rw [hst] at HT ⊢
          clear hx hft hot hfo hgr hmm hs hst
          rcases Bool.eq_false_or_eq_true (canJ p ⟨f, o, t⟩) with h1 | h1
          · rcases Bool.eq_false_or_eq_true ((t : Int) == av) with h2 | h2
            · have HX := Lib.hid (HS.out.trans (wstep_av h2))
              have HY : Hid (stuckL (ls.take (i + 1)) p = false) := Lib.hid (by rw [HT.out, h1]; simp)
              go_wp2_with fail
              refine (jumpFrom_ p f o t hp63 (by omega) (by omega) (by omega) HF.out HO.out _).mono ?_
              rintro e w1 ⟨rfl, hb1⟩
              have hg1 := grown_then (World.grownBy_alloc wr _ none) (grown_below hb1 none)
              have HBX1 := Lib.hid (HBX.out.kept hg1 (by simp))
              obtain ⟨hbz', d0, d1, d2, d3⟩ := HBX1.out
              have hzl : wr.heap.size < w1.heap.size := by have := hb1.size; simp at this; omega
              have e2 : w1.cell? ⟨wr.heap.size, 2, none⟩ = some (.int .i64 t) := by rw [hb1.cell (p := ⟨wr.heap.size, 2, none⟩) (by simp)]; simp [go_sem]
              go_wp2
              go_roundw
              case rel => exact ⟨i + 1, by omega, by go_num, by rw [HX.out], by rw [HY.out], HMM.out.kept hg1 (by simp), grown_then HGR.out (hg1.but _), HBX1.out⟩
              case measure => simp [intOf]; omega
            · have HX := Lib.hid (HS.out.trans (wstep_yes h1 h2))
              have HY : Hid (stuckL (ls.take (i + 1)) p = false) := Lib.hid (by rw [HT.out, h1]; simp)
              have hpq := HJ.out h1
              obtain ⟨Q, hQ⟩ : ∃ Q, flip p ⟨f, o, t⟩ = Q := ⟨_, rfl⟩
              rw [hQ] at HX hpq hq
              have HQ := Lib.hid hQ
              obtain ⟨v, hv⟩ : ∃ v, ways ls gs av Q = v := ⟨_, rfl⟩
              rw [hv] at HX
              have HVV := Lib.hid hv
              clear hQ hv
              go_wp2_with fail
              refine (is2c (jumpFrom_ p f o t hp63 (by omega) (by omega) (by omega) HF.out HO.out _) (show _ = (Q : Int) by rw [h1, if_pos rfl, HQ.out]) h1).mono ?_
              rintro e w1 ⟨rfl, hb1⟩
              have hg1 := grown_then (World.grownBy_alloc wr _ none) (grown_below hb1 none)
              have HBX1 := Lib.hid (HBX.out.kept hg1 (by simp))
              obtain ⟨hbz', d0, d1, d2, d3⟩ := HBX1.out
              have hzl : wr.heap.size < w1.heap.size := by have := hb1.size; simp at this; omega
              have e2 : w1.cell? ⟨wr.heap.size, 2, none⟩ = some (.int .i64 t) := by rw [hb1.cell (p := ⟨wr.heap.size, 2, none⟩) (by simp)]; simp [go_sem]
              go_wp2_with fail
              refine (HIH.out (popc Q) (by omega) Q rfl hq w1 (rd.grown (grown_then HGR.out (hg1.but _)) (Nat.le_of_lt hM) (fun g hg => by injection hg with hg; omega)) (by omega) (HMM.out.kept hg1 (by simp))).mono ?_
              rintro e w2 ⟨rfl, hm2, hg2⟩
              rw [HVV.out]
              have HBX2 := Lib.hid (HBX1.out.kept hg2 (fun h => by injection h with h; exact hM' h.symm))
              have hg3 := grown_then (grown_then HGR.out (hg1.but _)) hg2
              go_wp2
              go_roundw
              case rel => exact ⟨i + 1, by omega, by go_num, by rw [HX.out], by rw [HY.out], hm2, hg3, HBX2.out⟩
              case measure => simp [intOf]; omega
          · have HX := Lib.hid (HS.out.trans (wstep_no h1))
            have HY : Hid (stuckL (ls.take (i + 1)) p = st) := Lib.hid (by rw [HT.out, h1]; simp)
            go_wp2_with fail
            refine (jumpFrom_ p f o t hp63 (by omega) (by omega) (by omega) HF.out HO.out _).mono ?_
            rintro e w1 ⟨rfl, hb1⟩
            have hg1 := grown_then (World.grownBy_alloc wr _ none) (grown_below hb1 none)
            have HBX1 := Lib.hid (HBX.out.kept hg1 (by simp))
            obtain ⟨hbz', d0, d1, d2, d3⟩ := HBX1.out
            go_wp2
            go_roundw
            case rel => exact ⟨i + 1, by omega, by go_num, by rw [HX.out], by rw [HY.out], HMM.out.kept hg1 (by simp), grown_then HGR.out (hg1.but _), HBX1.out⟩
            case measure => simp [intOf]; omega
        · have e : i = ls.length := by omega
          subst e
          obtain ⟨n1, D1, own1, hn1, hc1, hat1⟩ := hmm
          have HN1 := Lib.hid hn1
          have HAT1 := Lib.hid hat1
          have HC1 := Lib.hid hc1
          have hcl : n1 < maxLen := by have := cntB_le (fun q => Maps.has D1 (kN q)) N; unfold maxLen; omega
          have HW := ways_i64 (gs := gs) (av := av) H49.out p
          rw [List.take_length] at ⊢
          have HEND : ∀ (w' : World) (m : Nat), w'.ownsMap Try.prog 3 (plainElem Try.prog 3) M m (D1.put (kN p) (.lit (.int .i64 (ways ls gs av p)))) → Memo w' M N (ways ls gs av) :=
            fun w' m h => Memo.put HKL.out own1 HN1.out HC1.out HAT1.out hpN h
          have HE := Lib.hid HEND
          clear hat1 hn1 hc1 hgr HEND
          obtain ⟨st, hst⟩ : ∃ s, stuckL ls p = s := ⟨_, rfl⟩
          obtain ⟨s, hs⟩ : ∃ s, wsum (ways ls gs av) av ls p = s := ⟨_, rfl⟩
          rw [hst, hs]
          have HSS := Lib.hid hs
          have HTT := Lib.hid hst
          obtain ⟨v, hv⟩ : ∃ v, ways ls gs av p = v := ⟨_, rfl⟩
          rw [hv] at HE HW
          have HVV := Lib.hid hv
          clear hst hs hv
          rcases Bool.eq_false_or_eq_true st with rfl | rfl
          · rcases Bool.eq_false_or_eq_true (decide (gs < 0)) with hg0 | hg0
            · have HX : Hid (v = 1) := Lib.hid (by rw [← HVV.out]; exact ways_stuck H49.out (of_decide_eq_true hg0) HTT.out)
              rw [HX.out] at HE HW
              go_wp2_with (first | (at_mapUpdate; refine wpList_mapUpdate_own _ rfl _ _ _ 121 rfl 3 3 lawI Try.underlying121 _ M n1 D1 rfl own1 hcl _ _ _ rfl rfl HK.out _ [] (plainElem_int Try.underlying3 (WalkArith.wf_i64 HW)) ?_; intro w4 own4 hg4))
              go_ret
              exact ⟨by rw [HVV.out, HX.out]; rfl, HE.out _ _ own4, grown_then HGR.out hg4⟩
            · have HX : Hid (v = s) := Lib.hid (by rw [← HVV.out, ← HSS.out]; exact ways_sum H49.out HGN.out (by rw [hg0]; rfl))
              rw [HX.out] at HE HW
              go_wp2_with (first | (at_mapUpdate; refine wpList_mapUpdate_own _ rfl _ _ _ 121 rfl 3 3 lawI Try.underlying121 _ M n1 D1 rfl own1 hcl _ _ _ rfl rfl HK.out _ [] (plainElem_int Try.underlying3 (WalkArith.wf_i64 HW)) ?_; intro w4 own4 hg4))
              go_ret
              exact ⟨by rw [HVV.out, HX.out]; rfl, HE.out _ _ own4, grown_then HGR.out hg4⟩
          · have HX : Hid (v = s) := Lib.hid (by rw [← HVV.out, ← HSS.out]; exact ways_sum H49.out HGN.out (by rw [HTT.out]; simp))
            rw [HX.out] at HE HW
            go_wp2_with (first | (at_mapUpdate; refine wpList_mapUpdate_own _ rfl _ _ _ 121 rfl 3 3 lawI Try.underlying121 _ M n1 D1 rfl own1 hcl _ _ _ rfl rfl HK.out _ [] (plainElem_int Try.underlying3 (WalkArith.wf_i64 HW)) ?_; intro w4 own4 hg4))
            go_ret
            exact ⟨by rw [HVV.out, HX.out]; rfl, HE.out _ _ own4, grown_then HGR.out hg4⟩
theorem count_ (ls : List Ln) (A : Option Addr) (c : Nat) (gs av : Int) (M N : Nat) (hN : N ≤ 65536) (hst : Stays N ls) (h49 : ∀ l ∈ ls, Ln49 l) (hlen : ls.length ≤ 196) : ∀ n, CountAt ls A c gs av M N n := by
  intro n
  induction n using Nat.strongRecOn with
  | ind n ih => exact count_go ls A c gs av M N n hN hst h49 hlen ih
end Go.Proofs.Ytbcgokpamhgabaa

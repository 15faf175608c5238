/- The walk of the law FnOrders. -/
import Derived.Test.YtbcgokpamhgabaaChecked
import Derived.Test.YtbcgokpamhgabaaMem
import Derived.Tactics
import Derived.Tactics2
import Derived.WalkKit
import Derived.WalkSpells
import Derived.WalkLawsBesides
import Derived.Deep.QuietTactic
import Derived.BigQuiet
import Derived.BigGuardPart
import Derived.Lib.QuietBelow
import Derived.OwnWalk
import Derived.KernelRfl
import Derived.Test.YtbcgokpamhgabaaOpenC
import Derived.Test.YtbcgokpamhgabaaDrawF
import Derived.Test.YtbcgokpamhgabaaOrdersP
import Derived.Test.YtbcgokpamhgabaaSame
import Derived.Test.YtbcgokpamhgabaaCount
import Derived.Test.YtbcgokpamhgabaaMust
import Derived.Laws.AppendOwnNone
import Derived.Test.YtbcgokpamhgabaaLines
import Derived.Deep.DeepCutAuto
set_option linter.unusedVariables false
set_option maxRecDepth 100000
namespace Go.Proofs.Ytbcgokpamhgabaa
open Go.RowKit Go.Sort

theorem iSwapAt_n (ls : List Ln) (A : Option Addr) (c n : Nat) (k : Int) (hk : I64 k) (w : World) (e : ls.length = n) (hr : Rd w w.heap.size A (flat ls)) (hn : n ≤ 1048576) :
    Calls Try.prog 24 #[.slice A n c, .int .i64 k] w (GivesSliceB w 34 3 n (flat (swapL ls k)) (canSwapB ls k)) := by
  subst e
  exact iSwapAt_ ls A c k hk w hr hn
theorem iCanSwap_n (ls : List Ln) (A : Option Addr) (c n : Nat) (k : Int) (hk : I64 k) (w : World) (e : ls.length = n) (hr : Rd w w.heap.size A (flat ls)) (hn : n ≤ 1048576) :
    Calls Try.prog 25 #[.slice A n c, .int .i64 k] w fun e w' => e = .returned (.bool (canSwapB ls k)) ∧ Below w.heap.size w w' := by
  subst e
  exact iCanSwap_ ls A c k hk w hr (by omega)
theorem iCountOrders_n (ls : List Ln) (A : Option Addr) (c n : Nat) (w : World) (e : ls.length = n) (hr : Rd w w.heap.size A (flat ls)) (hn : n ≤ 10) :
    Calls Try.prog 23 #[.slice A n c] w fun e w' => e = .returned (.int .i64 (ordN ls)) ∧ Below w.heap.size w w' := by
  subst e
  have h := iCountOrders_ ls A c w hr (by omega)
  rw [count_yes hn] at h
  exact h
theorem iAreSame_n (xs ys : List Ln) (A A' : Option Addr) (n m c c' : Nat) (w : World) (hx : xs.length = n) (hy : ys.length = m) (hn : n ≤ 10) (hm : m ≤ 10) (hr : Rd w w.heap.size A (flat xs)) (hr' : Rd w w.heap.size A' (flat ys)) :
    Calls Try.prog 27 #[.slice A n c, .slice A' m c'] w fun e w' => e = .returned (.bool (sameB xs ys)) ∧ Below w.heap.size w w' := by
  subst hx hy
  exact iAreSame_ xs ys A A' c c' w hr hr' (by omega) (by omega)
theorem iMustPrecede_n (ls : List Ln) (A : Option Addr) (c n : Nat) (i k : Nat) (w : World) (e : ls.length = n) (hi : i ≤ 100) (hk : k ≤ 100) (hr : Rd w w.heap.size A (flat ls)) (hn : n ≤ 10) :
    Calls Try.prog 28 #[.slice A n c, .int .i64 i, .int .i64 k] w fun e w' => e = .returned (.bool (mustB ls i k)) ∧ Below w.heap.size w w' := by
  subst e
  exact iMustPrecede_ ls A c i k (by unfold I64; omega) (by unfold I64; omega) w hr (by omega)

/-- Of the pairs that have been looked at none must stand in order. -/
def FreeR (l : List Ln) (n i k : Nat) : Prop := ∀ a b : Nat, a < b → b < n → (a < i ∨ a = i ∧ b < k) → mustB l a b = false
theorem freeR_zero (l : List Ln) (n : Nat) : FreeR l n 0 0 := fun a b _ _ h => by omega
theorem freeR_row {l : List Ln} {n i : Nat} (h : FreeR l n i 0) : FreeR l n i (i + 1) := fun a b h1 h2 h3 => h a b h1 h2 (by omega)
theorem freeR_next {l : List Ln} {n i k : Nat} (h : FreeR l n i k) (hk : mustB l i k = false) : FreeR l n i (k + 1) := fun a b h1 h2 h3 => by
  by_cases e : a = i ∧ b = k
  · obtain ⟨rfl, rfl⟩ := e; exact hk
  · exact h a b h1 h2 (by omega)
theorem freeR_end {l : List Ln} {n i : Nat} (h : FreeR l n i n) : FreeR l n (i + 1) 0 := fun a b h1 h2 h3 => h a b h1 h2 (by omega)
def IfFree (f : Bool) (l : List Ln) (n i k : Nat) : Prop := f = true → FreeR l n i k

set_option maxHeartbeats 8000000 in
theorem fnOrders_walk (xs : List UInt8) (A : Option Addr) (c : Nat) (w : World) (rd : Rd w w.heap.size A (bts xs)) (hm : xs.length ≤ 9223372036854775807) :
    Calls Try.prog 4 #[.slice A xs.length c] w fun e w' => e = .returned (.bool true) ∧ Below w.heap.size w w' := by
  obtain ⟨i0, hi, hz0, hz1, hz2⟩ := info_parts infoLine
  by_cases hbig : (1048576 : Int) < (xs.length : Int)
  · go_enter Try.func4, Try.ntmps4
    go_wp2_with (go_at_call 12; refine (big_ _ _ _ _).mono ?_; rintro e w1 ⟨rfl, rfl⟩)
    go_ret
    exact ⟨rfl, Below.refl _ _⟩
  · have hm1 : xs.length ≤ 1048576 := by omega
    have hm2 : (xs.length : Int) ≤ 1048576 := by omega
    have RC := Lib.hid rd
    clear rd hm
    go_enter Try.func4, Try.ntmps4
    go_wp2_with (go_at_call 12; refine (big_ _ _ _ _).mono ?_; rintro e w1 ⟨rfl, rfl⟩)
    refine (drawJumps_ xs A c _ RC.out hm1).mono ?_
    rintro e w1 ⟨l, Al, cl, hl, rfl, rd1, hw1⟩
    obtain ⟨n, hn⟩ : ∃ n, l.length = n := ⟨_, rfl⟩
    have HN := Lib.hid hn
    rw [hn] at hl ⊢
    clear hn
    have RL := Lib.hid rd1
    clear rd1
    go_wp2_with fail
    refine (iCountOrders_n l Al cl n _ HN.out RL.out (by omega)).mono ?_
    rintro e w2 ⟨rfl, hb2⟩
    have RL2 := Lib.hid (RL.out.next hb2)
    have hw2 := below_next hw1 hb2
    have hc1 := ordn_pos (l := l) (by rw [HN.out]; omega)
    have hc2 := ordn_le (l := l) (by rw [HN.out]; omega)
    have HCS : Hid (∀ ks, ordN (swaps l ks) = ordN l) := Lib.hid fun ks => ordn_swaps l (by rw [HN.out]; omega) ks
    have HFR : Hid (2 ≤ n → (∀ i k : Nat, i < k → k < n → mustB l i k = false) → 2 ≤ ordN l) := Lib.hid fun h2 hf => ordn_free (by rw [HN.out]; omega) (by rw [HN.out]; exact h2) (fun i k h3 h4 => hf i k h3 (by rw [← HN.out]; exact h4))
    have HZ : Hid (n = 0 → ordN l = 1) := Lib.hid fun h => ordn_nil (by rw [HN.out]; exact h)
    obtain ⟨C, hC⟩ : ∃ C, ordN l = C := ⟨_, rfl⟩
    rw [hC] at hc1 hc2 HCS HFR HZ ⊢
    clear hC hb2 RL hw1
    go_upto_region 5 with fail
    go_cut [5] (fun v wc => ∃ (A' : Option Addr) (c' : Nat), v = .slice A' n c' ∧ Rd wc wc.heap.size A' (flat l) ∧ Below w2.heap.size w2 wc)
    case first =>
      cases Al with
      | none =>
        have hnil := rd_none RL2.out
        have h0 : l = [] := by
          cases l with
          | nil => rfl
          | cons x xs => simp [flat_cons] at hnil
        subst h0
        have e0 : n = 0 := HN.out.symm
        subst e0
        go_wp2_with fail
        go_meet
        exact ⟨_, _, rfl, Rd.nil, (Below.refl _ _).alloc (Nat.le_refl _) _⟩
      | some ad =>
        have hl3 : Hid ((flat l).length = n * 3) := Lib.hid (by rw [flat_length, HN.out])
        have hr1 := Lib.hid (rd_news (RL2.out.laid (.cells #[] 34)))
        go_wp2_with (at_builtin; refine wpList_append_own _ rfl (.tmp 19) (.tmp 20) 24 rfl w2.heap.size 34 i0 _ 3 24 Try.underlying24 hi hz0 hz1 hz2 rfl (by decide) _ _ _ rfl (World.ownsRow_lit w2 #[] 0 (Nat.le_refl _) (by simp [maxLen]) rfl) ad n cl (flat l) rfl hl3.out hr1.out (flat_one l) (by unfold maxLen; omega) (by omega) (by simp) ?_; intro v' w3 hown' hgrow hnil)
        obtain ⟨A', c', hv⟩ := own_value hown'
        subst hv
        have hw3 : Below w2.heap.size w2 w3 := ((Below.refl w2.heap.size w2).alloc (Nat.le_refl _) _).grown hgrow (by simp) (fun g hg => by have hg' : some w2.heap.size = some g := hg; injection hg' with hg'; omega)
        go_meet
        exact ⟨A', c', by simp, by simpa using rd_of_own hown', hw3⟩
    case rest =>
      obtain ⟨Ax, cx, rfl, rdx, hb3⟩ := hcut
      have hw3 := below_next hw2 hb3
      have RL3 := Lib.hid (RL2.out.next hb3)
      have RX3 := Lib.hid rdx
      clear RL2 rdx hb3 hw2
      go_wp2_with fail
      go_loopw [5, 6] (fun xv kv wr => ∃ (k : Nat) (ks : List Int) (A' : Option Addr) (c' : Nat), kv = .int .i64 k ∧ k ≤ 20 ∧ xv = .slice A' n c' ∧ Rd wr wr.heap.size A' (flat (swaps l ks)) ∧ Below wc.heap.size wc wr) (fun _ kv _ => 20 - (intOf kv).toNat)
      case atStart => exact ⟨0, [], Ax, cx, rfl, by omega, rfl, RX3.out, Below.refl _ _⟩
      case round =>
        obtain ⟨k, ks, A', c', rfl, hk, rfl, rdx, hwr⟩ := hrel
        have RX := Lib.hid rdx
        have HLN : Hid ((swaps l ks).length = n) := Lib.hid (by rw [swaps_len, HN.out])
        clear rdx
        by_cases hlt : k < 20
        · go_wp2_with fail
          refine (at_ xs A c k _ (((RC.out.below hw3).more hw3.size).next hwr) hm1 (by omega)).mono ?_
          rintro e w4 ⟨v, hv, rfl, rfl⟩
          have hv' : (v : Int) ≤ 255 := by omega
          have hmod : (v : Int) % 10 = ((v % 10 : Nat) : Int) := by omega
          have hvm : v % 10 < 10 := Nat.mod_lt _ (by omega)
          have hvi : ((v % 10 : Nat) : Int) < 10 := by omega
          generalize v % 10 = q at *
          go_wp2_with fail
          rw [hmod]
          refine (iSwapAt_n (swaps l ks) A' c' n (q : Int) (by unfold I64; omega) _ HLN.out RX.out (by omega)).mono ?_
          rintro e w5 ⟨A5, c5, rfl, own5, hb5⟩
          have RX5 := Lib.hid (rd_of_own own5)
          have RO5 := Lib.hid (RX.out.next hb5)
          have HKS := Lib.hid (swaps_next l ks (q : Int))
          have hwr5 := below_next hwr hb5
          clear own5 hb5 RX hmod hwr
          rcases Bool.eq_false_or_eq_true (canSwapB (swaps l ks) (q : Int)) with hcs | hcs
          · obtain ⟨j, ej, hj⟩ := canSwap_nat hcs
            obtain rfl : q = j := by omega
            rw [HLN.out] at hj
            obtain ⟨bb, off, x, rfl, hbl, hx, x0, x1, x2⟩ := RO5.out.line (k := q) (by rw [HLN.out]; omega)
            obtain ⟨bb', off', y, e2, _, hy, y0, y1, y2⟩ := RO5.out.line (k := q + 1) (by rw [HLN.out]; omega)
            obtain ⟨rfl, rfl⟩ : bb = bb' ∧ off = off' := by simpa using e2
            have hd := hcs
            rw [canSwap_yes (by rw [HLN.out]; exact hj) hx hy] at hd
            have HD : Hid (disturbB x y = false) := Lib.hid (by simpa using hd)
            have q0 : (0 : Int) ≤ (q : Int) := by omega
            have q1 : (q : Int) < (n : Int) := by omega
            have q2 : (q : Int) + 1 < (n : Int) := by omega
            have Q3 : Hid (decide ((n : Int) ≤ (q : Int) + 1) = false) := Lib.hid (by rw [decide_eq_false_iff_not]; omega)
            have q4 : (0 : Int) ≤ (q : Int) + 1 := by omega
            have q5 : ((q : Int) + 1).toNat = q + 1 := by omega
            have q6 : IntKind.i64.wrap ((q : Int) + 1) = (q : Int) + 1 := by rw [IntKind.wrap_i64]; omega
            have HCB := Lib.hid hcs
            have RO6 := Lib.hid RO5.out
            clear ej hd hx hy e2 hcs
            rw [HCB.out]
            have hc : ∀ (a : Addr) (p : Regrown) (W : World), a.block < W.heap.size → (grow (redrawn W p.d) p.os).cell? a = W.cell? a := fun a p W h => (below_regrown W p.d p.os).cell h
            go_wp2_with fail
            have q3 := Q3.out
            refine wp_region_quiet_below (by kernel_rfl) (by kernel_rfl) ?_
            repeat (go_big_quiet_step (first | (go_at_call 25; exact Calls.regrown_of (is_ (iCanSwap_n (swaps l ks) _ c' n (q : Int) (by unfold I64; omega) _ HLN.out (RO6.out.next (below_regrown _ _ _)) (by omega)) HCB.out)) | (go_at_call 26; exact Calls.regrown_of (is_ (iDoDisturb_ x y _) HD.out))))
            refine wpQuiet_nil ?_
            intro w8 hw8
            obtain ⟨p8, hp8⟩ := hw8
            have hb8 := of_rg hp8
            clear hp8 p8
            have RX8 := Lib.hid (RX5.out.next hb8)
            have hw8 := below_next hwr5 hb8
            clear hc q3 q5 q6 hb8 RX5 x0 x1 x2 y0 y1 y2
            go_wp2
            go_roundw
            case rel => exact ⟨k + 1, ks ++ [(q : Int)], A5, c5, by go_num, by omega, rfl, by rw [HKS.out]; exact RX8.out, hw8⟩
            case measure => simp [intOf]; omega
          · have HCB := Lib.hid hcs
            have RO6 := Lib.hid RO5.out
            clear hcs
            rw [HCB.out]
            have hc : ∀ (a : Addr) (p : Regrown) (W : World), a.block < W.heap.size → (grow (redrawn W p.d) p.os).cell? a = W.cell? a := fun a p W h => (below_regrown W p.d p.os).cell h
            go_wp2_with fail
            refine wp_region_quiet_below (by kernel_rfl) (by kernel_rfl) ?_
            repeat (go_big_quiet_step (first | (go_at_call 25; exact Calls.regrown_of (is_ (iCanSwap_n (swaps l ks) _ c' n (q : Int) (by unfold I64; omega) _ HLN.out (RO6.out.next (below_regrown _ _ _)) (by omega)) HCB.out))))
            refine wpQuiet_nil ?_
            intro w8 hw8
            obtain ⟨p8, hp8⟩ := hw8
            have hb8 := of_rg hp8
            clear hp8 p8
            have RX8 := Lib.hid (RX5.out.next hb8)
            have hw8 := below_next hwr5 hb8
            clear hc hb8 RX5
            go_wp2
            go_roundw
            case rel => exact ⟨k + 1, ks ++ [(q : Int)], A5, c5, by go_num, by omega, rfl, by rw [HKS.out]; exact RX8.out, hw8⟩
            case measure => simp [intOf]; omega
        · have HSM := Lib.hid (same_swaps (l := l) (by rw [HN.out]; omega) ks)
          have RL4 := Lib.hid (RL3.out.next hwr)
          have hw4 := below_next hw3 hwr
          have hc3 : ¬ C < 1 := by omega
          clear RL3 RX3 hwr hw3
          go_wp2_with fail
          refine (is_ (iAreSame_n l (swaps l ks) Al A' n n cl c' _ HN.out HLN.out (by omega) (by omega) RL4.out RX.out) HSM.out.1).mono ?_
          rintro e w5 ⟨rfl, hb5⟩
          have hw5 := below_next hw4 hb5
          have RX5 := Lib.hid (RX.out.next hb5)
          have RL5 := Lib.hid (RL4.out.next hb5)
          clear hb5 RX RL4 hw4
          go_wp2_with fail
          refine (is_ (iAreSame_n (swaps l ks) l A' Al n n c' cl _ HLN.out HN.out (by omega) (by omega) RX5.out RL5.out) HSM.out.2).mono ?_
          rintro e w6 ⟨rfl, hb6⟩
          have hw6 := below_next hw5 hb6
          have RX6 := Lib.hid (RX5.out.next hb6)
          have RL6 := Lib.hid (RL5.out.next hb6)
          clear hb6 RX5 RL5 hw5
          go_wp2_with fail
          refine (isI_ (iCountOrders_n (swaps l ks) A' c' n _ HLN.out RX6.out (by omega)) (HCS.out ks)).mono ?_
          rintro e w7 ⟨rfl, hb7⟩
          have hw7 := below_next hw6 hb7
          have RL7 := Lib.hid (RL6.out.next hb7)
          clear hb7 RX6 RL6 hw6
          go_wp2_with fail
          have HMD : Hid (∀ (i k : Nat) (x y : Ln), i < k → l[i]? = some x → l[k]? = some y → disturbB x y = true → mustB l i k = true) := Lib.hid fun i k x y h1 h2 h3 h4 => must_disturb h1 h2 h3 h4
          have HMN : Hid (∀ i k : Nat, i < k → mustB l k i = false) := Lib.hid fun i k h => mustB_no (by omega)
          have HN2 := Lib.hid (HN.out)
          clear HSM hc3
          go_loopw [10, 11] (fun fv iv wr => ∃ (i : Nat) (f : Bool), iv = .int .i64 i ∧ i ≤ n ∧ fv = .bool f ∧ IfFree f l n i 0 ∧ Below w7.heap.size w7 wr) (fun _ iv _ => n - (intOf iv).toNat)
          case atStart => exact ⟨0, true, rfl, Nat.zero_le _, rfl, fun _ => freeR_zero l n, Below.refl _ _⟩
          case round =>
            obtain ⟨i, f, rfl, hin, rfl, hfr, hwr⟩ := hrel
            have HF := Lib.hid hfr
            clear hfr
            by_cases hil : i < n
            · go_wp2_with fail
              go_loopw [10, 12] (fun fv kv wr => ∃ (k : Nat) (f : Bool), kv = .int .i64 k ∧ i + 1 ≤ k ∧ k ≤ n ∧ fv = .bool f ∧ IfFree f l n i k ∧ Below w7.heap.size w7 wr) (fun _ kv _ => n - (intOf kv).toNat)
              case atStart => exact ⟨i + 1, f, by go_num, Nat.le_refl _, hil, rfl, fun h => freeR_row (HF.out h), hwr⟩
              case round =>
                clear hwr HF
                obtain ⟨k, f, rfl, hik, hkn, rfl, hfr, hwr⟩ := hrel
                have HF := Lib.hid hfr
                clear hfr
                by_cases hkl : k < n
                · have RLr := Lib.hid (RL7.out.next hwr)
                  obtain ⟨bb, off, x, rfl, hbl, hx, x0, x1, x2⟩ := RLr.out.line (k := i) (by rw [HN.out]; omega)
                  obtain ⟨bb', off', y, e2, _, hy, y0, y1, y2⟩ := RLr.out.line (k := k) (by rw [HN.out]; omega)
                  obtain ⟨rfl, rfl⟩ : bb = bb' ∧ off = off' := by simpa using e2
                  have HXY := Lib.hid (fun h => HMD.out i k x y (by omega) hx hy h)
                  have HKI := Lib.hid (HMN.out i k (by omega))
                  have j0 : (0 : Int) ≤ (k : Int) := by omega
                  have j1 : (k : Int) < (n : Int) := by omega
                  have z0 : (0 : Int) ≤ (i : Int) := by omega
                  have z1 : (i : Int) < (n : Int) := by omega
                  clear hx hy e2
                  have HKM : Hid (mustB l i k = mustB l i k) := Lib.hid rfl
                  rcases Bool.eq_false_or_eq_true (disturbB x y) with hD | hD
                  · have hM := HXY.out hD
                    have HM := Lib.hid hM
                    have HD := Lib.hid hD
                    clear hM hD
                    cases f with
                    | true =>
                      go_wp2_with (go_at_call 28; refine (is_ (iMustPrecede_n l _ cl n i k _ HN2.out (by omega) (by omega) RLr.out (by omega)) HM.out).mono ?_; rintro e w8 ⟨rfl, hb8⟩; have RL8 := Lib.hid (RLr.out.next hb8); have hw8 := below_next hwr hb8; obtain ⟨hc8, hf8⟩ := bcell hb8; have hbl8 := Nat.lt_of_lt_of_le hbl hb8.size)
                      have hc : ∀ (a : Addr) (p : Regrown) (W : World), a.block < W.heap.size → (grow (redrawn W p.d) p.os).cell? a = W.cell? a := fun a p W h => (below_regrown W p.d p.os).cell h
                      have hM := HM.out
                      have hKI := HKI.out
                      refine wp_region_quiet_below (by kernel_rfl) (by kernel_rfl) ?_
                      repeat (go_big_quiet_step (first | (go_at_call 26; exact Calls.regrown_of (is_ (iDoDisturb_ x y _) HD.out)) | (go_at_call 28; exact Calls.regrown_of (iMustPrecede_n l _ cl n _ _ _ HN2.out (by omega) (by omega) (RL8.out.next (below_regrown _ _ _)) (by omega)))))
                      refine wpQuiet_nil ?_
                      intro w9 hw9
                      obtain ⟨p9, hp9⟩ := hw9
                      have hb9 := of_rg hp9
                      clear hp9 p9
                      have hw9 := below_next hw8 hb9
                      clear hc hM hKI
                      go_wp2
                      go_roundw
                      case rel => exact ⟨k + 1, false, by go_num, by omega, by omega, rfl, (fun h => by cases h), hw9⟩
                      case measure => simp [intOf]; omega
                    | false =>
                      go_wp2_with fail
                      have hc : ∀ (a : Addr) (p : Regrown) (W : World), a.block < W.heap.size → (grow (redrawn W p.d) p.os).cell? a = W.cell? a := fun a p W h => (below_regrown W p.d p.os).cell h
                      have hM := HM.out
                      have hKI := HKI.out
                      refine wp_region_quiet_below (by kernel_rfl) (by kernel_rfl) ?_
                      repeat (go_big_quiet_step (first | (go_at_call 26; exact Calls.regrown_of (is_ (iDoDisturb_ x y _) HD.out)) | (go_at_call 28; exact Calls.regrown_of (iMustPrecede_n l _ cl n _ _ _ HN2.out (by omega) (by omega) (RLr.out.next (below_regrown _ _ _)) (by omega)))))
                      refine wpQuiet_nil ?_
                      intro w9 hw9
                      obtain ⟨p9, hp9⟩ := hw9
                      have hb9 := of_rg hp9
                      clear hp9 p9
                      have hw9 := below_next hwr hb9
                      clear hc hM hKI
                      go_wp2
                      go_roundw
                      case rel => exact ⟨k + 1, false, by go_num, by omega, by omega, rfl, (fun h => by cases h), hw9⟩
                      case measure => simp [intOf]; omega
                  · have HD := Lib.hid hD
                    clear hD
                    cases f with
                    | true =>
                      rcases Bool.eq_false_or_eq_true (mustB l i k) with hM | hM
                      · have HM := Lib.hid hM
                        clear hM
                        go_wp2_with (go_at_call 28; refine (is_ (iMustPrecede_n l _ cl n i k _ HN2.out (by omega) (by omega) RLr.out (by omega)) HM.out).mono ?_; rintro e w8 ⟨rfl, hb8⟩; have RL8 := Lib.hid (RLr.out.next hb8); have hw8 := below_next hwr hb8; obtain ⟨hc8, hf8⟩ := bcell hb8; have hbl8 := Nat.lt_of_lt_of_le hbl hb8.size)
                        have hc : ∀ (a : Addr) (p : Regrown) (W : World), a.block < W.heap.size → (grow (redrawn W p.d) p.os).cell? a = W.cell? a := fun a p W h => (below_regrown W p.d p.os).cell h
                        have hM := HM.out
                        have hKI := HKI.out
                        refine wp_region_quiet_below (by kernel_rfl) (by kernel_rfl) ?_
                        repeat (go_big_quiet_step (first | (go_at_call 26; exact Calls.regrown_of (is_ (iDoDisturb_ x y _) HD.out)) | (go_at_call 28; exact Calls.regrown_of (iMustPrecede_n l _ cl n _ _ _ HN2.out (by omega) (by omega) (RL8.out.next (below_regrown _ _ _)) (by omega)))))
                        refine wpQuiet_nil ?_
                        intro w9 hw9
                        obtain ⟨p9, hp9⟩ := hw9
                        have hb9 := of_rg hp9
                        clear hp9 p9
                        have hw9 := below_next hw8 hb9
                        clear hc hM hKI
                        go_wp2
                        go_roundw
                        case rel => exact ⟨k + 1, false, by go_num, by omega, by omega, rfl, (fun h => by cases h), hw9⟩
                        case measure => simp [intOf]; omega
                      · have HM := Lib.hid hM
                        clear hM
                        go_wp2_with (go_at_call 28; refine (is_ (iMustPrecede_n l _ cl n i k _ HN2.out (by omega) (by omega) RLr.out (by omega)) HM.out).mono ?_; rintro e w8 ⟨rfl, hb8⟩; have RL8 := Lib.hid (RLr.out.next hb8); have hw8 := below_next hwr hb8; obtain ⟨hc8, hf8⟩ := bcell hb8; have hbl8 := Nat.lt_of_lt_of_le hbl hb8.size)
                        have hc : ∀ (a : Addr) (p : Regrown) (W : World), a.block < W.heap.size → (grow (redrawn W p.d) p.os).cell? a = W.cell? a := fun a p W h => (below_regrown W p.d p.os).cell h
                        have hM := HM.out
                        have hKI := HKI.out
                        refine wp_region_quiet_below (by kernel_rfl) (by kernel_rfl) ?_
                        repeat (go_big_quiet_step (first | (go_at_call 26; exact Calls.regrown_of (is_ (iDoDisturb_ x y _) HD.out)) | (go_at_call 28; exact Calls.regrown_of (iMustPrecede_n l _ cl n _ _ _ HN2.out (by omega) (by omega) (RL8.out.next (below_regrown _ _ _)) (by omega)))))
                        refine wpQuiet_nil ?_
                        intro w9 hw9
                        obtain ⟨p9, hp9⟩ := hw9
                        have hb9 := of_rg hp9
                        clear hp9 p9
                        have hw9 := below_next hw8 hb9
                        clear hc hM hKI
                        go_wp2
                        go_roundw
                        case rel => exact ⟨k + 1, true, by go_num, by omega, by omega, rfl, (fun _ => freeR_next (HF.out rfl) HM.out), hw9⟩
                        case measure => simp [intOf]; omega
                    | false =>
                      have HM := HKM
                      go_wp2_with fail
                      have hc : ∀ (a : Addr) (p : Regrown) (W : World), a.block < W.heap.size → (grow (redrawn W p.d) p.os).cell? a = W.cell? a := fun a p W h => (below_regrown W p.d p.os).cell h
                      have hM := HM.out
                      have hKI := HKI.out
                      refine wp_region_quiet_below (by kernel_rfl) (by kernel_rfl) ?_
                      repeat (go_big_quiet_step (first | (go_at_call 26; exact Calls.regrown_of (is_ (iDoDisturb_ x y _) HD.out)) | (go_at_call 28; exact Calls.regrown_of (iMustPrecede_n l _ cl n _ _ _ HN2.out (by omega) (by omega) (RLr.out.next (below_regrown _ _ _)) (by omega)))))
                      refine wpQuiet_nil ?_
                      intro w9 hw9
                      obtain ⟨p9, hp9⟩ := hw9
                      have hb9 := of_rg hp9
                      clear hp9 p9
                      have hw9 := below_next hwr hb9
                      clear hc hM hKI
                      go_wp2
                      go_roundw
                      case rel => exact ⟨k + 1, false, by go_num, by omega, by omega, rfl, (fun h => by cases h), hw9⟩
                      case measure => simp [intOf]; omega
                · have ek : k = n := by omega
                  subst ek
                  go_wp2
                  go_roundw
                  case rel => exact ⟨i + 1, f, by go_num, by omega, rfl, fun h => freeR_end (HF.out h), hwr⟩
                  case measure => simp [intOf]; omega
            · have ei : i = n := by omega
              subst ei
              have RLr := Lib.hid (RL7.out.next hwr)
              have hw8 := below_next hw7 hwr
              have HFF : Hid (f = true → 2 ≤ i → 2 ≤ C) := Lib.hid fun h1 h2 => HFR.out h2 (fun a b h3 h4 => HF.out h1 a b h3 h4 (.inl (by omega)))
              have HSN : Hid (¬ i = 0 → sameB l [] = false) := Lib.hid fun h => by rw [same_nil (by rw [HN.out]; omega), HN.out]; simpa using h
              have HZ' := HZ.out
              clear hwr hw7 RL7 HF
              by_cases hC1 : C = 1
              · subst hC1
                have HFF' := HFF.out
                cases f with
                | false =>
                  clear HZ' HFF'
                  go_wp2_with fail
                  refine (isI_ (iCountOrders_n [] none 0 0 _ rfl Rd.nil (by omega)) (ordn_nil (l := []) rfl)).mono ?_
                  rintro e w10 ⟨rfl, hb10⟩
                  have hw10 := below_next hw8 hb10
                  go_wp2
                  go_ret
                  exact ⟨rfl, hw10⟩
                | true =>
                  have h2 : i < 2 := by
                    rcases Nat.lt_or_ge i 2 with h | h
                    · exact h
                    · have := HFF' rfl h; omega
                  have h2' : (i : Int) < 2 := by omega
                  clear HZ' HFF'
                  go_wp2_with fail
                  refine (isI_ (iCountOrders_n [] none 0 0 _ rfl Rd.nil (by omega)) (ordn_nil (l := []) rfl)).mono ?_
                  rintro e w10 ⟨rfl, hb10⟩
                  have hw10 := below_next hw8 hb10
                  go_wp2
                  go_ret
                  exact ⟨rfl, hw10⟩
              · have hne : (C == 1) = false := by simpa using hC1
                have hgt : 1 < C := by omega
                have hgt' : ¬ C ≤ 1 := by omega
                have HS0 := Lib.hid (HSN.out (fun h => hC1 (HZ' h)))
                clear HZ' hC1
                cases f with
                | false =>
                  go_wp2_with fail
                  refine (is_ (iAreSame_n l [] _ none i 0 cl 0 _ HN.out rfl (by omega) (by omega) RLr.out Rd.nil) HS0.out).mono ?_
                  rintro e w9 ⟨rfl, hb9⟩
                  have hw9 := below_next hw8 hb9
                  go_wp2_with fail
                  refine (isI_ (iCountOrders_n [] none 0 0 _ rfl Rd.nil (by omega)) (ordn_nil (l := []) rfl)).mono ?_
                  rintro e w10 ⟨rfl, hb10⟩
                  have hw10 := below_next hw9 hb10
                  go_wp2
                  go_ret
                  exact ⟨rfl, hw10⟩
                | true =>
                  by_cases h2 : i < 2
                  · have h2' : (i : Int) < 2 := by omega
                    go_wp2_with fail
                    refine (is_ (iAreSame_n l [] _ none i 0 cl 0 _ HN.out rfl (by omega) (by omega) RLr.out Rd.nil) HS0.out).mono ?_
                    rintro e w9 ⟨rfl, hb9⟩
                    have hw9 := below_next hw8 hb9
                    go_wp2_with fail
                    refine (isI_ (iCountOrders_n [] none 0 0 _ rfl Rd.nil (by omega)) (ordn_nil (l := []) rfl)).mono ?_
                    rintro e w10 ⟨rfl, hb10⟩
                    have hw10 := below_next hw9 hb10
                    go_wp2
                    go_ret
                    exact ⟨rfl, hw10⟩
                  · have h2' : ¬ (i : Int) < 2 := by omega
                    go_wp2_with fail
                    refine (is_ (iAreSame_n l [] _ none i 0 cl 0 _ HN.out rfl (by omega) (by omega) RLr.out Rd.nil) HS0.out).mono ?_
                    rintro e w9 ⟨rfl, hb9⟩
                    have hw9 := below_next hw8 hb9
                    go_wp2_with fail
                    refine (isI_ (iCountOrders_n [] none 0 0 _ rfl Rd.nil (by omega)) (ordn_nil (l := []) rfl)).mono ?_
                    rintro e w10 ⟨rfl, hb10⟩
                    have hw10 := below_next hw9 hb10
                    go_wp2
                    go_ret
                    exact ⟨rfl, hw10⟩
end Go.Proofs.Ytbcgokpamhgabaa

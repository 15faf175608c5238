/- The contracts of undoFrom and spreadOf. -/
import Derived.Test.YtbcgokpamhgabaaChecked
import Derived.Test.YtbcgokpamhgabaaKb01
import Derived.Tactics
import Derived.Tactics2
import Derived.WalkKit
import Derived.WalkSpells
import Derived.WalkLawsBesides
import Derived.Deep.QuietTactic
import Derived.BigQuiet
import Derived.BigGuardPart
import Derived.Lib.QuietBelow
import Derived.OwnWalk
import Derived.KernelRfl
import Derived.Test.YtbcgokpamhgabaaKb17
import Derived.Test.YtbcgokpamhgabaaKb19
import Derived.Test.YtbcgokpamhgabaaKb20
import Derived.Test.YtbcgokpamhgabaaKb13
namespace Go.Proofs.Ytbcgokpamhgabaa
set_option linter.unusedVariables false
set_option maxRecDepth 20000
open Go.RowKit Go.Sort

set_option maxHeartbeats 1000000 in
theorem undoFrom_ (p f o t : Nat) (hp : B63 p) (hf : f < 63) (ho : o < 63) (ht : t < 63) (hft : f ≠ t) (hot : o ≠ t) (hfo : f ≠ o) (W : World) :
    Calls Try.prog 159 #[.int .i64 p, .agg #[.int .i64 f, .int .i64 o, .int .i64 t]] W fun e w' =>
      e = .returned (.tuple #[.int .i64 ((if canU p ⟨f, o, t⟩ then flip p ⟨f, o, t⟩ else p : Nat) : Int), .bool (canU p ⟨f, o, t⟩)]) ∧ Below W.heap.size W w' := by
  rcases Bool.eq_false_or_eq_true (p.testBit f) with h1 | h1
  · have hc : canU p ⟨f, o, t⟩ = false := by simp [canU, h1]
    rw [hc]
    go_enter Try.func159, Try.ntmps159
    go_wp2_with (go_at_call 98; refine (hasBit_ p _ hp (by omega) _).mono ?_; rintro e w' ⟨rfl, rfl⟩)
    go_ret2
    exact ⟨rfl, (Below.refl _ _).alloc (Nat.le_refl _) _⟩
  · rcases Bool.eq_false_or_eq_true (p.testBit o) with h2 | h2
    · have hc : canU p ⟨f, o, t⟩ = false := by simp [canU, h2]
      rw [hc]
      go_enter Try.func159, Try.ntmps159
      go_wp2_with (go_at_call 98; refine (hasBit_ p _ hp (by omega) _).mono ?_; rintro e w' ⟨rfl, rfl⟩)
      go_ret2
      exact ⟨rfl, (Below.refl _ _).alloc (Nat.le_refl _) _⟩
    · rcases Bool.eq_false_or_eq_true (p.testBit t) with h3 | h3
      · have hc : canU p ⟨f, o, t⟩ = true := by simp [canU, h1, h2, h3]
        have hfl := flip_undo hc hft hot hfo
        rw [hc, if_pos rfl]
        have HF := Lib.hid hfl
        have pf := i64_pow f hf
        have po := i64_pow o ho
        have pt := i64_pow t ht
        have a1 := i64_andNot p (pow2 t) hp (b63_pow2 ht)
        have a2 := i64_or (adiff p (pow2 t)) (pow2 f) (b63_adiff hp) (b63_pow2 hf)
        have a3 := i64_or (adiff p (pow2 t) ||| pow2 f) (pow2 o) (b63_or (b63_adiff hp) (b63_pow2 hf)) (b63_pow2 ho)
        clear hfl hc
        go_enter Try.func159, Try.ntmps159
        go_wp2_with (go_at_call 98; refine (hasBit_ p _ hp (by omega) _).mono ?_; rintro e w' ⟨rfl, rfl⟩)
        go_quiet (fail)
        go_wp2
        go_ret2
        exact ⟨by rw [← HF.out]; rfl, below_drewN ((Below.refl _ _).alloc (Nat.le_refl _) _) _⟩
      · have hc : canU p ⟨f, o, t⟩ = false := by simp [canU, h3]
        rw [hc]
        go_enter Try.func159, Try.ntmps159
        go_wp2_with (go_at_call 98; refine (hasBit_ p _ hp (by omega) _).mono ?_; rintro e w' ⟨rfl, rfl⟩)
        go_ret2
        exact ⟨rfl, (Below.refl _ _).alloc (Nat.le_refl _) _⟩
theorem lsFo_of {w h s : Nat} (hb : BdOk w h s) : ∀ l ∈ linesL ⟨w, h, s⟩, ∃ f o t : Nat, l = ⟨f, o, t⟩ ∧ f < 49 ∧ o < 49 ∧ t < 49 ∧ f ≠ t ∧ o ≠ t ∧ f ≠ o := fun l hl => by
  obtain ⟨f, o, t, k⟩ := linesL_ok hb hl
  have a := hb.area
  have := k.f1
  have := k.o1
  have := k.t1
  exact ⟨f, o, t, k.eq, by omega, by omega, by omega, k.ft, k.ot, k.fo⟩
theorem own_natL {w : World} {base n : Nat} {e : TypeId} {A : Option Addr} {c : Nat} {xs : List Nat} (h : w.ownsRow base e 1 (.slice A n c) n (ints (natL xs))) {k x : Nat} (hx : xs[k]? = some x) :
    ∃ b off, A = some ⟨b, off, none⟩ ∧ b < w.heap.size ∧ w.cell? ⟨b, off + k, none⟩ = some (.int .i64 x) := by
  obtain ⟨b, off, y, hA, hb, hy, hc⟩ := (rd_of_own h).int (k := k) (by rw [natL_length]; exact (List.getElem?_eq_some_iff.1 hx).1)
  rw [natL_get hx] at hy
  injection hy with hy
  subst hy
  exact ⟨b, off, hA, hb, hc⟩
theorem is2' {P : Program} {f : FuncId} {args : Array Value} {w : World} {k : IntKind} {a b : Int} {x y : Bool} {Q : World → Prop} (h : Calls P f args w fun e w' => e = .returned (.tuple #[.int k a, .bool x]) ∧ Q w') (e : a = b) (e2 : x = y) : Calls P f args w fun e w' => e = .returned (.tuple #[.int k b, .bool y]) ∧ Q w' := e ▸ e2 ▸ h
theorem own_other {w : World} {base : Nat} {e : TypeId} {size n : Nat} {v x : Value} {xs : List Value} {a : Addr} (h : w.ownsRow base e size v n xs) (hne : v.ownBlock ≠ some a.block) : (w.setCell a x).ownsRow base e size v n xs := by
  refine ⟨h.1, ?_⟩
  rcases h.2 with hn | ⟨g, cap, cur, rfl, hg, hgg, rest⟩
  · exact .inl hn
  · refine .inr ⟨g, cap, cur, rfl, hg, ?_, rest⟩
    have hb : a.block ≠ g := fun e => hne (by simp [Value.ownBlock, e])
    rw [← hgg]
    exact heap_setCell_other w a g x (Ne.symm hb)
set_option maxHeartbeats 4000000 in
theorem spreadOf_ (b : Ln) (p : Int) (back : Bool) (hp : I64 p) (W : World) :
    Calls Try.prog 133 #[.agg #[.int .i64 b.f, .int .i64 b.o, .int .i64 b.t], .int .i64 p, .bool back] W (GivesRd W (spreadL b p back).length (bools (spreadL b p back))) := by
  rcases Bool.eq_false_or_eq_true (smallB b) with hS | hS
  · rcases Bool.eq_false_or_eq_true (posB b p) with hP | hP
    · obtain ⟨w, h, s, rfl, hb, h16, s16⟩ := smallB_nat hS
      obtain ⟨q, rfl, hq⟩ := posB_nat hP
      have hql := posB_lt hb hq
      have HR := Lib.hid (spreadL_yes (back := back) hS hP)
      obtain ⟨m1, m2, m3⟩ := area_bounds hb.w1 hb.w7 hb.h1 hb.h7
      have hsh := i64_pow (w * h) (by omega)
      have hST := stays_of hb
      have HLS0 := lsFo_of hb
      have hle := linesL_le ⟨w, h, s⟩
      obtain ⟨ls, hls⟩ : ∃ ls, linesL ⟨w, h, s⟩ = ls := ⟨_, rfl⟩
      rw [hls] at HR hST HLS0 hle
      have HL := Lib.hid hls
      have HLS := Lib.hid HLS0
      have hN1 : 2 ^ (w * h) ≤ 65536 := Nat.pow_le_pow_right (n := 2) (j := 16) (by omega) h16
      obtain ⟨N, hN⟩ : ∃ N, N = 2 ^ (w * h) := ⟨_, rfl⟩
      rw [← hN] at HR hST hql hN1
      rw [show pow2 (w * h) = N from hN.symm] at hsh
      have hN0 : 0 < N := by omega
      have HSL : Hid ((spreadL ⟨w, h, s⟩ q back).length = N) := Lib.hid (by rw [HR.out]; exact (bst_inv hql hST _).len)
      have HST := Lib.hid hST
      have HQL := Lib.hid hql
      have hql2 : (q : Int) < (N : Int) := by omega
      have infoBool : (Try.prog.info? 4).map (fun i => (i.zero, i.size, i.bytes)) = some (some (.bool false), 1, 1) := by kernel_rfl
      obtain ⟨j0, hj0, jz0, jz1, jz2⟩ := info_parts infoBool
      obtain ⟨i0, hi, hz0, hz1, hz2⟩ := info_parts infoInt
      clear infoBool hls HLS0 hST hN hq
      cases back with
      | false =>
        go_enter Try.func133, Try.ntmps133
        go_wp2_with fail
        refine (is_ (iIsSmall_ ⟨w, h, s⟩ _) hS).mono ?_
        rintro e w1 ⟨rfl, hb1⟩
        obtain ⟨hc, hf⟩ := bcell hb1
        have z0 : W.heap.size < w1.heap.size := by have := hb1.size; (try simp at this); omega
        have hw1 : Below W.heap.size W w1 := below_step ((Below.refl _ _).alloc (Nat.le_refl _) _) hb1 (by (try simp))
        have c0 : w1.cell? ⟨W.heap.size, 0, none⟩ = some (.int .i64 w) := by rw [hc _ _ (by simp)]; simp [go_sem]
        have c1 : w1.cell? ⟨W.heap.size, 1, none⟩ = some (.int .i64 h) := by rw [hc _ _ (by simp)]; simp [go_sem]
        have c2 : w1.cell? ⟨W.heap.size, 2, none⟩ = some (.int .i64 s) := by rw [hc _ _ (by simp)]; simp [go_sem]
        clear hc hf hb1
        go_wp2_with fail
        refine (is_ (iPositionOk_ ⟨w, h, s⟩ q hp _) hP).mono ?_
        rintro e w2 ⟨rfl, hb2⟩
        have d0 := (hb2.cell (p := ⟨W.heap.size, 0, none⟩) z0).trans c0
        have d1 := (hb2.cell (p := ⟨W.heap.size, 1, none⟩) z0).trans c1
        have d2 := (hb2.cell (p := ⟨W.heap.size, 2, none⟩) z0).trans c2
        have hw2 := below_next hw1 hb2
        have z2 : W.heap.size < w2.heap.size := by have := hb2.size; omega
        clear c0 c1 c2 hb2
        go_wp2_with fail
        refine (iLinesOf_ ⟨w, h, s⟩ _).mono ?_
        rintro e W1 ⟨A1, k1, rfl, rd1, hb3⟩
        rw [HL.out] at rd1 ⊢
        have c0 := (hb3.cell (p := ⟨W.heap.size, 0, none⟩) z2).trans d0
        have c1 := (hb3.cell (p := ⟨W.heap.size, 1, none⟩) z2).trans d1
        have c2 := (hb3.cell (p := ⟨W.heap.size, 2, none⟩) z2).trans d2
        have hW1 := below_next hw2 hb3
        have z3 : W.heap.size < W1.heap.size := by have := hb3.size; omega
        clear d0 d1 d2 hb3
        go_wp2_with (first | (at_make; refine wpList_make_full _ rfl (.tmp 31) (.tmp 31) 113 rfl W1.heap.size 4 j0 _ 1 Try.underlying113 hj0 jz0 jz1 .i64 .i64 _ _ N rfl rfl hsh hsh (by rw [jz2]; omega) (by unfold maxLen; omega) (Nat.le_refl _) ?_; intro W2 hown hg; have hb4 : Below W1.heap.size W1 W2 := (Below.refl _ _).grown hg (Nat.le_refl _) (by simp); rw [made_bools] at hown; obtain ⟨z, _, u0, v0⟩ := own_atB hown HQL.out))
        
        have hs0 : W1.heap.size < W2.heap.size := (hown.lt W1.heap.size rfl).2
        have hS0 : (((W2.setCell ⟨W1.heap.size, q, none⟩ (.bool true)).alloc (.cells #[.int .i64 q] 3))).ownsRow W1.heap.size 4 1 (.slice (some ⟨W1.heap.size, 0, none⟩) N N) N (bools (bst false ls N q 0).1) := (own_setB hown q true).alloc _
        have hT0 : ((W2.setCell ⟨W1.heap.size, q, none⟩ (.bool true)).alloc (.cells #[.int .i64 q] 3)).ownsRow (W1.heap.size + 1) 3 1 (.slice (some ⟨W2.heap.size, 0, none⟩) (bst false ls N q 0).2.length 1) (bst false ls N q 0).2.length (ints (natL (bst false ls N q 0).2)) := by
          have := World.ownsRow_lit (base := W1.heap.size + 1) (e := 3) (size := 1) (W2.setCell ⟨W1.heap.size, q, none⟩ (.bool true)) #[.int .i64 q] 1 (by simp; omega) (by simp [maxLen]) rfl
          simpa [bst, natL, ints] using this
        have hB0 : Below W1.heap.size W1 ((W2.setCell ⟨W1.heap.size, q, none⟩ (.bool true)).alloc (.cells #[.int .i64 q] 3)) := (hb4.setCell (by simp) _).alloc (by simp; omega) _
        have HS0 := Lib.hid hS0
        have HT0 := Lib.hid hT0
        clear hown hg hb4 u0 v0 hS0 hT0 c0 c1 c2
        go_loopw [9, 10] (fun tv kv wr => ∃ (k : Nat) (A : Option Addr) (c : Nat), k ≤ (bst false ls N q k).2.length ∧ kv = .int .i64 k ∧ tv = .slice A (bst false ls N q k).2.length c ∧ wr.ownsRow W1.heap.size 4 1 (.slice (some ⟨W1.heap.size, 0, none⟩) N N) N (bools (bst false ls N q k).1) ∧ wr.ownsRow (W1.heap.size + 1) 3 1 (.slice A (bst false ls N q k).2.length c) (bst false ls N q k).2.length (ints (natL (bst false ls N q k).2)) ∧ Below W1.heap.size W1 wr) (fun _ kv _ => N - (intOf kv).toNat)
        case atStart => exact ⟨0, _, 1, Nat.zero_le _, rfl, by simp [bst], HS0.out, HT0.out, hB0⟩
        case round =>
          obtain ⟨k, A, c, hkl, rfl, rfl, ownS, ownT, hw⟩ := hrel
          have inv := bst_inv (back := false) HQL.out HST.out k
          have hle2 := inv.le
          have HIN := Lib.hid inv
          have HAT := Lib.hid (bfs_at (back := false) (k := k) HQL.out HST.out)
          generalize hst : bst false ls N q k = st at hkl ownS ownT inv hle2 HIN HAT ⊢
          have HSTE := Lib.hid hst
          have HOS := Lib.hid ownS
          have HOT := Lib.hid ownT
          clear hst inv ownS ownT
          by_cases hlt : k < st.2.length
          · have hx : st.2[k]? = some st.2[k] := List.getElem?_eq_getElem hlt
            generalize st.2[k] = x at hx
            have xl := HIN.out.lt x (List.mem_of_getElem? hx)
            have HX := Lib.hid hx
            have HNX2 : Hid (bst false ls N q (k + 1) = rowS false ls x st) := Lib.hid (by
              rw [bst_next (by rw [HSTE.out]; exact hx), HSTE.out])
            have k0' : (0 : Int) ≤ (k : Int) := by omega
            have x63 : B63 x := by unfold B63; omega
            clear hx
            go_wp2_with fail
            go_loopw [9, 46] (fun tv iv wx => ∃ (i : Nat) (A : Option Addr) (c : Nat), i ≤ ls.length ∧ iv = .int .i64 i ∧ tv = .slice A (rowS false (ls.take i) x st).2.length c ∧ wx.ownsRow W1.heap.size 4 1 (.slice (some ⟨W1.heap.size, 0, none⟩) N N) N (bools (rowS false (ls.take i) x st).1) ∧ wx.ownsRow (W1.heap.size + 1) 3 1 (.slice A (rowS false (ls.take i) x st).2.length c) (rowS false (ls.take i) x st).2.length (ints (natL (rowS false (ls.take i) x st).2)) ∧ Below W1.heap.size W1 wx) (fun _ iv _ => ls.length - (intOf iv).toNat)
            case atStart => exact ⟨0, A, c, Nat.zero_le _, rfl, rfl, HOS.out, HOT.out, hw⟩
            case round =>
              obtain ⟨i, A', c', hi0, rfl, rfl, ownS, ownT, hwx⟩ := hrel
              have hsz := hwx.size
              have HS1 := Lib.hid ownS
              have HT1 := Lib.hid ownT
              have inv1 := row_inv (back := false) xl (ls.take i) st HIN.out (fun l hl => HST.out l (List.mem_of_mem_take hl))
              have hp1 := row_pre (back := false) (p := x) (ls.take i) st HX.out
              have hl1 := inv1.le
              have HLEN := Lib.hid inv1.len
              by_cases hil : i < ls.length
              · obtain ⟨bb, off, l, rfl, hbl, hxl, x0, x1, x2⟩ := (rd1.below hwx).line hil
                obtain ⟨f, o, t, rfl, f1, o1, t1, hft, hot, hfo⟩ := HLS.out l (List.mem_of_getElem? hxl)
                have hQ := HST.out _ (List.mem_of_getElem? hxl) x xl
                have HRT := Lib.hid (row_take (back := false) (p := x) (st := st) hxl)
                have HF := Lib.hid hft
                have HO := Lib.hid hot
                have HFO := Lib.hid hfo
                have i0' : (0 : Int) ≤ (i : Int) := by omega
                have i1' : (i : Int) < (ls.length : Int) := by omega
                have hbz : bb < wr.heap.size := by omega
                obtain ⟨tb, toff, rfl, htb, tcell⟩ := own_natL ownT hp1
                have hk1 : k < (rowS false (ls.take i) x st).2.length := (List.getElem?_eq_some_iff.1 hp1).1
                generalize hri : rowS false (ls.take i) x st = si at HS1 HT1 hl1 HLEN HRT hk1 ⊢
                have HRI := Lib.hid hri
                have k1' : (k : Int) < (si.2.length : Int) := by omega
                obtain ⟨bq, hbq, sc, sf⟩ := own_atB HS1.out hQ
                have HBQ := Lib.hid hbq
                have hzs : W1.heap.size < wr.heap.size := (HS1.out.lt W1.heap.size rfl).2
                clear ownS ownT inv1 hp1 hxl hft hot hfo hri hbq
                have hc : ∀ (a : Addr) (p : Regrown) (W : World), a.block < W.heap.size → (grow (redrawn W p.d) p.os).cell? a = W.cell? a := fun a p W h => (below_regrown W p.d p.os).cell h
                rcases Bool.eq_false_or_eq_true (canD false x ⟨f, o, t⟩) with hd | hd
                · have hd' : canJ x ⟨f, o, t⟩ = true := hd
                  rcases Bool.eq_false_or_eq_true bq with hbb | hbb
                  · subst hbb
                    have HXX : Hid (rowS false (ls.take (i + 1)) x st = si) := Lib.hid (by rw [HRT.out]; exact step_seen HBQ.out)
                    generalize hQe : flip x ⟨f, o, t⟩ = Q at hQ sc sf
                    have HQE := Lib.hid hQe
                    have q0 : (0 : Int) ≤ (Q : Int) := by omega
                    have q1 : (Q : Int) < (N : Int) := by omega
                    clear hQe
                    go_wp2_with fail
                    refine wp_region_quiet_below (by kernel_rfl) (by kernel_rfl) ?_
                    repeat (go_big_quiet_step (first | (go_at_call 148; exact Calls.regrown_of (is2' (jumpFrom_ x f o t x63 (by omega) (by omega) (by omega) HF.out HO.out _) (by rw [hd', if_pos rfl, HQE.out]) hd'))))
                    refine wpQuiet_nil ?_
                    intro w3 hw3
                    obtain ⟨p3, hp3⟩ := hw3
                    have hb3 := of_rg hp3
                    clear hp3 p3
                    have hn3 : Below wr.heap.size wr w3 := below_step ((Below.refl _ _).alloc (Nat.le_refl _) _) hb3 (by simp)
                    have sc3 := (hn3.cell (p := ⟨W1.heap.size, Q, none⟩) hzs).trans sc
                    have hz3 : W1.heap.size < w3.heap.size := by have := hn3.size; omega
                    have HS3 := Lib.hid (own_next HS1.out hn3)
                    have HT3 := Lib.hid (own_next HT1.out hn3)
                    have hw3 := hwx.trans (hn3.mono hsz)
                    go_wp2
                    go_roundw
                    case rel => exact ⟨i + 1, _, c', by omega, by go_num, by rw [HXX.out], by rw [HXX.out]; exact HS3.out, by rw [HXX.out]; exact HT3.out, hw3⟩
                    case measure => simp [intOf]; omega
                  · subst hbb
                    have HXX : Hid (rowS false (ls.take (i + 1)) x st = (si.1.set (flip x ⟨f, o, t⟩) true, si.2 ++ [flip x ⟨f, o, t⟩])) := Lib.hid (by rw [HRT.out]; exact step_new hd HBQ.out)
                    generalize hQe : flip x ⟨f, o, t⟩ = Q at hQ sc sf HXX
                    have HQE := Lib.hid hQe
                    have q0 : (0 : Int) ≤ (Q : Int) := by omega
                    have q1 : (Q : Int) < (N : Int) := by omega
                    clear hQe
                    go_wp2_with fail
                    refine wp_region_quiet_below (by kernel_rfl) (by kernel_rfl) ?_
                    repeat (go_big_quiet_step (first | (go_at_call 148; exact Calls.regrown_of (is2' (jumpFrom_ x f o t x63 (by omega) (by omega) (by omega) HF.out HO.out _) (by rw [hd', if_pos rfl, HQE.out]) hd'))))
                    refine wpQuiet_nil ?_
                    intro w3 hw3
                    obtain ⟨p3, hp3⟩ := hw3
                    have hb3 := of_rg hp3
                    clear hp3 p3
                    have hn3 : Below wr.heap.size wr w3 := below_step ((Below.refl _ _).alloc (Nat.le_refl _) _) hb3 (by simp)
                    have sc3 := (hn3.cell (p := ⟨W1.heap.size, Q, none⟩) hzs).trans sc
                    have sf3 := (hn3.frozen (p := ⟨W1.heap.size, Q, none⟩) hzs).trans sf
                    have hz3 : W1.heap.size < w3.heap.size := by have := hn3.size; omega
                    have HS3 := Lib.hid (own_setB (own_next HS1.out hn3) Q true)
                    have hT3 : Slab (w3.setCell ⟨W1.heap.size, Q, none⟩ (.bool true)) (W1.heap.size + 1) none 3 1 (.slice (some ⟨tb, toff, none⟩) si.2.length c') si.2.length (ints (natL si.2)) := .inl (own_other (a := ⟨W1.heap.size, Q, none⟩) (own_next HT1.out hn3) (show _ ≠ some W1.heap.size from fun hh => by have := ((own_next HT1.out hn3).lt _ hh).1; omega))
                    have HNW : Hid (∀ j u, [Value.int .i64 (Q : Int)][j]? = some u → ((w3.setCell ⟨W1.heap.size, Q, none⟩ (.bool true)).alloc (.cells #[.int .i64 Q] 3)).cell? ((⟨w3.heap.size, 0, none⟩ : Addr).add j) = some u) := Lib.hid (by
                      have := cell_one_new (w3.setCell ⟨W1.heap.size, Q, none⟩ (.bool true)) (.int .i64 (Q : Int)) 3
                      rwa [World.size_setCell] at this)
                    have hw3 : Below W1.heap.size W1 (w3.setCell ⟨W1.heap.size, Q, none⟩ (.bool true)) := (hwx.trans (hn3.mono hsz)).setCell (by simp) _
                    have hw3s : W1.heap.size + 1 ≤ (w3.setCell ⟨W1.heap.size, Q, none⟩ (.bool true)).heap.size := by simp; omega
                    go_wp2_with (first | (at_builtin; refine wpList_append_slab _ rfl (.tmp 80) (.tmp 82) 69 rfl (W1.heap.size + 1) none 3 i0 (.int .i64 0) 1 8 Try.underlying69 hi hz0 hz1 hz2 rfl (by decide) _ _ _ rfl (hT3.alloc _) ⟨w3.heap.size, 0, none⟩ 1 1 [.int .i64 Q] rfl rfl HNW.out (by intro u hu; simp at hu; subst hu; rfl) (by omega) (by unfold maxLen; omega) (by omega) (by have := hw3s; simp; omega) ?_; intro g cap wA ownA hbA))
                    have HOA := Lib.hid ownA
                    have HSA := Lib.hid (own_below (HS3.out.alloc (.cells #[.int .i64 Q] 3)) hbA (fun g hg => by simp [Value.ownBlock] at hg; omega))
                    have hwA : Below W1.heap.size W1 wA := (hw3.alloc (by simp; omega) _).trans (hbA.mono (Nat.le_succ _))
                    clear hT3 ownA
                    go_wp2
                    go_roundw
                    case rel => exact ⟨i + 1, some ⟨g, 0, none⟩, cap, by omega, by go_num, by rw [HXX.out]; simp, by rw [HXX.out]; exact HSA.out, by rw [HXX.out]; simpa [natL, ints] using HOA.out, hwA⟩
                    case measure => simp [intOf]; omega
                · have hd' : canJ x ⟨f, o, t⟩ = false := hd
                  have HXX : Hid (rowS false (ls.take (i + 1)) x st = si) := Lib.hid (by rw [HRT.out]; exact step_no hd)
                  go_wp2_with fail
                  refine wp_region_quiet_below (by kernel_rfl) (by kernel_rfl) ?_
                  repeat (go_big_quiet_step (first | (go_at_call 148; exact Calls.regrown_of (is2' (jumpFrom_ x f o t x63 (by omega) (by omega) (by omega) HF.out HO.out _) (by rw [hd', if_neg (by simp)]) hd'))))
                  refine wpQuiet_nil ?_
                  intro w3 hw3
                  obtain ⟨p3, hp3⟩ := hw3
                  have hb3 := of_rg hp3
                  clear hp3 p3
                  have hn3 : Below wr.heap.size wr w3 := below_step ((Below.refl _ _).alloc (Nat.le_refl _) _) hb3 (by simp)
                  have HS3 := Lib.hid (own_next HS1.out hn3)
                  have HT3 := Lib.hid (own_next HT1.out hn3)
                  have hw3 := hwx.trans (hn3.mono hsz)
                  go_wp2
                  go_roundw
                  case rel => exact ⟨i + 1, _, c', by omega, by go_num, by rw [HXX.out], by rw [HXX.out]; exact HS3.out, by rw [HXX.out]; exact HT3.out, hw3⟩
                  case measure => simp [intOf]; omega
              · have e : i = ls.length := by omega
                subst e
                have hs2 := HS1.out
                have ht2 := HT1.out
                rw [List.take_length] at hs2 ht2 hl1 ⊢
                have hk2 : k + 1 ≤ (rowS false ls x st).2.length := by
                  have := row_pre (back := false) (p := x) ls st HX.out
                  exact (List.getElem?_eq_some_iff.1 this).1
                have HS2 := Lib.hid hs2
                have HT2 := Lib.hid ht2
                generalize rowS false ls x st = sn at HNX2 HS2 HT2 hk2 hl1 ⊢
                clear hs2 ht2
                go_wp2
                go_roundw
                case rel => exact ⟨k + 1, A', c', by rw [HNX2.out]; exact hk2, by go_num, by rw [HNX2.out], by rw [HNX2.out]; exact HS2.out, by rw [HNX2.out]; exact HT2.out, hwx⟩
                case measure => simp [intOf]; omega
          · have hke : k = st.2.length := by omega
            have HFIN := Lib.hid (HAT.out (by omega) (by omega))
            go_wp2
            go_ret
            exact ⟨_, N, ret_slice HSL.out.symm, by rw [HR.out, HFIN.out]; exact rd_of_own HOS.out, below_next hW1 hw⟩
      | true =>
        go_enter Try.func133, Try.ntmps133
        go_wp2_with fail
        refine (is_ (iIsSmall_ ⟨w, h, s⟩ _) hS).mono ?_
        rintro e w1 ⟨rfl, hb1⟩
        obtain ⟨hc, hf⟩ := bcell hb1
        have z0 : W.heap.size < w1.heap.size := by have := hb1.size; (try simp at this); omega
        have hw1 : Below W.heap.size W w1 := below_step ((Below.refl _ _).alloc (Nat.le_refl _) _) hb1 (by (try simp))
        have c0 : w1.cell? ⟨W.heap.size, 0, none⟩ = some (.int .i64 w) := by rw [hc _ _ (by simp)]; simp [go_sem]
        have c1 : w1.cell? ⟨W.heap.size, 1, none⟩ = some (.int .i64 h) := by rw [hc _ _ (by simp)]; simp [go_sem]
        have c2 : w1.cell? ⟨W.heap.size, 2, none⟩ = some (.int .i64 s) := by rw [hc _ _ (by simp)]; simp [go_sem]
        clear hc hf hb1
        go_wp2_with fail
        refine (is_ (iPositionOk_ ⟨w, h, s⟩ q hp _) hP).mono ?_
        rintro e w2 ⟨rfl, hb2⟩
        have d0 := (hb2.cell (p := ⟨W.heap.size, 0, none⟩) z0).trans c0
        have d1 := (hb2.cell (p := ⟨W.heap.size, 1, none⟩) z0).trans c1
        have d2 := (hb2.cell (p := ⟨W.heap.size, 2, none⟩) z0).trans c2
        have hw2 := below_next hw1 hb2
        have z2 : W.heap.size < w2.heap.size := by have := hb2.size; omega
        clear c0 c1 c2 hb2
        go_wp2_with fail
        refine (iLinesOf_ ⟨w, h, s⟩ _).mono ?_
        rintro e W1 ⟨A1, k1, rfl, rd1, hb3⟩
        rw [HL.out] at rd1 ⊢
        have c0 := (hb3.cell (p := ⟨W.heap.size, 0, none⟩) z2).trans d0
        have c1 := (hb3.cell (p := ⟨W.heap.size, 1, none⟩) z2).trans d1
        have c2 := (hb3.cell (p := ⟨W.heap.size, 2, none⟩) z2).trans d2
        have hW1 := below_next hw2 hb3
        have z3 : W.heap.size < W1.heap.size := by have := hb3.size; omega
        clear d0 d1 d2 hb3
        go_wp2_with (first | (at_make; refine wpList_make_full _ rfl (.tmp 31) (.tmp 31) 113 rfl W1.heap.size 4 j0 _ 1 Try.underlying113 hj0 jz0 jz1 .i64 .i64 _ _ N rfl rfl hsh hsh (by rw [jz2]; omega) (by unfold maxLen; omega) (Nat.le_refl _) ?_; intro W2 hown hg; have hb4 : Below W1.heap.size W1 W2 := (Below.refl _ _).grown hg (Nat.le_refl _) (by simp); rw [made_bools] at hown; obtain ⟨z, _, u0, v0⟩ := own_atB hown HQL.out))
        
        have hs0 : W1.heap.size < W2.heap.size := (hown.lt W1.heap.size rfl).2
        have hS0 : (((W2.setCell ⟨W1.heap.size, q, none⟩ (.bool true)).alloc (.cells #[.int .i64 q] 3))).ownsRow W1.heap.size 4 1 (.slice (some ⟨W1.heap.size, 0, none⟩) N N) N (bools (bst true ls N q 0).1) := (own_setB hown q true).alloc _
        have hT0 : ((W2.setCell ⟨W1.heap.size, q, none⟩ (.bool true)).alloc (.cells #[.int .i64 q] 3)).ownsRow (W1.heap.size + 1) 3 1 (.slice (some ⟨W2.heap.size, 0, none⟩) (bst true ls N q 0).2.length 1) (bst true ls N q 0).2.length (ints (natL (bst true ls N q 0).2)) := by
          have := World.ownsRow_lit (base := W1.heap.size + 1) (e := 3) (size := 1) (W2.setCell ⟨W1.heap.size, q, none⟩ (.bool true)) #[.int .i64 q] 1 (by simp; omega) (by simp [maxLen]) rfl
          simpa [bst, natL, ints] using this
        have hB0 : Below W1.heap.size W1 ((W2.setCell ⟨W1.heap.size, q, none⟩ (.bool true)).alloc (.cells #[.int .i64 q] 3)) := (hb4.setCell (by simp) _).alloc (by simp; omega) _
        have HS0 := Lib.hid hS0
        have HT0 := Lib.hid hT0
        clear hown hg hb4 u0 v0 hS0 hT0 c0 c1 c2
        go_loopw [9, 10] (fun tv kv wr => ∃ (k : Nat) (A : Option Addr) (c : Nat), k ≤ (bst true ls N q k).2.length ∧ kv = .int .i64 k ∧ tv = .slice A (bst true ls N q k).2.length c ∧ wr.ownsRow W1.heap.size 4 1 (.slice (some ⟨W1.heap.size, 0, none⟩) N N) N (bools (bst true ls N q k).1) ∧ wr.ownsRow (W1.heap.size + 1) 3 1 (.slice A (bst true ls N q k).2.length c) (bst true ls N q k).2.length (ints (natL (bst true ls N q k).2)) ∧ Below W1.heap.size W1 wr) (fun _ kv _ => N - (intOf kv).toNat)
        case atStart => exact ⟨0, _, 1, Nat.zero_le _, rfl, by simp [bst], HS0.out, HT0.out, hB0⟩
        case round =>
          obtain ⟨k, A, c, hkl, rfl, rfl, ownS, ownT, hw⟩ := hrel
          have inv := bst_inv (back := true) HQL.out HST.out k
          have hle2 := inv.le
          have HIN := Lib.hid inv
          have HAT := Lib.hid (bfs_at (back := true) (k := k) HQL.out HST.out)
          generalize hst : bst true ls N q k = st at hkl ownS ownT inv hle2 HIN HAT ⊢
          have HSTE := Lib.hid hst
          have HOS := Lib.hid ownS
          have HOT := Lib.hid ownT
          clear hst inv ownS ownT
          by_cases hlt : k < st.2.length
          · have hx : st.2[k]? = some st.2[k] := List.getElem?_eq_getElem hlt
            generalize st.2[k] = x at hx
            have xl := HIN.out.lt x (List.mem_of_getElem? hx)
            have HX := Lib.hid hx
            have HNX2 : Hid (bst true ls N q (k + 1) = rowS true ls x st) := Lib.hid (by
              rw [bst_next (by rw [HSTE.out]; exact hx), HSTE.out])
            have k0' : (0 : Int) ≤ (k : Int) := by omega
            have x63 : B63 x := by unfold B63; omega
            clear hx
            go_wp2_with fail
            go_loopw [9, 46] (fun tv iv wx => ∃ (i : Nat) (A : Option Addr) (c : Nat), i ≤ ls.length ∧ iv = .int .i64 i ∧ tv = .slice A (rowS true (ls.take i) x st).2.length c ∧ wx.ownsRow W1.heap.size 4 1 (.slice (some ⟨W1.heap.size, 0, none⟩) N N) N (bools (rowS true (ls.take i) x st).1) ∧ wx.ownsRow (W1.heap.size + 1) 3 1 (.slice A (rowS true (ls.take i) x st).2.length c) (rowS true (ls.take i) x st).2.length (ints (natL (rowS true (ls.take i) x st).2)) ∧ Below W1.heap.size W1 wx) (fun _ iv _ => ls.length - (intOf iv).toNat)
            case atStart => exact ⟨0, A, c, Nat.zero_le _, rfl, rfl, HOS.out, HOT.out, hw⟩
            case round =>
              obtain ⟨i, A', c', hi0, rfl, rfl, ownS, ownT, hwx⟩ := hrel
              have hsz := hwx.size
              have HS1 := Lib.hid ownS
              have HT1 := Lib.hid ownT
              have inv1 := row_inv (back := true) xl (ls.take i) st HIN.out (fun l hl => HST.out l (List.mem_of_mem_take hl))
              have hp1 := row_pre (back := true) (p := x) (ls.take i) st HX.out
              have hl1 := inv1.le
              have HLEN := Lib.hid inv1.len
              by_cases hil : i < ls.length
              · obtain ⟨bb, off, l, rfl, hbl, hxl, x0, x1, x2⟩ := (rd1.below hwx).line hil
                obtain ⟨f, o, t, rfl, f1, o1, t1, hft, hot, hfo⟩ := HLS.out l (List.mem_of_getElem? hxl)
                have hQ := HST.out _ (List.mem_of_getElem? hxl) x xl
                have HRT := Lib.hid (row_take (back := true) (p := x) (st := st) hxl)
                have HF := Lib.hid hft
                have HO := Lib.hid hot
                have HFO := Lib.hid hfo
                have i0' : (0 : Int) ≤ (i : Int) := by omega
                have i1' : (i : Int) < (ls.length : Int) := by omega
                have hbz : bb < wr.heap.size := by omega
                obtain ⟨tb, toff, rfl, htb, tcell⟩ := own_natL ownT hp1
                have hk1 : k < (rowS true (ls.take i) x st).2.length := (List.getElem?_eq_some_iff.1 hp1).1
                generalize hri : rowS true (ls.take i) x st = si at HS1 HT1 hl1 HLEN HRT hk1 ⊢
                have HRI := Lib.hid hri
                have k1' : (k : Int) < (si.2.length : Int) := by omega
                obtain ⟨bq, hbq, sc, sf⟩ := own_atB HS1.out hQ
                have HBQ := Lib.hid hbq
                have hzs : W1.heap.size < wr.heap.size := (HS1.out.lt W1.heap.size rfl).2
                clear ownS ownT inv1 hp1 hxl hft hot hfo hri hbq
                have hc : ∀ (a : Addr) (p : Regrown) (W : World), a.block < W.heap.size → (grow (redrawn W p.d) p.os).cell? a = W.cell? a := fun a p W h => (below_regrown W p.d p.os).cell h
                rcases Bool.eq_false_or_eq_true (canD true x ⟨f, o, t⟩) with hd | hd
                · have hd' : canU x ⟨f, o, t⟩ = true := hd
                  rcases Bool.eq_false_or_eq_true bq with hbb | hbb
                  · subst hbb
                    have HXX : Hid (rowS true (ls.take (i + 1)) x st = si) := Lib.hid (by rw [HRT.out]; exact step_seen HBQ.out)
                    generalize hQe : flip x ⟨f, o, t⟩ = Q at hQ sc sf
                    have HQE := Lib.hid hQe
                    have q0 : (0 : Int) ≤ (Q : Int) := by omega
                    have q1 : (Q : Int) < (N : Int) := by omega
                    clear hQe
                    obtain ⟨y5, hy5⟩ : ∃ y : Int, ((if canJ x ⟨f, o, t⟩ then flip x ⟨f, o, t⟩ else x : Nat) : Int) = y := ⟨_, rfl⟩
                    obtain ⟨b5, hz5⟩ : ∃ y : Bool, canJ x ⟨f, o, t⟩ = y := ⟨_, rfl⟩
                    have HY5 := Lib.hid hy5
                    have HZ5 := Lib.hid hz5
                    clear hy5 hz5
                    go_wp2_with fail
                    refine wp_region_quiet_below (by kernel_rfl) (by kernel_rfl) ?_
                    repeat (go_big_quiet_step (first | (go_at_call 148; exact Calls.regrown_of (is2' (jumpFrom_ x f o t x63 (by omega) (by omega) (by omega) HF.out HO.out _) HY5.out HZ5.out))))
                    refine wpQuiet_nil ?_
                    intro w5 hw5
                    obtain ⟨p5, hp5⟩ := hw5
                    have hb5 := of_rg hp5
                    clear hp5 p5
                    have hn5 : Below wr.heap.size wr w5 := below_step ((Below.refl _ _).alloc (Nat.le_refl _) _) hb5 (by simp)
                    have t5 := (hn5.cell (p := ⟨tb, toff + k, none⟩) htb).trans tcell
                    have l0 : w5.cell? ⟨wr.heap.size, 0, none⟩ = some (.int .i64 f) := by rw [hb5.cell (p := ⟨wr.heap.size, 0, none⟩) (by simp)]; simp [go_sem]
                    have l1 : w5.cell? ⟨wr.heap.size, 1, none⟩ = some (.int .i64 o) := by rw [hb5.cell (p := ⟨wr.heap.size, 1, none⟩) (by simp)]; simp [go_sem]
                    have l2 : w5.cell? ⟨wr.heap.size, 2, none⟩ = some (.int .i64 t) := by rw [hb5.cell (p := ⟨wr.heap.size, 2, none⟩) (by simp)]; simp [go_sem]
                    have zl5 : wr.heap.size < w5.heap.size := by have := hb5.size; simp at this; omega
                    have zt5 : tb < w5.heap.size := by omega
                    go_wp2_with fail
                    refine wp_region_quiet_below (by kernel_rfl) (by kernel_rfl) ?_
                    repeat (go_big_quiet_step (first | (go_at_call 159; exact Calls.regrown_of (is2' (undoFrom_ x f o t x63 (by omega) (by omega) (by omega) HF.out HO.out HFO.out _) (by rw [hd', if_pos rfl, HQE.out]) hd'))))
                    refine wpQuiet_nil ?_
                    intro w3 hw3
                    obtain ⟨p3, hp3⟩ := hw3
                    have hb3 := of_rg hp3
                    clear hp3 p3
                    have hb3' := hb3
                    have hb3 : Below (wr.alloc (.cells #[.int .i64 f, .int .i64 o, .int .i64 t] 34)).heap.size (wr.alloc (.cells #[.int .i64 f, .int .i64 o, .int .i64 t] 34)) w3 := below_next hb5 hb3'
                    clear t5 l0 l1 l2
                    have hn3 : Below wr.heap.size wr w3 := below_step ((Below.refl _ _).alloc (Nat.le_refl _) _) hb3 (by simp)
                    have sc3 := (hn3.cell (p := ⟨W1.heap.size, Q, none⟩) hzs).trans sc
                    have hz3 : W1.heap.size < w3.heap.size := by have := hn3.size; omega
                    have HS3 := Lib.hid (own_next HS1.out hn3)
                    have HT3 := Lib.hid (own_next HT1.out hn3)
                    have hw3 := hwx.trans (hn3.mono hsz)
                    go_wp2
                    go_roundw
                    case rel => exact ⟨i + 1, _, c', by omega, by go_num, by rw [HXX.out], by rw [HXX.out]; exact HS3.out, by rw [HXX.out]; exact HT3.out, hw3⟩
                    case measure => simp [intOf]; omega
                  · subst hbb
                    have HXX : Hid (rowS true (ls.take (i + 1)) x st = (si.1.set (flip x ⟨f, o, t⟩) true, si.2 ++ [flip x ⟨f, o, t⟩])) := Lib.hid (by rw [HRT.out]; exact step_new hd HBQ.out)
                    generalize hQe : flip x ⟨f, o, t⟩ = Q at hQ sc sf HXX
                    have HQE := Lib.hid hQe
                    have q0 : (0 : Int) ≤ (Q : Int) := by omega
                    have q1 : (Q : Int) < (N : Int) := by omega
                    clear hQe
                    obtain ⟨y5, hy5⟩ : ∃ y : Int, ((if canJ x ⟨f, o, t⟩ then flip x ⟨f, o, t⟩ else x : Nat) : Int) = y := ⟨_, rfl⟩
                    obtain ⟨b5, hz5⟩ : ∃ y : Bool, canJ x ⟨f, o, t⟩ = y := ⟨_, rfl⟩
                    have HY5 := Lib.hid hy5
                    have HZ5 := Lib.hid hz5
                    clear hy5 hz5
                    go_wp2_with fail
                    refine wp_region_quiet_below (by kernel_rfl) (by kernel_rfl) ?_
                    repeat (go_big_quiet_step (first | (go_at_call 148; exact Calls.regrown_of (is2' (jumpFrom_ x f o t x63 (by omega) (by omega) (by omega) HF.out HO.out _) HY5.out HZ5.out))))
                    refine wpQuiet_nil ?_
                    intro w5 hw5
                    obtain ⟨p5, hp5⟩ := hw5
                    have hb5 := of_rg hp5
                    clear hp5 p5
                    have hn5 : Below wr.heap.size wr w5 := below_step ((Below.refl _ _).alloc (Nat.le_refl _) _) hb5 (by simp)
                    have t5 := (hn5.cell (p := ⟨tb, toff + k, none⟩) htb).trans tcell
                    have l0 : w5.cell? ⟨wr.heap.size, 0, none⟩ = some (.int .i64 f) := by rw [hb5.cell (p := ⟨wr.heap.size, 0, none⟩) (by simp)]; simp [go_sem]
                    have l1 : w5.cell? ⟨wr.heap.size, 1, none⟩ = some (.int .i64 o) := by rw [hb5.cell (p := ⟨wr.heap.size, 1, none⟩) (by simp)]; simp [go_sem]
                    have l2 : w5.cell? ⟨wr.heap.size, 2, none⟩ = some (.int .i64 t) := by rw [hb5.cell (p := ⟨wr.heap.size, 2, none⟩) (by simp)]; simp [go_sem]
                    have zl5 : wr.heap.size < w5.heap.size := by have := hb5.size; simp at this; omega
                    have zt5 : tb < w5.heap.size := by omega
                    go_wp2_with fail
                    refine wp_region_quiet_below (by kernel_rfl) (by kernel_rfl) ?_
                    repeat (go_big_quiet_step (first | (go_at_call 159; exact Calls.regrown_of (is2' (undoFrom_ x f o t x63 (by omega) (by omega) (by omega) HF.out HO.out HFO.out _) (by rw [hd', if_pos rfl, HQE.out]) hd'))))
                    refine wpQuiet_nil ?_
                    intro w3 hw3
                    obtain ⟨p3, hp3⟩ := hw3
                    have hb3 := of_rg hp3
                    clear hp3 p3
                    have hb3' := hb3
                    have hb3 : Below (wr.alloc (.cells #[.int .i64 f, .int .i64 o, .int .i64 t] 34)).heap.size (wr.alloc (.cells #[.int .i64 f, .int .i64 o, .int .i64 t] 34)) w3 := below_next hb5 hb3'
                    clear t5 l0 l1 l2
                    have hn3 : Below wr.heap.size wr w3 := below_step ((Below.refl _ _).alloc (Nat.le_refl _) _) hb3 (by simp)
                    have sc3 := (hn3.cell (p := ⟨W1.heap.size, Q, none⟩) hzs).trans sc
                    have sf3 := (hn3.frozen (p := ⟨W1.heap.size, Q, none⟩) hzs).trans sf
                    have hz3 : W1.heap.size < w3.heap.size := by have := hn3.size; omega
                    have HS3 := Lib.hid (own_setB (own_next HS1.out hn3) Q true)
                    have hT3 : Slab (w3.setCell ⟨W1.heap.size, Q, none⟩ (.bool true)) (W1.heap.size + 1) none 3 1 (.slice (some ⟨tb, toff, none⟩) si.2.length c') si.2.length (ints (natL si.2)) := .inl (own_other (a := ⟨W1.heap.size, Q, none⟩) (own_next HT1.out hn3) (show _ ≠ some W1.heap.size from fun hh => by have := ((own_next HT1.out hn3).lt _ hh).1; omega))
                    have HNW : Hid (∀ j u, [Value.int .i64 (Q : Int)][j]? = some u → ((w3.setCell ⟨W1.heap.size, Q, none⟩ (.bool true)).alloc (.cells #[.int .i64 Q] 3)).cell? ((⟨w3.heap.size, 0, none⟩ : Addr).add j) = some u) := Lib.hid (by
                      have := cell_one_new (w3.setCell ⟨W1.heap.size, Q, none⟩ (.bool true)) (.int .i64 (Q : Int)) 3
                      rwa [World.size_setCell] at this)
                    have hw3 : Below W1.heap.size W1 (w3.setCell ⟨W1.heap.size, Q, none⟩ (.bool true)) := (hwx.trans (hn3.mono hsz)).setCell (by simp) _
                    have hw3s : W1.heap.size + 1 ≤ (w3.setCell ⟨W1.heap.size, Q, none⟩ (.bool true)).heap.size := by simp; omega
                    go_wp2_with (first | (at_builtin; refine wpList_append_slab _ rfl (.tmp 80) (.tmp 82) 69 rfl (W1.heap.size + 1) none 3 i0 (.int .i64 0) 1 8 Try.underlying69 hi hz0 hz1 hz2 rfl (by decide) _ _ _ rfl (hT3.alloc _) ⟨w3.heap.size, 0, none⟩ 1 1 [.int .i64 Q] rfl rfl HNW.out (by intro u hu; simp at hu; subst hu; rfl) (by omega) (by unfold maxLen; omega) (by omega) (by have := hw3s; simp; omega) ?_; intro g cap wA ownA hbA))
                    have HOA := Lib.hid ownA
                    have HSA := Lib.hid (own_below (HS3.out.alloc (.cells #[.int .i64 Q] 3)) hbA (fun g hg => by simp [Value.ownBlock] at hg; omega))
                    have hwA : Below W1.heap.size W1 wA := (hw3.alloc (by simp; omega) _).trans (hbA.mono (Nat.le_succ _))
                    clear hT3 ownA
                    go_wp2
                    go_roundw
                    case rel => exact ⟨i + 1, some ⟨g, 0, none⟩, cap, by omega, by go_num, by rw [HXX.out]; simp, by rw [HXX.out]; exact HSA.out, by rw [HXX.out]; simpa [natL, ints] using HOA.out, hwA⟩
                    case measure => simp [intOf]; omega
                · have hd' : canU x ⟨f, o, t⟩ = false := hd
                  have HXX : Hid (rowS true (ls.take (i + 1)) x st = si) := Lib.hid (by rw [HRT.out]; exact step_no hd)
                  obtain ⟨y5, hy5⟩ : ∃ y : Int, ((if canJ x ⟨f, o, t⟩ then flip x ⟨f, o, t⟩ else x : Nat) : Int) = y := ⟨_, rfl⟩
                  obtain ⟨b5, hz5⟩ : ∃ y : Bool, canJ x ⟨f, o, t⟩ = y := ⟨_, rfl⟩
                  have HY5 := Lib.hid hy5
                  have HZ5 := Lib.hid hz5
                  clear hy5 hz5
                  go_wp2_with fail
                  refine wp_region_quiet_below (by kernel_rfl) (by kernel_rfl) ?_
                  repeat (go_big_quiet_step (first | (go_at_call 148; exact Calls.regrown_of (is2' (jumpFrom_ x f o t x63 (by omega) (by omega) (by omega) HF.out HO.out _) HY5.out HZ5.out))))
                  refine wpQuiet_nil ?_
                  intro w5 hw5
                  obtain ⟨p5, hp5⟩ := hw5
                  have hb5 := of_rg hp5
                  clear hp5 p5
                  have hn5 : Below wr.heap.size wr w5 := below_step ((Below.refl _ _).alloc (Nat.le_refl _) _) hb5 (by simp)
                  have t5 := (hn5.cell (p := ⟨tb, toff + k, none⟩) htb).trans tcell
                  have l0 : w5.cell? ⟨wr.heap.size, 0, none⟩ = some (.int .i64 f) := by rw [hb5.cell (p := ⟨wr.heap.size, 0, none⟩) (by simp)]; simp [go_sem]
                  have l1 : w5.cell? ⟨wr.heap.size, 1, none⟩ = some (.int .i64 o) := by rw [hb5.cell (p := ⟨wr.heap.size, 1, none⟩) (by simp)]; simp [go_sem]
                  have l2 : w5.cell? ⟨wr.heap.size, 2, none⟩ = some (.int .i64 t) := by rw [hb5.cell (p := ⟨wr.heap.size, 2, none⟩) (by simp)]; simp [go_sem]
                  have zl5 : wr.heap.size < w5.heap.size := by have := hb5.size; simp at this; omega
                  have zt5 : tb < w5.heap.size := by omega
                  go_wp2_with fail
                  refine wp_region_quiet_below (by kernel_rfl) (by kernel_rfl) ?_
                  repeat (go_big_quiet_step (first | (go_at_call 159; exact Calls.regrown_of (is2' (undoFrom_ x f o t x63 (by omega) (by omega) (by omega) HF.out HO.out HFO.out _) (by rw [hd', if_neg (by simp)]) hd'))))
                  refine wpQuiet_nil ?_
                  intro w3 hw3
                  obtain ⟨p3, hp3⟩ := hw3
                  have hb3 := of_rg hp3
                  clear hp3 p3
                  have hb3' := hb3
                  have hb3 : Below (wr.alloc (.cells #[.int .i64 f, .int .i64 o, .int .i64 t] 34)).heap.size (wr.alloc (.cells #[.int .i64 f, .int .i64 o, .int .i64 t] 34)) w3 := below_next hb5 hb3'
                  clear t5 l0 l1 l2
                  have hn3 : Below wr.heap.size wr w3 := below_step ((Below.refl _ _).alloc (Nat.le_refl _) _) hb3 (by simp)
                  have HS3 := Lib.hid (own_next HS1.out hn3)
                  have HT3 := Lib.hid (own_next HT1.out hn3)
                  have hw3 := hwx.trans (hn3.mono hsz)
                  go_wp2
                  go_roundw
                  case rel => exact ⟨i + 1, _, c', by omega, by go_num, by rw [HXX.out], by rw [HXX.out]; exact HS3.out, by rw [HXX.out]; exact HT3.out, hw3⟩
                  case measure => simp [intOf]; omega
              · have e : i = ls.length := by omega
                subst e
                have hs2 := HS1.out
                have ht2 := HT1.out
                rw [List.take_length] at hs2 ht2 hl1 ⊢
                have hk2 : k + 1 ≤ (rowS true ls x st).2.length := by
                  have := row_pre (back := true) (p := x) ls st HX.out
                  exact (List.getElem?_eq_some_iff.1 this).1
                have HS2 := Lib.hid hs2
                have HT2 := Lib.hid ht2
                generalize rowS true ls x st = sn at HNX2 HS2 HT2 hk2 hl1 ⊢
                clear hs2 ht2
                go_wp2
                go_roundw
                case rel => exact ⟨k + 1, A', c', by rw [HNX2.out]; exact hk2, by go_num, by rw [HNX2.out], by rw [HNX2.out]; exact HS2.out, by rw [HNX2.out]; exact HT2.out, hwx⟩
                case measure => simp [intOf]; omega
          · have hke : k = st.2.length := by omega
            have HFIN := Lib.hid (HAT.out (by omega) (by omega))
            go_wp2
            go_ret
            exact ⟨_, N, ret_slice HSL.out.symm, by rw [HR.out, HFIN.out]; exact rd_of_own HOS.out, below_next hW1 hw⟩
    · have HR : Hid (spreadL b p back = []) := Lib.hid (spreadL_no (by rw [hP, Bool.and_false]))
      go_enter Try.func133, Try.ntmps133
      go_wp2_with fail
      refine (is_ (iIsSmall_ b _) hS).mono ?_
      rintro e w1 ⟨rfl, hb1⟩
      obtain ⟨hc, hf⟩ := bcell hb1
      have z0 : W.heap.size < w1.heap.size := by have := hb1.size; (try simp at this); omega
      have hw1 : Below W.heap.size W w1 := below_step ((Below.refl _ _).alloc (Nat.le_refl _) _) hb1 (by (try simp))
      have c0 : w1.cell? ⟨W.heap.size, 0, none⟩ = some (.int .i64 b.f) := by rw [hc _ _ (by simp)]; simp [go_sem]
      have c1 : w1.cell? ⟨W.heap.size, 1, none⟩ = some (.int .i64 b.o) := by rw [hc _ _ (by simp)]; simp [go_sem]
      have c2 : w1.cell? ⟨W.heap.size, 2, none⟩ = some (.int .i64 b.t) := by rw [hc _ _ (by simp)]; simp [go_sem]
      clear hc hf hb1
      go_wp2_with fail
      refine (is_ (iPositionOk_ b p hp _) hP).mono ?_
      rintro e w2 ⟨rfl, hb2⟩
      go_wp2
      go_ret
      exact ⟨none, 0, ret_slice (by rw [HR.out]; rfl), by rw [HR.out]; exact Rd.nil, below_next hw1 hb2⟩
  · have HR : Hid (spreadL b p back = []) := Lib.hid (spreadL_no (by rw [hS, Bool.false_and]))
    go_enter Try.func133, Try.ntmps133
    go_wp2_with fail
    refine (is_ (iIsSmall_ b _) hS).mono ?_
    rintro e w1 ⟨rfl, hb1⟩
    have hw1 : Below W.heap.size W w1 := below_step ((Below.refl _ _).alloc (Nat.le_refl _) _) hb1 (by (try simp))
    go_wp2
    go_ret
    exact ⟨none, 0, ret_slice (by rw [HR.out]; rfl), by rw [HR.out]; exact Rd.nil, hw1⟩
end Go.Proofs.Ytbcgokpamhgabaa

/- The contract of the reference's l14Seen. -/
import Derived.Test.YtbcgokpamhgabaaChecked
import Derived.Test.YtbcgokpamhgabaaKb01
import Derived.Tactics
import Derived.Tactics2
import Derived.WalkKit
import Derived.WalkSpells
import Derived.WalkLawsBesides
import Derived.Deep.QuietTactic
import Derived.BigQuiet
import Derived.BigGuardPart
import Derived.Lib.QuietBelow
import Derived.OwnWalk
import Derived.KernelRfl
import Derived.Test.YtbcgokpamhgabaaKb31
namespace Go.Proofs.Ytbcgokpamhgabaa
set_option linter.unusedVariables false
set_option maxRecDepth 20000
open Go.RowKit Go.Sort

/-- The cells of the blocks from B on, as far as W3 goes, are as they were. -/
def KeepLn (B : Nat) (W3 w : World) : Prop := W3.heap.size ≤ w.heap.size ∧ ∀ b o, B ≤ b → b < W3.heap.size → w.cell? ⟨b, o, none⟩ = W3.cell? ⟨b, o, none⟩
theorem KeepLn.refl (B : Nat) (w : World) : KeepLn B w w := ⟨Nat.le_refl _, fun _ _ _ _ => rfl⟩
theorem KeepLn.next {B : Nat} {W3 w w' : World} (h : KeepLn B W3 w) (hb : Below w.heap.size w w') : KeepLn B W3 w' :=
  ⟨Nat.le_trans h.1 hb.size, fun b o h1 h2 => (hb.cell (p := ⟨b, o, none⟩) (Nat.lt_of_lt_of_le h2 h.1)).trans (h.2 b o h1 h2)⟩
theorem KeepLn.below {B : Nat} {W3 w w' : World} (h : KeepLn B W3 w) (hb : Below W3.heap.size w w') : KeepLn B W3 w' :=
  ⟨Nat.le_trans h.1 hb.size, fun b o h1 h2 => (hb.cell (p := ⟨b, o, none⟩) h2).trans (h.2 b o h1 h2)⟩
theorem KeepLn.alloc {B : Nat} {W3 w : World} (h : KeepLn B W3 w) (hs : W3.heap.size ≤ w.heap.size) (o : Obj) : KeepLn B W3 (w.alloc o) :=
  h.below ((Below.refl _ _).alloc hs o)
theorem KeepLn.setCell {B : Nat} {W3 w : World} {a : Addr} (h : KeepLn B W3 w) (ha : a.block < B) (v : Value) : KeepLn B W3 (w.setCell a v) :=
  ⟨by rw [World.size_setCell]; exact h.1, fun b o h1 h2 => by
    rw [World.cell?_of_block (w := w) (a := ⟨b, o, none⟩) (heap_setCell_other w a b v (by omega))]
    exact h.2 b o h1 h2⟩
set_option maxHeartbeats 4000000 in
theorem l14Seen_ (w h s q : Nat) (back : Bool) (hS : smallB ⟨w, h, s⟩ = true) (hP : posB ⟨w, h, s⟩ q = true) (W : World) :
    Calls Try.prog 135 #[.agg #[.int .i64 w, .int .i64 h, .int .i64 s], .int .i64 q, .bool back] W (GivesRd W (spreadL ⟨w, h, s⟩ q back).length (bools (spreadL ⟨w, h, s⟩ q back))) := by
  obtain ⟨w', h', s', hbe, hb, h16, s16⟩ := smallB_nat hS
  rw [Ln.ext_iff'] at hbe
  simp only at hbe
  obtain ⟨e1, e2, e3⟩ := hbe
  obtain rfl : w = w' := by omega
  obtain rfl : h = h' := by omega
  obtain rfl : s = s' := by omega
  obtain ⟨q', hqe, hq⟩ := posB_nat hP
  obtain rfl : q = q' := by omega
  have hql := posB_lt hb hq
  have HR := Lib.hid (spreadL_yes (back := back) hS hP)
  obtain ⟨m1, m2, m3⟩ := area_bounds hb.w1 hb.w7 hb.h1 hb.h7
  have hsh := i64_pow (w * h) (by omega)
  have hST := stays_of hb
  have HLS0 := lsFo_of hb
  have hle := linesL_le ⟨w, h, s⟩
  obtain ⟨ls, hls⟩ : ∃ ls, linesL ⟨w, h, s⟩ = ls := ⟨_, rfl⟩
  rw [hls] at HR hST HLS0 hle
  have HL := Lib.hid hls
  have HLS := Lib.hid HLS0
  have hN1 : 2 ^ (w * h) ≤ 65536 := Nat.pow_le_pow_right (n := 2) (j := 16) (by omega) h16
  obtain ⟨N, hN⟩ : ∃ N, N = 2 ^ (w * h) := ⟨_, rfl⟩
  rw [← hN] at HR hST hql hN1
  rw [show pow2 (w * h) = N from hN.symm] at hsh
  have hN0 : 0 < N := by omega
  have HSL : Hid ((spreadL ⟨w, h, s⟩ q back).length = N) := Lib.hid (by rw [HR.out]; exact (bst_inv hql hST _).len)
  have HST := Lib.hid hST
  have HQL := Lib.hid hql
  have hql2 : (q : Int) < (N : Int) := by omega
  have infoBool : (Try.prog.info? 4).map (fun i => (i.zero, i.size, i.bytes)) = some (some (.bool false), 1, 1) := by kernel_rfl
  obtain ⟨j0, hj0, jz0, jz1, jz2⟩ := info_parts infoBool
  obtain ⟨i0, hi, hz0, hz1, hz2⟩ := info_parts infoInt
  clear infoBool hls HLS0 hST hN hq e1 e2 e3 hqe
  cases back with
  | false =>
    go_enter Try.func135, Try.ntmps135
    go_wp2_with (first | (at_make; refine wpList_make_full _ rfl (.tmp 20) (.tmp 20) 112 rfl (W.heap.size + 1) 4 j0 _ 1 Try.underlying112 hj0 jz0 jz1 .i64 .i64 _ _ N rfl rfl hsh hsh (by rw [jz2]; omega) (by unfold maxLen; omega) (by simp) ?_; intro W2 hown hg; have hb2 : Below (W.heap.size + 1) (W.alloc (.cells #[.int .i64 w, .int .i64 h, .int .i64 s] 42)) W2 := (Below.refl _ _).grown hg (by simp) (by simp); rw [made_bools] at hown; rw [show (W.alloc (.cells #[.int .i64 w, .int .i64 h, .int .i64 s] 42)).heap.size = W.heap.size + 1 by simp] at hown; have hy2 : W.heap.size + 1 < W2.heap.size := (hown.lt _ rfl).2; have c0 : W2.cell? ⟨W.heap.size, 0, none⟩ = some (.int .i64 w) := (by rw [hb2.cell (p := ⟨W.heap.size, 0, none⟩) (by simp)]; simp [go_sem]); have c1 : W2.cell? ⟨W.heap.size, 1, none⟩ = some (.int .i64 h) := (by rw [hb2.cell (p := ⟨W.heap.size, 1, none⟩) (by simp)]; simp [go_sem]); have c2 : W2.cell? ⟨W.heap.size, 2, none⟩ = some (.int .i64 s) := (by rw [hb2.cell (p := ⟨W.heap.size, 2, none⟩) (by simp)]; simp [go_sem])))
    refine (sLinesOfL_ ⟨w, h, s⟩ _).mono ?_
    rintro e W3 ⟨A1, k1, rfl, rd1, hb3, hlo⟩
    rw [HL.out] at rd1 ⊢
    have hown3 := own_next hown hb3
    have hW2 : Below W.heap.size W W2 := ((Below.refl _ _).alloc (Nat.le_refl _) _).trans (hb2.mono (Nat.le_succ _))
    have hW3 := below_next hW2 hb3
    have hy3 : W.heap.size + 1 < W3.heap.size := by have := hb3.size; omega
    have h23 := hb3.size
    obtain ⟨z, _, u0, v0⟩ := own_atB hown3 HQL.out
    clear c0 c1 c2 hg hown hb2
    go_wp2_with fail
    have hS0 : ((W3.setCell ⟨W.heap.size + 1, q, none⟩ (.bool true)).alloc (.cells #[.int .i64 q] 3)).ownsRow (W.heap.size + 1) 4 1 (.slice (some ⟨W.heap.size + 1, 0, none⟩) N N) N (bools (bst false ls N q 0).1) := (own_setB hown3 q true).alloc _
    have hT0 : ((W3.setCell ⟨W.heap.size + 1, q, none⟩ (.bool true)).alloc (.cells #[.int .i64 q] 3)).ownsRow W3.heap.size 3 1 (.slice (some ⟨W3.heap.size, 0, none⟩) (bst false ls N q 0).2.length 1) (bst false ls N q 0).2.length (ints (natL (bst false ls N q 0).2)) := by
      have := World.ownsRow_lit (base := W3.heap.size) (e := 3) (size := 1) (W3.setCell ⟨W.heap.size + 1, q, none⟩ (.bool true)) #[.int .i64 q] 1 (by simp) (by simp [maxLen]) rfl
      simpa [bst, natL, ints] using this
    have hB0 : Below W.heap.size W ((W3.setCell ⟨W.heap.size + 1, q, none⟩ (.bool true)).alloc (.cells #[.int .i64 q] 3)) := (hW3.setCell (by simp) _).alloc (by have := hW3.size; simp; omega) _
    have hK0 : KeepLn W2.heap.size W3 ((W3.setCell ⟨W.heap.size + 1, q, none⟩ (.bool true)).alloc (.cells #[.int .i64 q] 3)) := (KeepLn.refl _ _).setCell (by simp; omega) _ |>.alloc (by simp) _
    have HS0 := Lib.hid hS0
    have HT0 := Lib.hid hT0
    have HK0 := Lib.hid hK0
    clear hown3 u0 v0 hS0 hT0 hK0
    go_loopw [9, 10] (fun tv kv wr => ∃ (k : Nat) (A : Option Addr) (c : Nat), k ≤ (bst false ls N q k).2.length ∧ kv = .int .i64 k ∧ tv = .slice A (bst false ls N q k).2.length c ∧ wr.ownsRow (W.heap.size + 1) 4 1 (.slice (some ⟨W.heap.size + 1, 0, none⟩) N N) N (bools (bst false ls N q k).1) ∧ wr.ownsRow W3.heap.size 3 1 (.slice A (bst false ls N q k).2.length c) (bst false ls N q k).2.length (ints (natL (bst false ls N q k).2)) ∧ KeepLn W2.heap.size W3 wr ∧ Below W.heap.size W wr) (fun _ kv _ => N - (intOf kv).toNat)
    case atStart => exact ⟨0, _, 1, Nat.zero_le _, rfl, by simp [bst], HS0.out, HT0.out, HK0.out, hB0⟩
    case round =>
      obtain ⟨k, A, c, hkl, rfl, rfl, ownS, ownT, hkp, hw⟩ := hrel
      have inv := bst_inv (back := false) HQL.out HST.out k
      have hle2 := inv.le
      have HIN := Lib.hid inv
      have HAT := Lib.hid (bfs_at (back := false) (k := k) HQL.out HST.out)
      generalize hst : bst false ls N q k = st at hkl ownS ownT inv hle2 HIN HAT ⊢
      have HSTE := Lib.hid hst
      have HOS := Lib.hid ownS
      have HOT := Lib.hid ownT
      have HKP := Lib.hid hkp
      clear hst inv ownS ownT hkp
      by_cases hlt : k < st.2.length
      · have hx : st.2[k]? = some st.2[k] := List.getElem?_eq_getElem hlt
        generalize st.2[k] = x at hx
        have xl := HIN.out.lt x (List.mem_of_getElem? hx)
        have HX := Lib.hid hx
        have HNX2 : Hid (bst false ls N q (k + 1) = rowS false ls x st) := Lib.hid (by
          rw [bst_next (by rw [HSTE.out]; exact hx), HSTE.out])
        have k0' : (0 : Int) ≤ (k : Int) := by omega
        have x63 : B63 x := by unfold B63; omega
        clear hx
        go_wp2_with fail
        go_loopw [9, 11] (fun tv iv wx => ∃ (i : Nat) (A : Option Addr) (c : Nat), i ≤ ls.length ∧ iv = .int .i64 i ∧ tv = .slice A (rowS false (ls.take i) x st).2.length c ∧ wx.ownsRow (W.heap.size + 1) 4 1 (.slice (some ⟨W.heap.size + 1, 0, none⟩) N N) N (bools (rowS false (ls.take i) x st).1) ∧ wx.ownsRow W3.heap.size 3 1 (.slice A (rowS false (ls.take i) x st).2.length c) (rowS false (ls.take i) x st).2.length (ints (natL (rowS false (ls.take i) x st).2)) ∧ KeepLn W2.heap.size W3 wx ∧ Below W.heap.size W wx) (fun _ iv _ => ls.length - (intOf iv).toNat)
        case atStart => exact ⟨0, A, c, Nat.zero_le _, rfl, rfl, HOS.out, HOT.out, HKP.out, hw⟩
        case round =>
          obtain ⟨i, A', c', hi0, rfl, rfl, ownS, ownT, hkx, hwx⟩ := hrel
          have hsz := hwx.size
          have HS1 := Lib.hid ownS
          have HT1 := Lib.hid ownT
          have HK1 := Lib.hid hkx
          have inv1 := row_inv (back := false) xl (ls.take i) st HIN.out (fun l hl => HST.out l (List.mem_of_mem_take hl))
          have hp1 := row_pre (back := false) (p := x) (ls.take i) st HX.out
          have hl1 := inv1.le
          have HLEN := Lib.hid inv1.len
          by_cases hil : i < ls.length
          · obtain ⟨bb, off, l, rfl, hbl, hxl, x0', x1', x2'⟩ := rd1.line hil
            have hbb := hlo _ rfl
            have hbb' : W2.heap.size ≤ bb := hbb
            have x0 := (hkx.2 bb (off + i * 3) hbb' hbl).trans x0'
            have x1 := (hkx.2 bb (off + i * 3 + 1) hbb' hbl).trans x1'
            have x2 := (hkx.2 bb (off + i * 3 + 2) hbb' hbl).trans x2'
            obtain ⟨f, o, t, rfl, f1, o1, t1, hft, hot, hfo⟩ := HLS.out l (List.mem_of_getElem? hxl)
            have hQ := HST.out _ (List.mem_of_getElem? hxl) x xl
            have HRT := Lib.hid (row_take (back := false) (p := x) (st := st) hxl)
            have HF := Lib.hid hft
            have HO := Lib.hid hot
            have i0' : (0 : Int) ≤ (i : Int) := by omega
            have i1' : (i : Int) < (ls.length : Int) := by omega
            have hbz : bb < wr.heap.size := by have := hkx.1; omega
            obtain ⟨tb, toff, rfl, htb, tcell⟩ := own_natL ownT hp1
            have hk1 : k < (rowS false (ls.take i) x st).2.length := (List.getElem?_eq_some_iff.1 hp1).1
            generalize hri : rowS false (ls.take i) x st = si at HS1 HT1 hl1 HLEN HRT hk1 ⊢
            have HRI := Lib.hid hri
            have k1' : (k : Int) < (si.2.length : Int) := by omega
            obtain ⟨bq, hbq, sc, sf⟩ := own_atB HS1.out hQ
            have HBQ := Lib.hid hbq
            have hzs : W.heap.size + 1 < wr.heap.size := (HS1.out.lt (W.heap.size + 1) rfl).2
            have pf := i64_pow f (by omega)
            have po := i64_pow o (by omega)
            have pt := i64_pow t (by omega)
            have l63 : B63 (lbits ⟨f, o, t⟩) := by simp only [lbits, Int.toNat_natCast]; exact b63_or (b63_or (b63_pow2 (by omega)) (b63_pow2 (by omega))) (b63_pow2 (by omega))
            have a1 := i64_and x (lbits ⟨f, o, t⟩) x63 l63
            have a2 := i64_or (pow2 f) (pow2 o) (b63_pow2 (by omega)) (b63_pow2 (by omega))
            have a3 := i64_xor x (lbits ⟨f, o, t⟩) x63 l63
            rw [show x ^^^ lbits ⟨f, o, t⟩ = flip x ⟨f, o, t⟩ from rfl] at a3
            have H0 : (((x &&& lbits ⟨f, o, t⟩ : Nat) : Int) == ((pow2 f ||| pow2 o : Nat) : Int)) = canD false x ⟨f, o, t⟩ := by
              show _ = canJ x ⟨f, o, t⟩
              rw [canJ_and hft hot, Bool.eq_iff_iff]; simp; omega
            generalize hLB : lbits ⟨f, o, t⟩ = LB at a1 a3 H0
            generalize hQe : flip x ⟨f, o, t⟩ = Q at hQ sc sf a3 HBQ
            have HLB := Lib.hid hLB
            have HQE := Lib.hid hQe
            have q0 : (0 : Int) ≤ (Q : Int) := by omega
            have q1 : (Q : Int) < (N : Int) := by omega
            clear ownS ownT inv1 hp1 hxl hft hot hfo hri hbq hLB hQe l63 x0' x1' x2' hkx
            have hc : ∀ (a : Addr) (p : Regrown) (W : World), a.block < W.heap.size → (grow (redrawn W p.d) p.os).cell? a = W.cell? a := fun a p W h => (below_regrown W p.d p.os).cell h
            rcases Bool.eq_false_or_eq_true (canD false x ⟨f, o, t⟩) with hd | hd
            · rw [hd] at H0
              rcases Bool.eq_false_or_eq_true bq with hbb | hbb
              · subst hbb
                have HXX : Hid (rowS false (ls.take (i + 1)) x st = si) := Lib.hid (by rw [HRT.out]; exact step_seen (by rw [HQE.out]; exact HBQ.out))
                clear hd
                go_wp2_with fail
                refine (isI_ (l05Bits_ f o t (by omega) (by omega) (by omega) _) (congrArg Int.ofNat HLB.out)).mono ?_
                rintro e w3 ⟨rfl, hb3'⟩
                have e3 : Int.ofNat LB = (LB : Int) := rfl
                rw [e3]
                clear e3
                have y0 := (hb3'.cell (p := ⟨bb, off + i * 3, none⟩) hbz).trans x0
                have y1 := (hb3'.cell (p := ⟨bb, off + i * 3 + 1, none⟩) hbz).trans x1
                have y2 := (hb3'.cell (p := ⟨bb, off + i * 3 + 2, none⟩) hbz).trans x2
                have hbz3 : bb < w3.heap.size := by have := hb3'.size; omega
                clear x0 x1 x2
                go_wp2_with fail
                refine wp_region_quiet_below (by kernel_rfl) (by kernel_rfl) ?_
                repeat (go_big_quiet_step (fail))
                refine wpQuiet_nil ?_
                intro w4 hw4
                obtain ⟨p4, hp4⟩ := hw4
                have hb4 := of_rg hp4
                clear hp4 p4
                have hn4 : Below wr.heap.size wr w4 := below_next hb3' hb4
                have yy0 := (hb4.cell (p := ⟨bb, off + i * 3, none⟩) hbz3).trans y0
                have yy1 := (hb4.cell (p := ⟨bb, off + i * 3 + 1, none⟩) hbz3).trans y1
                have yy2 := (hb4.cell (p := ⟨bb, off + i * 3 + 2, none⟩) hbz3).trans y2
                have tc4 := (hn4.cell (p := ⟨tb, toff + k, none⟩) htb).trans tcell
                have sc4 := (hn4.cell (p := ⟨W.heap.size + 1, Q, none⟩) hzs).trans sc
                have sf4 := (hn4.frozen (p := ⟨W.heap.size + 1, Q, none⟩) hzs).trans sf
                have HS4 := Lib.hid (own_next HS1.out hn4)
                have HT4 := Lib.hid (own_next HT1.out hn4)
                have HK4 := Lib.hid (HK1.out.next hn4)
                have hw4 := below_next hwx hn4
                have hz4 : W.heap.size + 1 < w4.heap.size := by have := hn4.size; omega
                have hbz4 : bb < w4.heap.size := by have := hn4.size; omega
                have htz4 : tb < w4.heap.size := by have := hn4.size; omega
                clear y0 y1 y2 tcell sc sf hc
                go_wp2
                go_roundw
                case rel => exact ⟨i + 1, _, c', by omega, by go_num, by rw [HXX.out], by rw [HXX.out]; exact HS4.out, by rw [HXX.out]; exact HT4.out, HK4.out, hw4⟩
                case measure => simp [intOf]; omega
              · subst hbb
                have HXX : Hid (rowS false (ls.take (i + 1)) x st = (si.1.set Q true, si.2 ++ [Q])) := Lib.hid (by rw [HRT.out, ← HQE.out]; exact step_new hd (by rw [HQE.out]; exact HBQ.out))
                clear hd
                go_wp2_with fail
                refine (isI_ (l05Bits_ f o t (by omega) (by omega) (by omega) _) (congrArg Int.ofNat HLB.out)).mono ?_
                rintro e w3 ⟨rfl, hb3'⟩
                have e3 : Int.ofNat LB = (LB : Int) := rfl
                rw [e3]
                clear e3
                have y0 := (hb3'.cell (p := ⟨bb, off + i * 3, none⟩) hbz).trans x0
                have y1 := (hb3'.cell (p := ⟨bb, off + i * 3 + 1, none⟩) hbz).trans x1
                have y2 := (hb3'.cell (p := ⟨bb, off + i * 3 + 2, none⟩) hbz).trans x2
                have hbz3 : bb < w3.heap.size := by have := hb3'.size; omega
                clear x0 x1 x2
                go_wp2_with fail
                refine wp_region_quiet_below (by kernel_rfl) (by kernel_rfl) ?_
                repeat (go_big_quiet_step (fail))
                refine wpQuiet_nil ?_
                intro w4 hw4
                obtain ⟨p4, hp4⟩ := hw4
                have hb4 := of_rg hp4
                clear hp4 p4
                have hn4 : Below wr.heap.size wr w4 := below_next hb3' hb4
                have yy0 := (hb4.cell (p := ⟨bb, off + i * 3, none⟩) hbz3).trans y0
                have yy1 := (hb4.cell (p := ⟨bb, off + i * 3 + 1, none⟩) hbz3).trans y1
                have yy2 := (hb4.cell (p := ⟨bb, off + i * 3 + 2, none⟩) hbz3).trans y2
                have tc4 := (hn4.cell (p := ⟨tb, toff + k, none⟩) htb).trans tcell
                have sc4 := (hn4.cell (p := ⟨W.heap.size + 1, Q, none⟩) hzs).trans sc
                have sf4 := (hn4.frozen (p := ⟨W.heap.size + 1, Q, none⟩) hzs).trans sf
                have HS4 := Lib.hid (own_next HS1.out hn4)
                have HT4 := Lib.hid (own_next HT1.out hn4)
                have HK4 := Lib.hid (HK1.out.next hn4)
                have hw4 := below_next hwx hn4
                have hz4 : W.heap.size + 1 < w4.heap.size := by have := hn4.size; omega
                have hbz4 : bb < w4.heap.size := by have := hn4.size; omega
                have htz4 : tb < w4.heap.size := by have := hn4.size; omega
                clear y0 y1 y2 tcell sc sf hc
                have hw4s : W3.heap.size ≤ w4.heap.size := HK4.out.1
                have HS5 := Lib.hid (own_setB HS4.out Q true)
                have hT3 : Slab (w4.setCell ⟨W.heap.size + 1, Q, none⟩ (.bool true)) W3.heap.size none 3 1 (.slice (some ⟨tb, toff, none⟩) si.2.length c') si.2.length (ints (natL si.2)) := .inl (own_other (a := ⟨W.heap.size + 1, Q, none⟩) HT4.out (show _ ≠ some (W.heap.size + 1) from fun hh => by have := (HT4.out.lt _ hh).1; omega))
                have HNW : Hid (∀ j u, [Value.int .i64 (Q : Int)][j]? = some u → ((w4.setCell ⟨W.heap.size + 1, Q, none⟩ (.bool true)).alloc (.cells #[.int .i64 Q] 3)).cell? ((⟨w4.heap.size, 0, none⟩ : Addr).add j) = some u) := Lib.hid (by
                  have := cell_one_new (w4.setCell ⟨W.heap.size + 1, Q, none⟩ (.bool true)) (.int .i64 (Q : Int)) 3
                  rwa [World.size_setCell] at this)
                have hK5 := HK4.out.setCell (a := ⟨W.heap.size + 1, Q, none⟩) (show W.heap.size + 1 < W2.heap.size by omega) (.bool true)
                have HK5 := Lib.hid hK5
                have hw5 : Below W.heap.size W (w4.setCell ⟨W.heap.size + 1, Q, none⟩ (.bool true)) := hw4.setCell (by simp) _
                have hw3s : W3.heap.size ≤ (w4.setCell ⟨W.heap.size + 1, Q, none⟩ (.bool true)).heap.size := hK5.1
                clear hK5
                go_wp2_with (first | (at_builtin; refine wpList_append_slab _ rfl (.tmp 90) (.tmp 92) 69 rfl W3.heap.size none 3 i0 (.int .i64 0) 1 8 Try.underlying69 hi hz0 hz1 hz2 rfl (by decide) _ _ _ rfl (hT3.alloc _) ⟨w4.heap.size, 0, none⟩ 1 1 [.int .i64 Q] rfl rfl HNW.out (by intro u hu; simp at hu; subst hu; rfl) (by omega) (by unfold maxLen; omega) (by omega) (by have := hw3s; simp; omega) ?_; intro g cap wA ownA hbA))
                have HOA := Lib.hid ownA
                have HSA := Lib.hid (own_below (HS5.out.alloc (.cells #[.int .i64 Q] 3)) hbA (fun g hg => by simp [Value.ownBlock] at hg; omega))
                have hwA : Below W.heap.size W wA := (hw5.alloc (by have := hw5.size; simp at this ⊢; omega) _).trans (hbA.mono (by omega))
                have HKA := Lib.hid ((HK5.out.alloc (by simpa using hw3s) (.cells #[.int .i64 Q] 3)).below hbA)
                clear hT3 ownA
                go_wp2
                go_roundw
                case rel => exact ⟨i + 1, some ⟨g, 0, none⟩, cap, by omega, by go_num, by rw [HXX.out]; simp, by rw [HXX.out]; exact HSA.out, by rw [HXX.out]; simpa [natL, ints] using HOA.out, HKA.out, hwA⟩
                case measure => simp [intOf]; omega
            · rw [hd] at H0
              have HXX : Hid (rowS false (ls.take (i + 1)) x st = si) := Lib.hid (by rw [HRT.out]; exact step_no hd)
              clear hd
              go_wp2_with fail
              refine (isI_ (l05Bits_ f o t (by omega) (by omega) (by omega) _) (congrArg Int.ofNat HLB.out)).mono ?_
              rintro e w3 ⟨rfl, hb3'⟩
              have e3 : Int.ofNat LB = (LB : Int) := rfl
              rw [e3]
              clear e3
              have y0 := (hb3'.cell (p := ⟨bb, off + i * 3, none⟩) hbz).trans x0
              have y1 := (hb3'.cell (p := ⟨bb, off + i * 3 + 1, none⟩) hbz).trans x1
              have y2 := (hb3'.cell (p := ⟨bb, off + i * 3 + 2, none⟩) hbz).trans x2
              have hbz3 : bb < w3.heap.size := by have := hb3'.size; omega
              clear x0 x1 x2
              go_wp2_with fail
              refine wp_region_quiet_below (by kernel_rfl) (by kernel_rfl) ?_
              repeat (go_big_quiet_step (fail))
              refine wpQuiet_nil ?_
              intro w4 hw4
              obtain ⟨p4, hp4⟩ := hw4
              have hb4 := of_rg hp4
              clear hp4 p4
              have hn4 : Below wr.heap.size wr w4 := below_next hb3' hb4
              have yy0 := (hb4.cell (p := ⟨bb, off + i * 3, none⟩) hbz3).trans y0
              have yy1 := (hb4.cell (p := ⟨bb, off + i * 3 + 1, none⟩) hbz3).trans y1
              have yy2 := (hb4.cell (p := ⟨bb, off + i * 3 + 2, none⟩) hbz3).trans y2
              have tc4 := (hn4.cell (p := ⟨tb, toff + k, none⟩) htb).trans tcell
              have sc4 := (hn4.cell (p := ⟨W.heap.size + 1, Q, none⟩) hzs).trans sc
              have sf4 := (hn4.frozen (p := ⟨W.heap.size + 1, Q, none⟩) hzs).trans sf
              have HS4 := Lib.hid (own_next HS1.out hn4)
              have HT4 := Lib.hid (own_next HT1.out hn4)
              have HK4 := Lib.hid (HK1.out.next hn4)
              have hw4 := below_next hwx hn4
              have hz4 : W.heap.size + 1 < w4.heap.size := by have := hn4.size; omega
              have hbz4 : bb < w4.heap.size := by have := hn4.size; omega
              have htz4 : tb < w4.heap.size := by have := hn4.size; omega
              clear y0 y1 y2 tcell sc sf hc
              go_wp2
              go_roundw
              case rel => exact ⟨i + 1, _, c', by omega, by go_num, by rw [HXX.out], by rw [HXX.out]; exact HS4.out, by rw [HXX.out]; exact HT4.out, HK4.out, hw4⟩
              case measure => simp [intOf]; omega
          · have e : i = ls.length := by omega
            subst e
            have hs2 := HS1.out
            have ht2 := HT1.out
            rw [List.take_length] at hs2 ht2 hl1 ⊢
            have hk2 : k + 1 ≤ (rowS false ls x st).2.length := by
              have := row_pre (back := false) (p := x) ls st HX.out
              exact (List.getElem?_eq_some_iff.1 this).1
            have HS2 := Lib.hid hs2
            have HT2 := Lib.hid ht2
            generalize rowS false ls x st = sn at HNX2 HS2 HT2 hk2 hl1 ⊢
            clear hs2 ht2 hkx
            go_wp2
            go_roundw
            case rel => exact ⟨k + 1, A', c', by rw [HNX2.out]; exact hk2, by go_num, by rw [HNX2.out], by rw [HNX2.out]; exact HS2.out, by rw [HNX2.out]; exact HT2.out, HK1.out, hwx⟩
            case measure => simp [intOf]; omega
      · have hke : k = st.2.length := by omega
        have HFIN := Lib.hid (HAT.out (by omega) (by omega))
        go_wp2
        go_ret
        exact ⟨_, N, ret_slice HSL.out.symm, by rw [HR.out, HFIN.out]; exact rd_of_own HOS.out, hw⟩
  | true =>
    go_enter Try.func135, Try.ntmps135
    go_wp2_with (first | (at_make; refine wpList_make_full _ rfl (.tmp 20) (.tmp 20) 112 rfl (W.heap.size + 1) 4 j0 _ 1 Try.underlying112 hj0 jz0 jz1 .i64 .i64 _ _ N rfl rfl hsh hsh (by rw [jz2]; omega) (by unfold maxLen; omega) (by simp) ?_; intro W2 hown hg; have hb2 : Below (W.heap.size + 1) (W.alloc (.cells #[.int .i64 w, .int .i64 h, .int .i64 s] 42)) W2 := (Below.refl _ _).grown hg (by simp) (by simp); rw [made_bools] at hown; rw [show (W.alloc (.cells #[.int .i64 w, .int .i64 h, .int .i64 s] 42)).heap.size = W.heap.size + 1 by simp] at hown; have hy2 : W.heap.size + 1 < W2.heap.size := (hown.lt _ rfl).2; have c0 : W2.cell? ⟨W.heap.size, 0, none⟩ = some (.int .i64 w) := (by rw [hb2.cell (p := ⟨W.heap.size, 0, none⟩) (by simp)]; simp [go_sem]); have c1 : W2.cell? ⟨W.heap.size, 1, none⟩ = some (.int .i64 h) := (by rw [hb2.cell (p := ⟨W.heap.size, 1, none⟩) (by simp)]; simp [go_sem]); have c2 : W2.cell? ⟨W.heap.size, 2, none⟩ = some (.int .i64 s) := (by rw [hb2.cell (p := ⟨W.heap.size, 2, none⟩) (by simp)]; simp [go_sem])))
    refine (sLinesOfL_ ⟨w, h, s⟩ _).mono ?_
    rintro e W3 ⟨A1, k1, rfl, rd1, hb3, hlo⟩
    rw [HL.out] at rd1 ⊢
    have hown3 := own_next hown hb3
    have hW2 : Below W.heap.size W W2 := ((Below.refl _ _).alloc (Nat.le_refl _) _).trans (hb2.mono (Nat.le_succ _))
    have hW3 := below_next hW2 hb3
    have hy3 : W.heap.size + 1 < W3.heap.size := by have := hb3.size; omega
    have h23 := hb3.size
    obtain ⟨z, _, u0, v0⟩ := own_atB hown3 HQL.out
    clear c0 c1 c2 hg hown hb2
    go_wp2_with fail
    have hS0 : ((W3.setCell ⟨W.heap.size + 1, q, none⟩ (.bool true)).alloc (.cells #[.int .i64 q] 3)).ownsRow (W.heap.size + 1) 4 1 (.slice (some ⟨W.heap.size + 1, 0, none⟩) N N) N (bools (bst true ls N q 0).1) := (own_setB hown3 q true).alloc _
    have hT0 : ((W3.setCell ⟨W.heap.size + 1, q, none⟩ (.bool true)).alloc (.cells #[.int .i64 q] 3)).ownsRow W3.heap.size 3 1 (.slice (some ⟨W3.heap.size, 0, none⟩) (bst true ls N q 0).2.length 1) (bst true ls N q 0).2.length (ints (natL (bst true ls N q 0).2)) := by
      have := World.ownsRow_lit (base := W3.heap.size) (e := 3) (size := 1) (W3.setCell ⟨W.heap.size + 1, q, none⟩ (.bool true)) #[.int .i64 q] 1 (by simp) (by simp [maxLen]) rfl
      simpa [bst, natL, ints] using this
    have hB0 : Below W.heap.size W ((W3.setCell ⟨W.heap.size + 1, q, none⟩ (.bool true)).alloc (.cells #[.int .i64 q] 3)) := (hW3.setCell (by simp) _).alloc (by have := hW3.size; simp; omega) _
    have hK0 : KeepLn W2.heap.size W3 ((W3.setCell ⟨W.heap.size + 1, q, none⟩ (.bool true)).alloc (.cells #[.int .i64 q] 3)) := (KeepLn.refl _ _).setCell (by simp; omega) _ |>.alloc (by simp) _
    have HS0 := Lib.hid hS0
    have HT0 := Lib.hid hT0
    have HK0 := Lib.hid hK0
    clear hown3 u0 v0 hS0 hT0 hK0
    go_loopw [9, 10] (fun tv kv wr => ∃ (k : Nat) (A : Option Addr) (c : Nat), k ≤ (bst true ls N q k).2.length ∧ kv = .int .i64 k ∧ tv = .slice A (bst true ls N q k).2.length c ∧ wr.ownsRow (W.heap.size + 1) 4 1 (.slice (some ⟨W.heap.size + 1, 0, none⟩) N N) N (bools (bst true ls N q k).1) ∧ wr.ownsRow W3.heap.size 3 1 (.slice A (bst true ls N q k).2.length c) (bst true ls N q k).2.length (ints (natL (bst true ls N q k).2)) ∧ KeepLn W2.heap.size W3 wr ∧ Below W.heap.size W wr) (fun _ kv _ => N - (intOf kv).toNat)
    case atStart => exact ⟨0, _, 1, Nat.zero_le _, rfl, by simp [bst], HS0.out, HT0.out, HK0.out, hB0⟩
    case round =>
      obtain ⟨k, A, c, hkl, rfl, rfl, ownS, ownT, hkp, hw⟩ := hrel
      have inv := bst_inv (back := true) HQL.out HST.out k
      have hle2 := inv.le
      have HIN := Lib.hid inv
      have HAT := Lib.hid (bfs_at (back := true) (k := k) HQL.out HST.out)
      generalize hst : bst true ls N q k = st at hkl ownS ownT inv hle2 HIN HAT ⊢
      have HSTE := Lib.hid hst
      have HOS := Lib.hid ownS
      have HOT := Lib.hid ownT
      have HKP := Lib.hid hkp
      clear hst inv ownS ownT hkp
      by_cases hlt : k < st.2.length
      · have hx : st.2[k]? = some st.2[k] := List.getElem?_eq_getElem hlt
        generalize st.2[k] = x at hx
        have xl := HIN.out.lt x (List.mem_of_getElem? hx)
        have HX := Lib.hid hx
        have HNX2 : Hid (bst true ls N q (k + 1) = rowS true ls x st) := Lib.hid (by
          rw [bst_next (by rw [HSTE.out]; exact hx), HSTE.out])
        have k0' : (0 : Int) ≤ (k : Int) := by omega
        have x63 : B63 x := by unfold B63; omega
        clear hx
        go_wp2_with fail
        go_loopw [9, 11] (fun tv iv wx => ∃ (i : Nat) (A : Option Addr) (c : Nat), i ≤ ls.length ∧ iv = .int .i64 i ∧ tv = .slice A (rowS true (ls.take i) x st).2.length c ∧ wx.ownsRow (W.heap.size + 1) 4 1 (.slice (some ⟨W.heap.size + 1, 0, none⟩) N N) N (bools (rowS true (ls.take i) x st).1) ∧ wx.ownsRow W3.heap.size 3 1 (.slice A (rowS true (ls.take i) x st).2.length c) (rowS true (ls.take i) x st).2.length (ints (natL (rowS true (ls.take i) x st).2)) ∧ KeepLn W2.heap.size W3 wx ∧ Below W.heap.size W wx) (fun _ iv _ => ls.length - (intOf iv).toNat)
        case atStart => exact ⟨0, A, c, Nat.zero_le _, rfl, rfl, HOS.out, HOT.out, HKP.out, hw⟩
        case round =>
          obtain ⟨i, A', c', hi0, rfl, rfl, ownS, ownT, hkx, hwx⟩ := hrel
          have hsz := hwx.size
          have HS1 := Lib.hid ownS
          have HT1 := Lib.hid ownT
          have HK1 := Lib.hid hkx
          have inv1 := row_inv (back := true) xl (ls.take i) st HIN.out (fun l hl => HST.out l (List.mem_of_mem_take hl))
          have hp1 := row_pre (back := true) (p := x) (ls.take i) st HX.out
          have hl1 := inv1.le
          have HLEN := Lib.hid inv1.len
          by_cases hil : i < ls.length
          · obtain ⟨bb, off, l, rfl, hbl, hxl, x0', x1', x2'⟩ := rd1.line hil
            have hbb := hlo _ rfl
            have hbb' : W2.heap.size ≤ bb := hbb
            have x0 := (hkx.2 bb (off + i * 3) hbb' hbl).trans x0'
            have x1 := (hkx.2 bb (off + i * 3 + 1) hbb' hbl).trans x1'
            have x2 := (hkx.2 bb (off + i * 3 + 2) hbb' hbl).trans x2'
            obtain ⟨f, o, t, rfl, f1, o1, t1, hft, hot, hfo⟩ := HLS.out l (List.mem_of_getElem? hxl)
            have hQ := HST.out _ (List.mem_of_getElem? hxl) x xl
            have HRT := Lib.hid (row_take (back := true) (p := x) (st := st) hxl)
            have HF := Lib.hid hft
            have HO := Lib.hid hot
            have i0' : (0 : Int) ≤ (i : Int) := by omega
            have i1' : (i : Int) < (ls.length : Int) := by omega
            have hbz : bb < wr.heap.size := by have := hkx.1; omega
            obtain ⟨tb, toff, rfl, htb, tcell⟩ := own_natL ownT hp1
            have hk1 : k < (rowS true (ls.take i) x st).2.length := (List.getElem?_eq_some_iff.1 hp1).1
            generalize hri : rowS true (ls.take i) x st = si at HS1 HT1 hl1 HLEN HRT hk1 ⊢
            have HRI := Lib.hid hri
            have k1' : (k : Int) < (si.2.length : Int) := by omega
            obtain ⟨bq, hbq, sc, sf⟩ := own_atB HS1.out hQ
            have HBQ := Lib.hid hbq
            have hzs : W.heap.size + 1 < wr.heap.size := (HS1.out.lt (W.heap.size + 1) rfl).2
            have pf := i64_pow f (by omega)
            have po := i64_pow o (by omega)
            have pt := i64_pow t (by omega)
            have l63 : B63 (lbits ⟨f, o, t⟩) := by simp only [lbits, Int.toNat_natCast]; exact b63_or (b63_or (b63_pow2 (by omega)) (b63_pow2 (by omega))) (b63_pow2 (by omega))
            have a1 := i64_and x (lbits ⟨f, o, t⟩) x63 l63
            have a2 := i64_or (pow2 f) (pow2 o) (b63_pow2 (by omega)) (b63_pow2 (by omega))
            have a3 := i64_xor x (lbits ⟨f, o, t⟩) x63 l63
            rw [show x ^^^ lbits ⟨f, o, t⟩ = flip x ⟨f, o, t⟩ from rfl] at a3
            have H0 : (((x &&& lbits ⟨f, o, t⟩ : Nat) : Int) == ((pow2 t : Nat) : Int)) = canD true x ⟨f, o, t⟩ := by
              show _ = canU x ⟨f, o, t⟩
              rw [canU_and hft hot, Bool.eq_iff_iff]; simp; omega
            generalize hLB : lbits ⟨f, o, t⟩ = LB at a1 a3 H0
            generalize hQe : flip x ⟨f, o, t⟩ = Q at hQ sc sf a3 HBQ
            have HLB := Lib.hid hLB
            have HQE := Lib.hid hQe
            have q0 : (0 : Int) ≤ (Q : Int) := by omega
            have q1 : (Q : Int) < (N : Int) := by omega
            clear ownS ownT inv1 hp1 hxl hft hot hfo hri hbq hLB hQe l63 x0' x1' x2' hkx
            have hc : ∀ (a : Addr) (p : Regrown) (W : World), a.block < W.heap.size → (grow (redrawn W p.d) p.os).cell? a = W.cell? a := fun a p W h => (below_regrown W p.d p.os).cell h
            rcases Bool.eq_false_or_eq_true (canD true x ⟨f, o, t⟩) with hd | hd
            · rw [hd] at H0
              rcases Bool.eq_false_or_eq_true bq with hbb | hbb
              · subst hbb
                have HXX : Hid (rowS true (ls.take (i + 1)) x st = si) := Lib.hid (by rw [HRT.out]; exact step_seen (by rw [HQE.out]; exact HBQ.out))
                clear hd
                go_wp2_with fail
                refine (isI_ (l05Bits_ f o t (by omega) (by omega) (by omega) _) (congrArg Int.ofNat HLB.out)).mono ?_
                rintro e w3 ⟨rfl, hb3'⟩
                have e3 : Int.ofNat LB = (LB : Int) := rfl
                rw [e3]
                clear e3
                have y0 := (hb3'.cell (p := ⟨bb, off + i * 3, none⟩) hbz).trans x0
                have y1 := (hb3'.cell (p := ⟨bb, off + i * 3 + 1, none⟩) hbz).trans x1
                have y2 := (hb3'.cell (p := ⟨bb, off + i * 3 + 2, none⟩) hbz).trans x2
                have hbz3 : bb < w3.heap.size := by have := hb3'.size; omega
                clear x0 x1 x2
                go_wp2_with fail
                refine wp_region_quiet_below (by kernel_rfl) (by kernel_rfl) ?_
                repeat (go_big_quiet_step (fail))
                refine wpQuiet_nil ?_
                intro w4 hw4
                obtain ⟨p4, hp4⟩ := hw4
                have hb4 := of_rg hp4
                clear hp4 p4
                have hn4 : Below wr.heap.size wr w4 := below_next hb3' hb4
                have yy0 := (hb4.cell (p := ⟨bb, off + i * 3, none⟩) hbz3).trans y0
                have yy1 := (hb4.cell (p := ⟨bb, off + i * 3 + 1, none⟩) hbz3).trans y1
                have yy2 := (hb4.cell (p := ⟨bb, off + i * 3 + 2, none⟩) hbz3).trans y2
                have tc4 := (hn4.cell (p := ⟨tb, toff + k, none⟩) htb).trans tcell
                have sc4 := (hn4.cell (p := ⟨W.heap.size + 1, Q, none⟩) hzs).trans sc
                have sf4 := (hn4.frozen (p := ⟨W.heap.size + 1, Q, none⟩) hzs).trans sf
                have HS4 := Lib.hid (own_next HS1.out hn4)
                have HT4 := Lib.hid (own_next HT1.out hn4)
                have HK4 := Lib.hid (HK1.out.next hn4)
                have hw4 := below_next hwx hn4
                have hz4 : W.heap.size + 1 < w4.heap.size := by have := hn4.size; omega
                have hbz4 : bb < w4.heap.size := by have := hn4.size; omega
                have htz4 : tb < w4.heap.size := by have := hn4.size; omega
                clear y0 y1 y2 tcell sc sf hc
                go_wp2
                go_roundw
                case rel => exact ⟨i + 1, _, c', by omega, by go_num, by rw [HXX.out], by rw [HXX.out]; exact HS4.out, by rw [HXX.out]; exact HT4.out, HK4.out, hw4⟩
                case measure => simp [intOf]; omega
              · subst hbb
                have HXX : Hid (rowS true (ls.take (i + 1)) x st = (si.1.set Q true, si.2 ++ [Q])) := Lib.hid (by rw [HRT.out, ← HQE.out]; exact step_new hd (by rw [HQE.out]; exact HBQ.out))
                clear hd
                go_wp2_with fail
                refine (isI_ (l05Bits_ f o t (by omega) (by omega) (by omega) _) (congrArg Int.ofNat HLB.out)).mono ?_
                rintro e w3 ⟨rfl, hb3'⟩
                have e3 : Int.ofNat LB = (LB : Int) := rfl
                rw [e3]
                clear e3
                have y0 := (hb3'.cell (p := ⟨bb, off + i * 3, none⟩) hbz).trans x0
                have y1 := (hb3'.cell (p := ⟨bb, off + i * 3 + 1, none⟩) hbz).trans x1
                have y2 := (hb3'.cell (p := ⟨bb, off + i * 3 + 2, none⟩) hbz).trans x2
                have hbz3 : bb < w3.heap.size := by have := hb3'.size; omega
                clear x0 x1 x2
                go_wp2_with fail
                refine wp_region_quiet_below (by kernel_rfl) (by kernel_rfl) ?_
                repeat (go_big_quiet_step (fail))
                refine wpQuiet_nil ?_
                intro w4 hw4
                obtain ⟨p4, hp4⟩ := hw4
                have hb4 := of_rg hp4
                clear hp4 p4
                have hn4 : Below wr.heap.size wr w4 := below_next hb3' hb4
                have yy0 := (hb4.cell (p := ⟨bb, off + i * 3, none⟩) hbz3).trans y0
                have yy1 := (hb4.cell (p := ⟨bb, off + i * 3 + 1, none⟩) hbz3).trans y1
                have yy2 := (hb4.cell (p := ⟨bb, off + i * 3 + 2, none⟩) hbz3).trans y2
                have tc4 := (hn4.cell (p := ⟨tb, toff + k, none⟩) htb).trans tcell
                have sc4 := (hn4.cell (p := ⟨W.heap.size + 1, Q, none⟩) hzs).trans sc
                have sf4 := (hn4.frozen (p := ⟨W.heap.size + 1, Q, none⟩) hzs).trans sf
                have HS4 := Lib.hid (own_next HS1.out hn4)
                have HT4 := Lib.hid (own_next HT1.out hn4)
                have HK4 := Lib.hid (HK1.out.next hn4)
                have hw4 := below_next hwx hn4
                have hz4 : W.heap.size + 1 < w4.heap.size := by have := hn4.size; omega
                have hbz4 : bb < w4.heap.size := by have := hn4.size; omega
                have htz4 : tb < w4.heap.size := by have := hn4.size; omega
                clear y0 y1 y2 tcell sc sf hc
                have hw4s : W3.heap.size ≤ w4.heap.size := HK4.out.1
                have HS5 := Lib.hid (own_setB HS4.out Q true)
                have hT3 : Slab (w4.setCell ⟨W.heap.size + 1, Q, none⟩ (.bool true)) W3.heap.size none 3 1 (.slice (some ⟨tb, toff, none⟩) si.2.length c') si.2.length (ints (natL si.2)) := .inl (own_other (a := ⟨W.heap.size + 1, Q, none⟩) HT4.out (show _ ≠ some (W.heap.size + 1) from fun hh => by have := (HT4.out.lt _ hh).1; omega))
                have HNW : Hid (∀ j u, [Value.int .i64 (Q : Int)][j]? = some u → ((w4.setCell ⟨W.heap.size + 1, Q, none⟩ (.bool true)).alloc (.cells #[.int .i64 Q] 3)).cell? ((⟨w4.heap.size, 0, none⟩ : Addr).add j) = some u) := Lib.hid (by
                  have := cell_one_new (w4.setCell ⟨W.heap.size + 1, Q, none⟩ (.bool true)) (.int .i64 (Q : Int)) 3
                  rwa [World.size_setCell] at this)
                have hK5 := HK4.out.setCell (a := ⟨W.heap.size + 1, Q, none⟩) (show W.heap.size + 1 < W2.heap.size by omega) (.bool true)
                have HK5 := Lib.hid hK5
                have hw5 : Below W.heap.size W (w4.setCell ⟨W.heap.size + 1, Q, none⟩ (.bool true)) := hw4.setCell (by simp) _
                have hw3s : W3.heap.size ≤ (w4.setCell ⟨W.heap.size + 1, Q, none⟩ (.bool true)).heap.size := hK5.1
                clear hK5
                go_wp2_with (first | (at_builtin; refine wpList_append_slab _ rfl (.tmp 90) (.tmp 92) 69 rfl W3.heap.size none 3 i0 (.int .i64 0) 1 8 Try.underlying69 hi hz0 hz1 hz2 rfl (by decide) _ _ _ rfl (hT3.alloc _) ⟨w4.heap.size, 0, none⟩ 1 1 [.int .i64 Q] rfl rfl HNW.out (by intro u hu; simp at hu; subst hu; rfl) (by omega) (by unfold maxLen; omega) (by omega) (by have := hw3s; simp; omega) ?_; intro g cap wA ownA hbA))
                have HOA := Lib.hid ownA
                have HSA := Lib.hid (own_below (HS5.out.alloc (.cells #[.int .i64 Q] 3)) hbA (fun g hg => by simp [Value.ownBlock] at hg; omega))
                have hwA : Below W.heap.size W wA := (hw5.alloc (by have := hw5.size; simp at this ⊢; omega) _).trans (hbA.mono (by omega))
                have HKA := Lib.hid ((HK5.out.alloc (by simpa using hw3s) (.cells #[.int .i64 Q] 3)).below hbA)
                clear hT3 ownA
                go_wp2
                go_roundw
                case rel => exact ⟨i + 1, some ⟨g, 0, none⟩, cap, by omega, by go_num, by rw [HXX.out]; simp, by rw [HXX.out]; exact HSA.out, by rw [HXX.out]; simpa [natL, ints] using HOA.out, HKA.out, hwA⟩
                case measure => simp [intOf]; omega
            · rw [hd] at H0
              have HXX : Hid (rowS true (ls.take (i + 1)) x st = si) := Lib.hid (by rw [HRT.out]; exact step_no hd)
              clear hd
              go_wp2_with fail
              refine (isI_ (l05Bits_ f o t (by omega) (by omega) (by omega) _) (congrArg Int.ofNat HLB.out)).mono ?_
              rintro e w3 ⟨rfl, hb3'⟩
              have e3 : Int.ofNat LB = (LB : Int) := rfl
              rw [e3]
              clear e3
              have y0 := (hb3'.cell (p := ⟨bb, off + i * 3, none⟩) hbz).trans x0
              have y1 := (hb3'.cell (p := ⟨bb, off + i * 3 + 1, none⟩) hbz).trans x1
              have y2 := (hb3'.cell (p := ⟨bb, off + i * 3 + 2, none⟩) hbz).trans x2
              have hbz3 : bb < w3.heap.size := by have := hb3'.size; omega
              clear x0 x1 x2
              go_wp2_with fail
              refine wp_region_quiet_below (by kernel_rfl) (by kernel_rfl) ?_
              repeat (go_big_quiet_step (fail))
              refine wpQuiet_nil ?_
              intro w4 hw4
              obtain ⟨p4, hp4⟩ := hw4
              have hb4 := of_rg hp4
              clear hp4 p4
              have hn4 : Below wr.heap.size wr w4 := below_next hb3' hb4
              have yy0 := (hb4.cell (p := ⟨bb, off + i * 3, none⟩) hbz3).trans y0
              have yy1 := (hb4.cell (p := ⟨bb, off + i * 3 + 1, none⟩) hbz3).trans y1
              have yy2 := (hb4.cell (p := ⟨bb, off + i * 3 + 2, none⟩) hbz3).trans y2
              have tc4 := (hn4.cell (p := ⟨tb, toff + k, none⟩) htb).trans tcell
              have sc4 := (hn4.cell (p := ⟨W.heap.size + 1, Q, none⟩) hzs).trans sc
              have sf4 := (hn4.frozen (p := ⟨W.heap.size + 1, Q, none⟩) hzs).trans sf
              have HS4 := Lib.hid (own_next HS1.out hn4)
              have HT4 := Lib.hid (own_next HT1.out hn4)
              have HK4 := Lib.hid (HK1.out.next hn4)
              have hw4 := below_next hwx hn4
              have hz4 : W.heap.size + 1 < w4.heap.size := by have := hn4.size; omega
              have hbz4 : bb < w4.heap.size := by have := hn4.size; omega
              have htz4 : tb < w4.heap.size := by have := hn4.size; omega
              clear y0 y1 y2 tcell sc sf hc
              go_wp2
              go_roundw
              case rel => exact ⟨i + 1, _, c', by omega, by go_num, by rw [HXX.out], by rw [HXX.out]; exact HS4.out, by rw [HXX.out]; exact HT4.out, HK4.out, hw4⟩
              case measure => simp [intOf]; omega
          · have e : i = ls.length := by omega
            subst e
            have hs2 := HS1.out
            have ht2 := HT1.out
            rw [List.take_length] at hs2 ht2 hl1 ⊢
            have hk2 : k + 1 ≤ (rowS true ls x st).2.length := by
              have := row_pre (back := true) (p := x) ls st HX.out
              exact (List.getElem?_eq_some_iff.1 this).1
            have HS2 := Lib.hid hs2
            have HT2 := Lib.hid ht2
            generalize rowS true ls x st = sn at HNX2 HS2 HT2 hk2 hl1 ⊢
            clear hs2 ht2 hkx
            go_wp2
            go_roundw
            case rel => exact ⟨k + 1, A', c', by rw [HNX2.out]; exact hk2, by go_num, by rw [HNX2.out], by rw [HNX2.out]; exact HS2.out, by rw [HNX2.out]; exact HT2.out, HK1.out, hwx⟩
            case measure => simp [intOf]; omega
      · have hke : k = st.2.length := by omega
        have HFIN := Lib.hid (HAT.out (by omega) (by omega))
        go_wp2
        go_ret
        exact ⟨_, N, ret_slice HSL.out.symm, by rw [HR.out, HFIN.out]; exact rd_of_own HOS.out, hw⟩
end Go.Proofs.Ytbcgokpamhgabaa

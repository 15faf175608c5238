/- The contract of the reference's l17Next. -/
import Derived.Test.YtbljoknlphaimaaChecked
import Derived.Test.YtbljoknlphaimaaMem
import Derived.Tactics
import Derived.Tactics2
import Derived.WalkKit
import Derived.WalkSpells
import Derived.WalkLawsBesides
import Derived.Deep.QuietTactic
import Derived.BigQuiet
import Derived.BigGuardPart
import Derived.Lib.QuietBelow
import Derived.OwnWalk
import Derived.KernelRfl
import Derived.Test.YtbljoknlphaimaaLay
set_option linter.unusedVariables false
set_option maxRecDepth 20000
namespace Go.Proofs.Ytbljoknlphaimaa
open Go.RowKit Go.Sort Go.Lib

theorem rowM_len (back : Bool) (p : Nat) (ls : List Ln) : ∀ s : List Bool, (rowM back ls p s).length = s.length := by
  induction ls with
  | nil => intro s; rfl
  | cons x ls ih =>
    intro s
    have h := ih (stepM back p s x)
    simp only [rowM, List.foldl_cons] at h ⊢
    rw [h]; unfold stepM; split <;> simp
theorem colM_len (back : Bool) (ls : List Ln) (n : Nat) (ps : List Nat) : (colM back ls n ps).length = n := by
  unfold colM
  suffices h : ∀ s : List Bool, (ps.foldl (fun s p => rowM back ls p s) s).length = s.length by rw [h]; simp
  induction ps with
  | nil => intro s; rfl
  | cons x ps ih => intro s; rw [List.foldl_cons, ih, rowM_len]
theorem l14ListN_ (bs : List Bool) (n : Nat) (A : Option Addr) (c : Nat) (hbn : bs.length = n) (hn : bs.length ≤ 65536) (w : World) (rd : Rd w w.heap.size A (bools bs)) :
    Calls Try.prog 70 #[.slice A n c] w (GivesSlice w 3 1 (trues bs bs.length).length (ints (natL (trues bs bs.length)))) := by
  subst hbn
  exact l14List_ bs A c hn w rd
set_option maxHeartbeats 4000000 in
theorem l17Next_ (back : Bool) (w h s : Nat) (hb : BdOk w h s) (h16 : w * h ≤ 16) (ls : List Ln) (N : Nat) (hN : N = 2 ^ (w * h)) (hle : linesL ⟨w, h, s⟩ = ls) (ps : List Nat) (AP : Option Addr) (cP : Nat) (hps : ∀ p ∈ ps, p < N) (hpl : ps.length ≤ 65536) (W : World)
    (rdP : Rd W W.heap.size AP (ints (natL ps))) :
    Calls Try.prog 94 #[.agg #[.int .i64 w, .int .i64 h, .int .i64 s], .slice AP ps.length cP, .bool back] W (GivesSlice W 3 1 (nextL back ls N ps).length (ints (natL (nextL back ls N ps)))) := by
  obtain ⟨m1, m2, m3⟩ := area_bounds hb.w1 hb.w7 hb.h1 hb.h7
  have hsh := i64_pow (w * h) (by omega)
  have hST := stays_of hb
  have HLS0 := lsFo_of hb
  have hlm := linesL_le ⟨w, h, s⟩
  have hN1 : N ≤ 65536 := by rw [hN]; exact Nat.pow_le_pow_right (n := 2) (j := 16) (by omega) h16
  have hN0 : 0 < N := by rw [hN]; exact Nat.two_pow_pos _
  rw [← hN] at hST
  rw [show pow2 (w * h) = N from hN.symm] at hsh
  rw [hle] at hST HLS0 hlm
  have HL := Lib.hid hle
  have HLS := Lib.hid HLS0
  have HST := Lib.hid hST
  have HPS := Lib.hid hps
  have infoBool : (Try.prog.info? 4).map (fun i => (i.zero, i.size, i.bytes)) = some (some (.bool false), 1, 1) := by kernel_rfl
  obtain ⟨j0, hj0, jz0, jz1, jz2⟩ := info_parts infoBool
  clear infoBool hle HLS0 hST hN hps
  cases back with
  | false =>
    go_enter Try.func94, Try.ntmps94
    go_wp2_with (first | (at_make; refine wpList_make_full _ rfl (.tmp 17) (.tmp 17) 64 rfl (W.heap.size + 1) 4 j0 _ 1 Try.underlying64 hj0 jz0 jz1 .i64 .i64 _ _ N rfl rfl hsh hsh (by rw [jz2]; omega) (by unfold maxLen; omega) (by simp) ?_; intro W2 hown hg; have hb2 : Below (W.heap.size + 1) (W.alloc (.cells #[.int .i64 w, .int .i64 h, .int .i64 s] 25)) W2 := (Below.refl _ _).grown hg (by simp) (by simp); rw [made_bools] at hown; rw [show (W.alloc (.cells #[.int .i64 w, .int .i64 h, .int .i64 s] 25)).heap.size = W.heap.size + 1 by simp] at hown; have hy2 : W.heap.size + 1 < W2.heap.size := (hown.lt _ rfl).2; have c0 : W2.cell? ⟨W.heap.size, 0, none⟩ = some (.int .i64 w) := (by rw [hb2.cell (p := ⟨W.heap.size, 0, none⟩) (by simp)]; simp [go_sem]); have c1 : W2.cell? ⟨W.heap.size, 1, none⟩ = some (.int .i64 h) := (by rw [hb2.cell (p := ⟨W.heap.size, 1, none⟩) (by simp)]; simp [go_sem]); have c2 : W2.cell? ⟨W.heap.size, 2, none⟩ = some (.int .i64 s) := (by rw [hb2.cell (p := ⟨W.heap.size, 2, none⟩) (by simp)]; simp [go_sem])))
    refine (sLinesOfL_ ⟨w, h, s⟩ _).mono ?_
    rintro e W3 ⟨A1, k1, rfl, rd1, hb3, hlo⟩
    rw [HL.out] at rd1 ⊢
    have hown3 := own_next hown hb3
    have hW2 : Below W.heap.size W W2 := ((Below.refl _ _).alloc (Nat.le_refl _) _).trans (hb2.mono (Nat.le_succ _))
    have hW3 := below_next hW2 hb3
    have hy3 : W.heap.size + 1 < W3.heap.size := by have := hb3.size; omega
    have h23 := hb3.size
    have HS0 := Lib.hid hown3
    have HK0 := Lib.hid (KeepLn.refl W2.heap.size W3)
    clear c0 c1 c2 hg hown hb2 hown3
    go_wp2_with fail
    go_loopw [9] (fun kv wr => ∃ (k : Nat), k ≤ ps.length ∧ kv = .int .i64 k ∧ wr.ownsRow (W.heap.size + 1) 4 1 (.slice (some ⟨W.heap.size + 1, 0, none⟩) N N) N (bools (colM false ls N (ps.take k))) ∧ KeepLn W2.heap.size W3 wr ∧ Below W.heap.size W wr) (fun kv _ => ps.length - (intOf kv).toNat)
    case atStart => exact ⟨0, Nat.zero_le _, rfl, HS0.out, HK0.out, hW3⟩
    case round =>
      obtain ⟨k, hk, rfl, ownS, hkp, hw⟩ := hrel
      have HKP := Lib.hid hkp
      by_cases hlt : k < ps.length
      · have hx : ps[k]? = some ps[k] := List.getElem?_eq_getElem hlt
        have xl := HPS.out _ (List.getElem_mem hlt)
        generalize ps[k] = x at hx xl
        have HXX := Lib.hid hx
        have HNX := Lib.hid (show colM false ls N (ps.take (k + 1)) = rowM false ls x (colM false ls N (ps.take k)) from fold_take hx)
        have HCL := Lib.hid (colM_len false ls N (ps.take k))
        generalize colM false ls N (ps.take k) = a at ownS HNX HCL ⊢
        have HO := Lib.hid ownS
        have k0' : (0 : Int) ≤ (k : Int) := by omega
        have k1' : (k : Int) < (ps.length : Int) := by omega
        have x63 : B63 x := by unfold B63; omega
        clear hx ownS hkp
        go_wp2_with fail
        go_loopw [10] (fun iv wx => ∃ (i : Nat), i ≤ ls.length ∧ iv = .int .i64 i ∧ wx.ownsRow (W.heap.size + 1) 4 1 (.slice (some ⟨W.heap.size + 1, 0, none⟩) N N) N (bools (rowM false (ls.take i) x a)) ∧ KeepLn W2.heap.size W3 wx ∧ Below W.heap.size W wx) (fun iv _ => ls.length - (intOf iv).toNat)
        case atStart => exact ⟨0, Nat.zero_le _, rfl, HO.out, HKP.out, hw⟩
        case round =>
          obtain ⟨i, hi0, rfl, ownS, hkx, hwx⟩ := hrel
          have HS1 := Lib.hid ownS
          have HK1 := Lib.hid hkx
          have hszx := hwx.size
          clear ownS
          by_cases hil : i < ls.length
          · obtain ⟨bb, off, l, rfl, hbl, hxl, x0', x1', x2'⟩ := rd1.line hil
            have hbb' : W2.heap.size ≤ bb := hlo _ rfl
            have x0 := (hkx.2 bb (off + i * 3) hbb' hbl).trans x0'
            have x1 := (hkx.2 bb (off + i * 3 + 1) hbb' hbl).trans x1'
            have x2 := (hkx.2 bb (off + i * 3 + 2) hbb' hbl).trans x2'
            obtain ⟨f, o, t, rfl, f1, o1, t1, hft, hot, hfo⟩ := HLS.out l (List.mem_of_getElem? hxl)
            have hQ := HST.out _ (List.mem_of_getElem? hxl) x xl
            have HRT := Lib.hid (show rowM false (ls.take (i + 1)) x a = stepM false x (rowM false (ls.take i) x a) ⟨f, o, t⟩ from fold_take hxl)
            obtain ⟨tb, toff, rfl, htb0, tcell⟩ := rd_nat (rdP.below hwx) HXX.out
            have htb : tb < wr.heap.size := by omega
            have i0' : (0 : Int) ≤ (i : Int) := by omega
            have i1' : (i : Int) < (ls.length : Int) := by omega
            have hbz : bb < wr.heap.size := by have := hkx.1; omega
            generalize hri : rowM false (ls.take i) x a = si at HS1 HRT ⊢
            have HRI := Lib.hid hri
            obtain ⟨bq, hbq, sc, sf⟩ := own_atB HS1.out hQ
            have hzs : W.heap.size + 1 < wr.heap.size := (HS1.out.lt (W.heap.size + 1) rfl).2
            have pf := i64_pow f (by omega)
            have po := i64_pow o (by omega)
            have pt := i64_pow t (by omega)
            have l63 : B63 (lbits ⟨f, o, t⟩) := by simp only [lbits, Int.toNat_natCast]; exact b63_or (b63_or (b63_pow2 (by omega)) (b63_pow2 (by omega))) (b63_pow2 (by omega))
            have a1 := i64_and x (lbits ⟨f, o, t⟩) x63 l63
            have a2 := i64_or (pow2 f) (pow2 o) (b63_pow2 (by omega)) (b63_pow2 (by omega))
            have a3 := i64_xor x (lbits ⟨f, o, t⟩) x63 l63
            rw [show x ^^^ lbits ⟨f, o, t⟩ = flip x ⟨f, o, t⟩ from rfl] at a3
            have H0 : (((x &&& lbits ⟨f, o, t⟩ : Nat) : Int) == ((pow2 f ||| pow2 o : Nat) : Int)) = canD false x ⟨f, o, t⟩ := by
              show _ = canJ x ⟨f, o, t⟩
              rw [canJ_and hft hot, Bool.eq_iff_iff]; simp; omega
            generalize hLB : lbits ⟨f, o, t⟩ = LB at a1 a3 H0
            generalize hQe : flip x ⟨f, o, t⟩ = Q at hQ sc sf a3
            have HLB := Lib.hid hLB
            have HQE := Lib.hid hQe
            have HQL := Lib.hid hQ
            have q0 : (0 : Int) ≤ (Q : Int) := by omega
            have q1 : (Q : Int) < (N : Int) := by omega
            clear hxl hft hot hfo hri hbq hLB hQe l63 x0' x1' x2' hkx
            have hc : ∀ (a : Addr) (p : Regrown) (W : World), a.block < W.heap.size → (grow (redrawn W p.d) p.os).cell? a = W.cell? a := fun a p W h => (below_regrown W p.d p.os).cell h
            rcases Bool.eq_false_or_eq_true (canD false x ⟨f, o, t⟩) with hd | hd
            · rw [hd] at H0
              have HY := Lib.hid (show rowM false (ls.take (i + 1)) x a = si.set Q true by rw [HRT.out, stepM_yes hd, HQE.out])
              clear hd
              go_wp2_with fail
              refine wp_region_quiet_below (by kernel_rfl) (by kernel_rfl) ?_
              repeat (go_big_quiet_step (fail))
              refine wpQuiet_nil ?_
              intro w3 hw3
              obtain ⟨p3, hp3⟩ := hw3
              have hb3 := of_rg hp3
              clear hp3 p3
              have hn3 : Below wr.heap.size wr w3 := hb3
              have y0 := (hb3.cell (p := ⟨bb, off + i * 3, none⟩) hbz).trans x0
              have y1 := (hb3.cell (p := ⟨bb, off + i * 3 + 1, none⟩) hbz).trans x1
              have y2 := (hb3.cell (p := ⟨bb, off + i * 3 + 2, none⟩) hbz).trans x2
              have tc3 := (hb3.cell (p := ⟨tb, toff + k, none⟩) htb).trans tcell
              have hbz3 : bb < w3.heap.size := by have := hb3.size; omega
              have htz3 : tb < w3.heap.size := by have := hb3.size; omega
              clear x0 x1 x2 tcell
              go_wp2_with fail
              refine wp_region_quiet_below (by kernel_rfl) (by kernel_rfl) ?_
              repeat (go_big_quiet_step (first | (go_at_call 79; exact Calls.regrown_of (isI_ (l05Bits_ f o t (by omega) (by omega) (by omega) _) (congrArg Int.ofNat HLB.out)))))
              refine wpQuiet_nil ?_
              intro w4 hw4
              obtain ⟨p4, hp4⟩ := hw4
              have hb4 := of_rg hp4
              clear hp4 p4
              have hn4 : Below wr.heap.size wr w4 := below_next hb3 hb4
              have yy0 := (hb4.cell (p := ⟨bb, off + i * 3, none⟩) hbz3).trans y0
              have yy1 := (hb4.cell (p := ⟨bb, off + i * 3 + 1, none⟩) hbz3).trans y1
              have yy2 := (hb4.cell (p := ⟨bb, off + i * 3 + 2, none⟩) hbz3).trans y2
              have tc4 := (hb4.cell (p := ⟨tb, toff + k, none⟩) htz3).trans tc3
              have HS4 := Lib.hid (own_next HS1.out hn4)
              have HK4 := Lib.hid (HK1.out.next hn4)
              have hw4 := below_next hwx hn4
              have hz4 : W.heap.size + 1 < w4.heap.size := by have := hn4.size; omega
              have hbz4 : bb < w4.heap.size := by have := hn4.size; omega
              have htz4 : tb < w4.heap.size := by have := hn4.size; omega
              clear y0 y1 y2 tc3 sc sf hc
              go_wp2_with fail
              have hc : ∀ (a : Addr) (p : Regrown) (W : World), a.block < W.heap.size → (grow (redrawn W p.d) p.os).cell? a = W.cell? a := fun a p W h => (below_regrown W p.d p.os).cell h
              refine region_tail 12 (by kernel_rfl) (by kernel_rfl) ?_
              simp only [List.take_succ_cons, List.take_zero, List.drop_succ_cons, List.drop_zero]
              repeat (go_big_quiet_step (first | (go_at_call 79; exact Calls.regrown_of (isI_ (l05Bits_ f o t (by omega) (by omega) (by omega) _) (congrArg Int.ofNat HLB.out)))))
              refine wpQuiet_nil ?_
              intro w5 hw5'
              obtain ⟨p5, hp5⟩ := hw5'
              have hb5 := of_rg hp5
              clear hp5 p5 hc
              have hS5 := own_next HS4.out hb5
              have hw5 := below_next hw4 hb5
              have hK5 := HK4.out.next hb5
              obtain ⟨z5, _, u5, v5⟩ := own_atB hS5 HQL.out
              have hz5 : W.heap.size + 1 < w5.heap.size := by have := hb5.size; omega
              have HS5 := Lib.hid (own_setB hS5 Q true)
              have HK5 := Lib.hid (hK5.setCell (a := ⟨W.heap.size + 1, Q, none⟩) (show W.heap.size + 1 < W2.heap.size by omega) (.bool true))
              clear hS5 hK5
              go_wp2
              go_roundw
              case rel => exact ⟨i + 1, by omega, by go_num, by rw [HY.out]; exact HS5.out, HK5.out, hw5.setCell (by simp) _⟩
              case measure => simp [intOf]; omega
            · rw [hd] at H0
              have HY := Lib.hid (show rowM false (ls.take (i + 1)) x a = si by rw [HRT.out, stepM_no hd])
              clear hd
              go_wp2_with fail
              refine wp_region_quiet_below (by kernel_rfl) (by kernel_rfl) ?_
              repeat (go_big_quiet_step (fail))
              refine wpQuiet_nil ?_
              intro w3 hw3
              obtain ⟨p3, hp3⟩ := hw3
              have hb3 := of_rg hp3
              clear hp3 p3
              have hn3 : Below wr.heap.size wr w3 := hb3
              have y0 := (hb3.cell (p := ⟨bb, off + i * 3, none⟩) hbz).trans x0
              have y1 := (hb3.cell (p := ⟨bb, off + i * 3 + 1, none⟩) hbz).trans x1
              have y2 := (hb3.cell (p := ⟨bb, off + i * 3 + 2, none⟩) hbz).trans x2
              have tc3 := (hb3.cell (p := ⟨tb, toff + k, none⟩) htb).trans tcell
              have hbz3 : bb < w3.heap.size := by have := hb3.size; omega
              have htz3 : tb < w3.heap.size := by have := hb3.size; omega
              clear x0 x1 x2 tcell
              go_wp2_with fail
              refine wp_region_quiet_below (by kernel_rfl) (by kernel_rfl) ?_
              repeat (go_big_quiet_step (first | (go_at_call 79; exact Calls.regrown_of (isI_ (l05Bits_ f o t (by omega) (by omega) (by omega) _) (congrArg Int.ofNat HLB.out)))))
              refine wpQuiet_nil ?_
              intro w4 hw4
              obtain ⟨p4, hp4⟩ := hw4
              have hb4 := of_rg hp4
              clear hp4 p4
              have hn4 : Below wr.heap.size wr w4 := below_next hb3 hb4
              have yy0 := (hb4.cell (p := ⟨bb, off + i * 3, none⟩) hbz3).trans y0
              have yy1 := (hb4.cell (p := ⟨bb, off + i * 3 + 1, none⟩) hbz3).trans y1
              have yy2 := (hb4.cell (p := ⟨bb, off + i * 3 + 2, none⟩) hbz3).trans y2
              have tc4 := (hb4.cell (p := ⟨tb, toff + k, none⟩) htz3).trans tc3
              have HS4 := Lib.hid (own_next HS1.out hn4)
              have HK4 := Lib.hid (HK1.out.next hn4)
              have hw4 := below_next hwx hn4
              have hz4 : W.heap.size + 1 < w4.heap.size := by have := hn4.size; omega
              have hbz4 : bb < w4.heap.size := by have := hn4.size; omega
              have htz4 : tb < w4.heap.size := by have := hn4.size; omega
              clear y0 y1 y2 tc3 sc sf hc
              go_wp2
              go_roundw
              case rel => exact ⟨i + 1, by omega, by go_num, by rw [HY.out]; exact HS4.out, HK4.out, hw4⟩
              case measure => simp [intOf]; omega
          · have e : i = ls.length := by omega
            subst e
            have ho2 := HS1.out
            rw [List.take_length] at ho2
            rw [← HNX.out] at ho2
            have HO2 := Lib.hid ho2
            clear ho2 hkx
            go_wp2
            go_roundw
            case rel => exact ⟨k + 1, by omega, by go_num, HO2.out, HK1.out, hwx⟩
            case measure => simp [intOf]; omega
      · have e : k = ps.length := by omega
        subst e
        rw [List.take_length] at ownS
        have hrd := rd_of_own ownS
        have HCN := Lib.hid (colM_len false ls N ps)
        have HR : Hid (nextL false ls N ps = trues (colM false ls N ps) (colM false ls N ps).length) := Lib.hid (by rw [HCN.out]; rfl)
        generalize colM false ls N ps = a at ownS hrd HCN HR ⊢
        have hal : a.length ≤ 65536 := by rw [HCN.out]; exact hN1
        have HRD := Lib.hid hrd
        have hwz := hw.size
        clear ownS hkp hrd
        go_wp2_with fail
        refine (l14ListN_ a N _ N HCN.out hal _ HRD.out).mono ?_
        rintro e w5 ⟨A5, c5, rfl, own5, hb5⟩
        rw [← HR.out] at own5 ⊢
        have HO5 := Lib.hid (own_base own5 hwz)
        clear own5
        go_wp2
        go_ret
        exact ⟨_, _, rfl, HO5.out, below_next hw hb5⟩
  | true =>
    go_enter Try.func94, Try.ntmps94
    go_wp2_with (first | (at_make; refine wpList_make_full _ rfl (.tmp 17) (.tmp 17) 64 rfl (W.heap.size + 1) 4 j0 _ 1 Try.underlying64 hj0 jz0 jz1 .i64 .i64 _ _ N rfl rfl hsh hsh (by rw [jz2]; omega) (by unfold maxLen; omega) (by simp) ?_; intro W2 hown hg; have hb2 : Below (W.heap.size + 1) (W.alloc (.cells #[.int .i64 w, .int .i64 h, .int .i64 s] 25)) W2 := (Below.refl _ _).grown hg (by simp) (by simp); rw [made_bools] at hown; rw [show (W.alloc (.cells #[.int .i64 w, .int .i64 h, .int .i64 s] 25)).heap.size = W.heap.size + 1 by simp] at hown; have hy2 : W.heap.size + 1 < W2.heap.size := (hown.lt _ rfl).2; have c0 : W2.cell? ⟨W.heap.size, 0, none⟩ = some (.int .i64 w) := (by rw [hb2.cell (p := ⟨W.heap.size, 0, none⟩) (by simp)]; simp [go_sem]); have c1 : W2.cell? ⟨W.heap.size, 1, none⟩ = some (.int .i64 h) := (by rw [hb2.cell (p := ⟨W.heap.size, 1, none⟩) (by simp)]; simp [go_sem]); have c2 : W2.cell? ⟨W.heap.size, 2, none⟩ = some (.int .i64 s) := (by rw [hb2.cell (p := ⟨W.heap.size, 2, none⟩) (by simp)]; simp [go_sem])))
    refine (sLinesOfL_ ⟨w, h, s⟩ _).mono ?_
    rintro e W3 ⟨A1, k1, rfl, rd1, hb3, hlo⟩
    rw [HL.out] at rd1 ⊢
    have hown3 := own_next hown hb3
    have hW2 : Below W.heap.size W W2 := ((Below.refl _ _).alloc (Nat.le_refl _) _).trans (hb2.mono (Nat.le_succ _))
    have hW3 := below_next hW2 hb3
    have hy3 : W.heap.size + 1 < W3.heap.size := by have := hb3.size; omega
    have h23 := hb3.size
    have HS0 := Lib.hid hown3
    have HK0 := Lib.hid (KeepLn.refl W2.heap.size W3)
    clear c0 c1 c2 hg hown hb2 hown3
    go_wp2_with fail
    go_loopw [9] (fun kv wr => ∃ (k : Nat), k ≤ ps.length ∧ kv = .int .i64 k ∧ wr.ownsRow (W.heap.size + 1) 4 1 (.slice (some ⟨W.heap.size + 1, 0, none⟩) N N) N (bools (colM true ls N (ps.take k))) ∧ KeepLn W2.heap.size W3 wr ∧ Below W.heap.size W wr) (fun kv _ => ps.length - (intOf kv).toNat)
    case atStart => exact ⟨0, Nat.zero_le _, rfl, HS0.out, HK0.out, hW3⟩
    case round =>
      obtain ⟨k, hk, rfl, ownS, hkp, hw⟩ := hrel
      have HKP := Lib.hid hkp
      by_cases hlt : k < ps.length
      · have hx : ps[k]? = some ps[k] := List.getElem?_eq_getElem hlt
        have xl := HPS.out _ (List.getElem_mem hlt)
        generalize ps[k] = x at hx xl
        have HXX := Lib.hid hx
        have HNX := Lib.hid (show colM true ls N (ps.take (k + 1)) = rowM true ls x (colM true ls N (ps.take k)) from fold_take hx)
        have HCL := Lib.hid (colM_len true ls N (ps.take k))
        generalize colM true ls N (ps.take k) = a at ownS HNX HCL ⊢
        have HO := Lib.hid ownS
        have k0' : (0 : Int) ≤ (k : Int) := by omega
        have k1' : (k : Int) < (ps.length : Int) := by omega
        have x63 : B63 x := by unfold B63; omega
        clear hx ownS hkp
        go_wp2_with fail
        go_loopw [10] (fun iv wx => ∃ (i : Nat), i ≤ ls.length ∧ iv = .int .i64 i ∧ wx.ownsRow (W.heap.size + 1) 4 1 (.slice (some ⟨W.heap.size + 1, 0, none⟩) N N) N (bools (rowM true (ls.take i) x a)) ∧ KeepLn W2.heap.size W3 wx ∧ Below W.heap.size W wx) (fun iv _ => ls.length - (intOf iv).toNat)
        case atStart => exact ⟨0, Nat.zero_le _, rfl, HO.out, HKP.out, hw⟩
        case round =>
          obtain ⟨i, hi0, rfl, ownS, hkx, hwx⟩ := hrel
          have HS1 := Lib.hid ownS
          have HK1 := Lib.hid hkx
          have hszx := hwx.size
          clear ownS
          by_cases hil : i < ls.length
          · obtain ⟨bb, off, l, rfl, hbl, hxl, x0', x1', x2'⟩ := rd1.line hil
            have hbb' : W2.heap.size ≤ bb := hlo _ rfl
            have x0 := (hkx.2 bb (off + i * 3) hbb' hbl).trans x0'
            have x1 := (hkx.2 bb (off + i * 3 + 1) hbb' hbl).trans x1'
            have x2 := (hkx.2 bb (off + i * 3 + 2) hbb' hbl).trans x2'
            obtain ⟨f, o, t, rfl, f1, o1, t1, hft, hot, hfo⟩ := HLS.out l (List.mem_of_getElem? hxl)
            have hQ := HST.out _ (List.mem_of_getElem? hxl) x xl
            have HRT := Lib.hid (show rowM true (ls.take (i + 1)) x a = stepM true x (rowM true (ls.take i) x a) ⟨f, o, t⟩ from fold_take hxl)
            obtain ⟨tb, toff, rfl, htb0, tcell⟩ := rd_nat (rdP.below hwx) HXX.out
            have htb : tb < wr.heap.size := by omega
            have i0' : (0 : Int) ≤ (i : Int) := by omega
            have i1' : (i : Int) < (ls.length : Int) := by omega
            have hbz : bb < wr.heap.size := by have := hkx.1; omega
            generalize hri : rowM true (ls.take i) x a = si at HS1 HRT ⊢
            have HRI := Lib.hid hri
            obtain ⟨bq, hbq, sc, sf⟩ := own_atB HS1.out hQ
            have hzs : W.heap.size + 1 < wr.heap.size := (HS1.out.lt (W.heap.size + 1) rfl).2
            have pf := i64_pow f (by omega)
            have po := i64_pow o (by omega)
            have pt := i64_pow t (by omega)
            have l63 : B63 (lbits ⟨f, o, t⟩) := by simp only [lbits, Int.toNat_natCast]; exact b63_or (b63_or (b63_pow2 (by omega)) (b63_pow2 (by omega))) (b63_pow2 (by omega))
            have a1 := i64_and x (lbits ⟨f, o, t⟩) x63 l63
            have a2 := i64_or (pow2 f) (pow2 o) (b63_pow2 (by omega)) (b63_pow2 (by omega))
            have a3 := i64_xor x (lbits ⟨f, o, t⟩) x63 l63
            rw [show x ^^^ lbits ⟨f, o, t⟩ = flip x ⟨f, o, t⟩ from rfl] at a3
            have H0 : (((x &&& lbits ⟨f, o, t⟩ : Nat) : Int) == ((pow2 t : Nat) : Int)) = canD true x ⟨f, o, t⟩ := by
              show _ = canU x ⟨f, o, t⟩
              rw [canU_and hft hot, Bool.eq_iff_iff]; simp; omega
            generalize hLB : lbits ⟨f, o, t⟩ = LB at a1 a3 H0
            generalize hQe : flip x ⟨f, o, t⟩ = Q at hQ sc sf a3
            have HLB := Lib.hid hLB
            have HQE := Lib.hid hQe
            have HQL := Lib.hid hQ
            have q0 : (0 : Int) ≤ (Q : Int) := by omega
            have q1 : (Q : Int) < (N : Int) := by omega
            clear hxl hft hot hfo hri hbq hLB hQe l63 x0' x1' x2' hkx
            have hc : ∀ (a : Addr) (p : Regrown) (W : World), a.block < W.heap.size → (grow (redrawn W p.d) p.os).cell? a = W.cell? a := fun a p W h => (below_regrown W p.d p.os).cell h
            rcases Bool.eq_false_or_eq_true (canD true x ⟨f, o, t⟩) with hd | hd
            · rw [hd] at H0
              have HY := Lib.hid (show rowM true (ls.take (i + 1)) x a = si.set Q true by rw [HRT.out, stepM_yes hd, HQE.out])
              clear hd
              go_wp2_with fail
              refine wp_region_quiet_below (by kernel_rfl) (by kernel_rfl) ?_
              repeat (go_big_quiet_step (fail))
              refine wpQuiet_nil ?_
              intro w3 hw3
              obtain ⟨p3, hp3⟩ := hw3
              have hb3 := of_rg hp3
              clear hp3 p3
              have hn3 : Below wr.heap.size wr w3 := hb3
              have y0 := (hb3.cell (p := ⟨bb, off + i * 3, none⟩) hbz).trans x0
              have y1 := (hb3.cell (p := ⟨bb, off + i * 3 + 1, none⟩) hbz).trans x1
              have y2 := (hb3.cell (p := ⟨bb, off + i * 3 + 2, none⟩) hbz).trans x2
              have tc3 := (hb3.cell (p := ⟨tb, toff + k, none⟩) htb).trans tcell
              have hbz3 : bb < w3.heap.size := by have := hb3.size; omega
              have htz3 : tb < w3.heap.size := by have := hb3.size; omega
              clear x0 x1 x2 tcell
              go_wp2_with fail
              refine wp_region_quiet_below (by kernel_rfl) (by kernel_rfl) ?_
              repeat (go_big_quiet_step (first | (go_at_call 79; exact Calls.regrown_of (isI_ (l05Bits_ f o t (by omega) (by omega) (by omega) _) (congrArg Int.ofNat HLB.out)))))
              refine wpQuiet_nil ?_
              intro w4 hw4
              obtain ⟨p4, hp4⟩ := hw4
              have hb4 := of_rg hp4
              clear hp4 p4
              have hn4 : Below wr.heap.size wr w4 := below_next hb3 hb4
              have yy0 := (hb4.cell (p := ⟨bb, off + i * 3, none⟩) hbz3).trans y0
              have yy1 := (hb4.cell (p := ⟨bb, off + i * 3 + 1, none⟩) hbz3).trans y1
              have yy2 := (hb4.cell (p := ⟨bb, off + i * 3 + 2, none⟩) hbz3).trans y2
              have tc4 := (hb4.cell (p := ⟨tb, toff + k, none⟩) htz3).trans tc3
              have HS4 := Lib.hid (own_next HS1.out hn4)
              have HK4 := Lib.hid (HK1.out.next hn4)
              have hw4 := below_next hwx hn4
              have hz4 : W.heap.size + 1 < w4.heap.size := by have := hn4.size; omega
              have hbz4 : bb < w4.heap.size := by have := hn4.size; omega
              have htz4 : tb < w4.heap.size := by have := hn4.size; omega
              clear y0 y1 y2 tc3 sc sf hc
              go_wp2_with fail
              have hc : ∀ (a : Addr) (p : Regrown) (W : World), a.block < W.heap.size → (grow (redrawn W p.d) p.os).cell? a = W.cell? a := fun a p W h => (below_regrown W p.d p.os).cell h
              refine region_tail 12 (by kernel_rfl) (by kernel_rfl) ?_
              simp only [List.take_succ_cons, List.take_zero, List.drop_succ_cons, List.drop_zero]
              repeat (go_big_quiet_step (first | (go_at_call 79; exact Calls.regrown_of (isI_ (l05Bits_ f o t (by omega) (by omega) (by omega) _) (congrArg Int.ofNat HLB.out)))))
              refine wpQuiet_nil ?_
              intro w5 hw5'
              obtain ⟨p5, hp5⟩ := hw5'
              have hb5 := of_rg hp5
              clear hp5 p5 hc
              have hS5 := own_next HS4.out hb5
              have hw5 := below_next hw4 hb5
              have hK5 := HK4.out.next hb5
              obtain ⟨z5, _, u5, v5⟩ := own_atB hS5 HQL.out
              have hz5 : W.heap.size + 1 < w5.heap.size := by have := hb5.size; omega
              have HS5 := Lib.hid (own_setB hS5 Q true)
              have HK5 := Lib.hid (hK5.setCell (a := ⟨W.heap.size + 1, Q, none⟩) (show W.heap.size + 1 < W2.heap.size by omega) (.bool true))
              clear hS5 hK5
              go_wp2
              go_roundw
              case rel => exact ⟨i + 1, by omega, by go_num, by rw [HY.out]; exact HS5.out, HK5.out, hw5.setCell (by simp) _⟩
              case measure => simp [intOf]; omega
            · rw [hd] at H0
              have HY := Lib.hid (show rowM true (ls.take (i + 1)) x a = si by rw [HRT.out, stepM_no hd])
              clear hd
              go_wp2_with fail
              refine wp_region_quiet_below (by kernel_rfl) (by kernel_rfl) ?_
              repeat (go_big_quiet_step (fail))
              refine wpQuiet_nil ?_
              intro w3 hw3
              obtain ⟨p3, hp3⟩ := hw3
              have hb3 := of_rg hp3
              clear hp3 p3
              have hn3 : Below wr.heap.size wr w3 := hb3
              have y0 := (hb3.cell (p := ⟨bb, off + i * 3, none⟩) hbz).trans x0
              have y1 := (hb3.cell (p := ⟨bb, off + i * 3 + 1, none⟩) hbz).trans x1
              have y2 := (hb3.cell (p := ⟨bb, off + i * 3 + 2, none⟩) hbz).trans x2
              have tc3 := (hb3.cell (p := ⟨tb, toff + k, none⟩) htb).trans tcell
              have hbz3 : bb < w3.heap.size := by have := hb3.size; omega
              have htz3 : tb < w3.heap.size := by have := hb3.size; omega
              clear x0 x1 x2 tcell
              go_wp2_with fail
              refine wp_region_quiet_below (by kernel_rfl) (by kernel_rfl) ?_
              repeat (go_big_quiet_step (first | (go_at_call 79; exact Calls.regrown_of (isI_ (l05Bits_ f o t (by omega) (by omega) (by omega) _) (congrArg Int.ofNat HLB.out)))))
              refine wpQuiet_nil ?_
              intro w4 hw4
              obtain ⟨p4, hp4⟩ := hw4
              have hb4 := of_rg hp4
              clear hp4 p4
              have hn4 : Below wr.heap.size wr w4 := below_next hb3 hb4
              have yy0 := (hb4.cell (p := ⟨bb, off + i * 3, none⟩) hbz3).trans y0
              have yy1 := (hb4.cell (p := ⟨bb, off + i * 3 + 1, none⟩) hbz3).trans y1
              have yy2 := (hb4.cell (p := ⟨bb, off + i * 3 + 2, none⟩) hbz3).trans y2
              have tc4 := (hb4.cell (p := ⟨tb, toff + k, none⟩) htz3).trans tc3
              have HS4 := Lib.hid (own_next HS1.out hn4)
              have HK4 := Lib.hid (HK1.out.next hn4)
              have hw4 := below_next hwx hn4
              have hz4 : W.heap.size + 1 < w4.heap.size := by have := hn4.size; omega
              have hbz4 : bb < w4.heap.size := by have := hn4.size; omega
              have htz4 : tb < w4.heap.size := by have := hn4.size; omega
              clear y0 y1 y2 tc3 sc sf hc
              go_wp2
              go_roundw
              case rel => exact ⟨i + 1, by omega, by go_num, by rw [HY.out]; exact HS4.out, HK4.out, hw4⟩
              case measure => simp [intOf]; omega
          · have e : i = ls.length := by omega
            subst e
            have ho2 := HS1.out
            rw [List.take_length] at ho2
            rw [← HNX.out] at ho2
            have HO2 := Lib.hid ho2
            clear ho2 hkx
            go_wp2
            go_roundw
            case rel => exact ⟨k + 1, by omega, by go_num, HO2.out, HK1.out, hwx⟩
            case measure => simp [intOf]; omega
      · have e : k = ps.length := by omega
        subst e
        rw [List.take_length] at ownS
        have hrd := rd_of_own ownS
        have HCN := Lib.hid (colM_len true ls N ps)
        have HR : Hid (nextL true ls N ps = trues (colM true ls N ps) (colM true ls N ps).length) := Lib.hid (by rw [HCN.out]; rfl)
        generalize colM true ls N ps = a at ownS hrd HCN HR ⊢
        have hal : a.length ≤ 65536 := by rw [HCN.out]; exact hN1
        have HRD := Lib.hid hrd
        have hwz := hw.size
        clear ownS hkp hrd
        go_wp2_with fail
        refine (l14ListN_ a N _ N HCN.out hal _ HRD.out).mono ?_
        rintro e w5 ⟨A5, c5, rfl, own5, hb5⟩
        rw [← HR.out] at own5 ⊢
        have HO5 := Lib.hid (own_base own5 hwz)
        clear own5
        go_wp2
        go_ret
        exact ⟨_, _, rfl, HO5.out, below_next hw hb5⟩
end Go.Proofs.Ytbljoknlphaimaa

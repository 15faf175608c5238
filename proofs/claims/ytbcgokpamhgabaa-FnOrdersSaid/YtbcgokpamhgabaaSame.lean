/- The contract of AreSameUpToOrder. -/
import Derived.Test.YtbcgokpamhgabaaChecked
import Derived.Test.YtbcgokpamhgabaaMem
import Derived.Tactics
import Derived.Tactics2
import Derived.WalkKit
import Derived.WalkSpells
import Derived.WalkLawsBesides
import Derived.Deep.QuietTactic
import Derived.BigQuiet
import Derived.BigGuardPart
import Derived.Lib.QuietBelow
import Derived.OwnWalk
import Derived.KernelRfl
import Derived.Test.YtbcgokpamhgabaaOrdB
import Derived.Test.YtbcgokpamhgabaaNorm
import Derived.Test.YtbcgokpamhgabaaSameP
import Derived.Test.YtbcgokpamhgabaaStruct
import Derived.Deep.RegionHeld3
set_option linter.unusedVariables false
set_option maxRecDepth 100000
namespace Go.Proofs.Ytbcgokpamhgabaa
open Go.RowKit Go.Sort

set_option maxHeartbeats 1000000 in
theorem iAreSame_ (ls ms : List Ln) (A A' : Option Addr) (c c' : Nat) (w : World) (hr : Rd w w.heap.size A (flat ls)) (hr' : Rd w w.heap.size A' (flat ms)) (hm : ls.length ≤ 9223372036854775807) (hm' : ms.length ≤ 9223372036854775807) :
    Calls Try.prog 27 #[.slice A ls.length c, .slice A' ms.length c'] w fun e w' => e = .returned (.bool (sameB ls ms)) ∧ Below w.heap.size w w' := by
  have hN := nfL_bound ls
  have hN' := nfL_bound ms
  rcases Bool.eq_false_or_eq_true (nfB ls) with hB | hB
  · rcases Bool.eq_false_or_eq_true (nfB ms) with hC | hC
    · have HB := Lib.hid (sameB_nf hB hC)
      go_enter Try.func27, Try.ntmps27
      go_wp2_with fail
      refine (iNormalForm_ ls A c w hr hm).mono ?_
      rintro e w1 ⟨A1, c1, rfl, own1, hb1⟩
      have H1 := Lib.hid (rd_of_own own1)
      go_wp2_with fail
      refine (iNormalForm_ ms A' c' w1 (hr'.next hb1) hm').mono ?_
      rintro e w2 ⟨A2, c2, rfl, own2, hb2⟩
      have H2 := Lib.hid (rd_of_own own2)
      have H1' := Lib.hid (H1.out.next hb2)
      go_wp2_with fail
      refine (iSameJumps_ (nfL ls) (nfL ms) A1 A2 c1 c2 _ H1'.out H2.out (by omega) (by omega)).mono ?_
      rintro e w3 ⟨rfl, hb3⟩
      go_wp2
      go_ret
      exact ⟨ret_bool HB.out, below_next (below_next hb1 hb2) hb3⟩
    · have HB := Lib.hid (sameB_nfc (a := ls) hC)
      go_enter Try.func27, Try.ntmps27
      go_wp2_with fail
      refine (iNormalForm_ ls A c w hr hm).mono ?_
      rintro e w1 ⟨A1, c1, rfl, own1, hb1⟩
      go_wp2_with fail
      refine (iNormalForm_ ms A' c' w1 (hr'.next hb1) hm').mono ?_
      rintro e w2 ⟨A2, c2, rfl, own2, hb2⟩
      go_wp2
      go_ret
      exact ⟨ret_bool HB.out.symm, below_next hb1 hb2⟩
  · have HB := Lib.hid (sameB_nfa (c := ms) hB)
    go_enter Try.func27, Try.ntmps27
    go_wp2_with fail
    refine (iNormalForm_ ls A c w hr hm).mono ?_
    rintro e w1 ⟨A1, c1, rfl, own1, hb1⟩
    go_wp2_with fail
    refine (iNormalForm_ ms A' c' w1 (hr'.next hb1) hm').mono ?_
    rintro e w2 ⟨A2, c2, rfl, own2, hb2⟩
    go_wp2
    go_ret
    exact ⟨ret_bool HB.out.symm, below_next hb1 hb2⟩
set_option maxHeartbeats 4000000 in
theorem sAreSame_ (ls ms : List Ln) (A A' : Option Addr) (c c' : Nat) (w : World) (hr : Rd w w.heap.size A (flat ls)) (hr' : Rd w w.heap.size A' (flat ms)) (hm : ls.length ≤ 9223372036854775807) (hm' : ms.length ≤ 9223372036854775807) :
    Calls Try.prog 21 #[.slice A ls.length c, .slice A' ms.length c'] w fun e w' => e = .returned (.bool (sameB ls ms)) ∧ Below w.heap.size w w' := by
  by_cases h1 : 10 < ls.length
  · have HB := Lib.hid (sameB_no (a := ls) (c := ms) (by omega))
    go_enter Try.func21, Try.ntmps21
    go_wp2
    all_goals (go_ret; exact ⟨ret_bool HB.out.symm, Below.refl _ _⟩)
  · by_cases h2 : 10 < ms.length
    · have HB := Lib.hid (sameB_no (a := ls) (c := ms) (by omega))
      go_enter Try.func21, Try.ntmps21
      go_wp2
      all_goals (go_ret; exact ⟨ret_bool HB.out.symm, Below.refl _ _⟩)
    · by_cases h3 : ls.length = ms.length
      · have HB := Lib.hid (sameB_yes (show ls.length ≤ 10 by omega) (show ms.length ≤ 10 by omega) h3)
        have l1 : ls.length ≤ 10 := by omega
        have l2 : ms.length ≤ 10 := by omega
        have hl := flat_length ls
        have HLn := Lib.hid hl
        have H3 := Lib.hid h3
        obtain ⟨i0, hi, hz0, hz1, hz2⟩ := info_parts infoLine
        generalize hT : linB ls ms = T at HB
        cases A with
        | none =>
          have hnil := rd_none hr
          have h0 : ls = [] := by
            cases ls with
            | nil => rfl
            | cons x xs => simp [flat_cons] at hnil
          subst h0
          have h0' : ms = [] := List.eq_nil_of_length_eq_zero (by simpa using h3.symm)
          subst h0'
          have hTt : T = true := by rw [← hT]; rfl
          subst hTt
          have hbase : Below w.heap.size w (w.alloc (.cells #[] 34)) := (Below.refl _ _).alloc (Nat.le_refl _) _
          clear hT hl h3
          go_enter Try.func21, Try.ntmps21
          go_wp2_with fail
          go_loopw [6] (fun kv wr => kv = .int .i64 0 ∧ wr = w.alloc (.cells #[] 34)) (fun _ _ => 0)
          case atStart => exact ⟨rfl, rfl⟩
          case round =>
            obtain ⟨rfl, rfl⟩ := hrel
            go_wp2
            go_ret
            exact ⟨ret_bool HB.out.symm, hbase⟩
        | some ad =>
          have HT := Lib.hid hT
          have hlit := Lib.hid (World.ownsRow_lit (base := w.heap.size) (e := 34) (size := 3) w #[] 0 (Nat.le_refl _) (by simp [maxLen]) rfl)
          have hnw0 := Lib.hid (rd_news (hr.laid (.cells #[] 34)))
          have h3' : ((ls.length : Int) == (ms.length : Int)) = true := by simp [h3]
          clear hr hT hl h3
          go_enter Try.func21, Try.ntmps21
          go_wp2_with (first
            | (at_builtin; refine wpList_append_own_at _ rfl (.tmp 25) (.tmp 26) 24 rfl w.heap.size 34 i0 _ 3 24 Try.underlying24 hi hz0 hz1 hz2 rfl (by decide) _ _ _ rfl hlit.out ad ls.length c (flat ls) rfl HLn.out hnw0.out (flat_one ls) (by unfold maxLen; omega) (by omega) (by simp) ?_; intro v1 w1 own1 hg1 hnil1 hat1))
          obtain ⟨A1, c1, hv⟩ := own_value own1
          subst hv
          simp only [Nat.zero_add, List.nil_append] at own1 ⊢
          have hb1 : Below w.heap.size w w1 := ((Below.refl _ _).alloc (Nat.le_refl _) _).grown hg1 (by simp) (fun q (hq : Value.ownBlock (.slice (some ⟨w.heap.size, 0, none⟩) 0 0) = some q) => by have : w.heap.size = q := Option.some.inj hq; omega)
          clear hg1 hnil1 hat1
          go_wp2_with fail
          go_loopw [5, 6] (fun rv kv wr => ∃ (rs : List Ln) (R : Option Addr) (cr k : Nat), rv = .slice R rs.length cr ∧ kv = .int .i64 k ∧ rs.length + k = ms.length ∧ linB rs (ms.drop k) = T ∧
              wr.ownsRow w.heap.size 34 3 (.slice R rs.length cr) rs.length (flat rs) ∧ Below w.heap.size w wr) (fun rv _ _ => lenV rv)
          case atStart => exact ⟨ls, A1, c1, 0, rfl, rfl, H3.out, HT.out, own1, hb1⟩
          case round =>
            obtain ⟨rs, R, cr, k, rfl, rfl, hlen, hlin, ownR, hb⟩ := hrel
            obtain ⟨wo, hwo⟩ : ∃ wo : World, wo = wr := ⟨_, rfl⟩
            subst hwo
            have hR10 : rs.length ≤ 10 := by omega
            clear own1 hb1
            by_cases hk : k < ms.length
            · have hpos : 0 < rs.length := by omega
              have hx : ms[k]? = some ms[k] := List.getElem?_eq_getElem hk
              generalize hxx : ms[k] = x at hx
              have HX' := Lib.hid hx
              rw [drop_one hx] at hlin
              have HLIN := Lib.hid hlin
              have rdR := rd_of_own ownR
              have rdM : Rd wo wo.heap.size A' (flat ms) := (hr'.below hb).more hb.size
              obtain ⟨g, off, R0, hRA, hgl, _, _, _, _⟩ := rdR.line hpos
              subst hRA
              obtain ⟨g', off', M0, hMA, hgl', _, _, _, _⟩ := rdM.line hk
              subst hMA
              have k0 : (0 : Int) ≤ (k : Int) := by omega
              have k1 : (k : Int) < (ms.length : Int) := by omega
              have hwr0 : IntKind.i64.wrap ((rs.length : Int) - 1) = (rs.length : Int) - 1 := IntWalk.i64_in _ (by omega)
              clear hx hxx hlin
              go_wp2_with fail
              go_loopw [7, 8] (fun bv iv wi => ∃ d : Nat, d ≤ rs.length ∧ iv = .int .i64 ((rs.length : Int) - 1 - d) ∧ bv = .int .i64 (atZ x rs d) ∧ Below wo.heap.size wo wi) (fun _ iv _ => (intOf iv + 1).toNat)
              case atStart => exact ⟨0, Nat.zero_le _, by go_num, rfl, Below.refl _ _⟩
              case round =>
                obtain ⟨d, hd, rfl, rfl, hbi⟩ := hrel
                by_cases hdl : d < rs.length
                · obtain ⟨p, hp⟩ : ∃ p : Nat, p + (d + 1) = rs.length := ⟨rs.length - (d + 1), by omega⟩
                  rw [show (rs.length : Int) - 1 - (d : Int) = (p : Int) by omega]
                  obtain ⟨b1, o1, x', hA1, hl1, hx', x0, x1, x2⟩ := (rdM.next hbi).line hk
                  injection hA1 with hA1
                  injection hA1 with e1 e2
                  subst e1 e2
                  obtain rfl : x = x' := by have := HX'.out; rw [hx'] at this; injection this with this; exact this.symm
                  obtain ⟨b2, o2, y, hA2, hl2, hy, y0, y1, y2⟩ := (rdR.next hbi).line (show p < rs.length by omega)
                  injection hA2 with hA2
                  injection hA2 with e1 e2
                  subst e1 e2
                  have p0 : (0 : Int) ≤ (p : Int) := by omega
                  have p1 : (p : Int) < (rs.length : Int) := by omega
                  have hwp : IntKind.i64.wrap ((p : Int) - 1) = (p : Int) - 1 := IntWalk.i64_in _ (by omega)
                  have heql := fun (a b : Ln) (w : World) => line_eql a b w
                  have hc : ∀ (a : Addr) (p : Regrown) (W : World), a.block < W.heap.size → (grow (redrawn W p.d) p.os).cell? a = W.cell? a := fun a p W h => (below_regrown W p.d p.os).cell h
                  have HYES := Lib.hid (@at_yes x y rs p d hp hy)
                  have HNO := Lib.hid (@at_no x y rs p d hp hy)
                  have hend : (rs.length : Int) - 1 - ((d + 1 : Nat) : Int) = (p : Int) - 1 := by omega
                  have HEND := Lib.hid hend
                  clear hx' hy hend
                  rcases Bool.eq_false_or_eq_true (eqL y x) with he | he
                  · have HX := Lib.hid (HYES.out he)
                    go_wp2_with fail
                    refine wp_region_quiet_below (by kernel_rfl) (by kernel_rfl) ?_
                    repeat (go_big_quiet_step (fail))
                    refine wpQuiet_nil ?_
                    intro w3 hw3
                    obtain ⟨p3, hp3⟩ := hw3
                    have hb3 := of_rg hp3
                    clear hp3 p3 hc
                    have hw3 : Below wo.heap.size wo w3 := hbi.trans (hb3.mono hbi.size)
                    go_wp2
                    go_roundw
                    case rel => exact ⟨d + 1, by omega, by rw [HEND.out], by rw [HX.out], hw3⟩
                    case measure => simp [intOf]
                  · have HX := Lib.hid (HNO.out he)
                    go_wp2_with fail
                    refine wp_region_quiet_below (by kernel_rfl) (by kernel_rfl) ?_
                    repeat (go_big_quiet_step (fail))
                    refine wpQuiet_nil ?_
                    intro w3 hw3
                    obtain ⟨p3, hp3⟩ := hw3
                    have hb3 := of_rg hp3
                    clear hp3 p3 hc
                    have hw3 : Below wo.heap.size wo w3 := hbi.trans (hb3.mono hbi.size)
                    go_wp2
                    go_roundw
                    case rel => exact ⟨d + 1, by omega, by rw [HEND.out], by rw [HX.out], hw3⟩
                    case measure => simp [intOf]
                · have e : d = rs.length := by omega
                  subst e
                  rw [show (rs.length : Int) - 1 - (rs.length : Int) = -1 by omega]
                  rcases at_end x rs with ⟨hA, hN⟩ | ⟨q, hA, hq, hQ⟩
                  · rw [hA]
                    have HF := Lib.hid (HB.out.trans (HLIN.out.symm.trans (linB_none hN)))
                    go_wp2
                    go_ret
                    exact ⟨ret_bool HF.out.symm, hb.trans (hbi.mono hb.size)⟩
                  · rw [hA]
                    have HQ := Lib.hid hQ
                    have HQX := Lib.hid hq
                    have hqn : q < rs.length := (List.getElem?_eq_some_iff.1 hq).1
                    have q0 : (0 : Int) ≤ (q : Int) := by omega
                    have q1 : (q : Int) < (rs.length : Int) := by omega
                    have hmn : decide ((q : Int) < 0) = false := decide_eq_false (by omega)
                    clear hA hQ hq hqn
                    obtain ⟨wi, hwi⟩ : ∃ wi : World, wi = wr := ⟨_, rfl⟩
                    subst hwi
                    go_wp2_with fail
                    go_loopw [9] (fun iv wj => ∃ i : Nat, i ≤ q ∧ iv = .int .i64 i ∧ anyD x (rs.take i) = false ∧ Below wo.heap.size wo wj) (fun iv _ => q - (intOf iv).toNat)
                    case atStart => exact ⟨0, Nat.zero_le _, rfl, any_zero _ _, hbi⟩
                    case round =>
                      obtain ⟨i, hiq, rfl, hfree, hbj⟩ := hrel
                      by_cases hi' : i < q
                      · have hqn : q < rs.length := by omega
                        obtain ⟨b1, o1, x', hA1, hl1, hx', x0, x1, x2⟩ := (rdR.next hbj).line hqn
                        injection hA1 with hA1
                        injection hA1 with e1 e2
                        subst e1 e2
                        obtain rfl : x = x' := by have := HQX.out; rw [hx'] at this; injection this with this; exact this.symm
                        obtain ⟨b2, o2, z, hA2, hl2, hz, z0, z1, z2⟩ := (rdR.next hbj).line (show i < rs.length by omega)
                        injection hA2 with hA2
                        injection hA2 with e1 e2
                        subst e1 e2
                        have HN := Lib.hid (any_next (l := x) hz)
                        have HZ := Lib.hid (show (rs.take q)[i]? = some z by rw [List.getElem?_take, if_pos hi', hz])
                        have HFR := Lib.hid hfree
                        have i0' : (0 : Int) ≤ (i : Int) := by omega
                        have i1' : (i : Int) < (rs.length : Int) := by omega
                        have i2' : (i : Int) < (q : Int) := by omega
                        have hc : ∀ (a : Addr) (p : Regrown) (W : World), a.block < W.heap.size → (grow (redrawn W p.d) p.os).cell? a = W.cell? a := fun a p W h => (below_regrown W p.d p.os).cell h
                        clear hx' hz hfree hqn
                        rcases Bool.eq_false_or_eq_true (disturbB z x) with hdz | hdz
                        · have HF := Lib.hid (HB.out.trans (HLIN.out.symm.trans (linB_none (HQ.out (anyD_yes HZ.out (by rw [disturb_comm]; exact hdz))))))
                          go_wp2_with fail
                          refine wp_region_quiet_below (by kernel_rfl) (by kernel_rfl) ?_
                          repeat (go_big_quiet_step (first | (go_at_call 18; exact Calls.regrown_of (is_ (sDoDisturb_ z x _) hdz))))
                          refine wpQuiet_nil ?_
                          intro w3 hw3
                          obtain ⟨p3, hp3⟩ := hw3
                          have hb3 := of_rg hp3
                          clear hp3 p3 hc
                          have hw3 : Below wo.heap.size wo w3 := hbj.trans (hb3.mono hbj.size)
                          go_wp2
                          go_ret
                          exact ⟨ret_bool HF.out.symm, hb.trans (hw3.mono hb.size)⟩
                        · have HX : Hid (anyD x (rs.take (i + 1)) = false) := Lib.hid (by rw [HN.out, HFR.out, disturb_comm, hdz]; rfl)
                          go_wp2_with fail
                          refine wp_region_quiet_below (by kernel_rfl) (by kernel_rfl) ?_
                          repeat (go_big_quiet_step (first | (go_at_call 18; exact Calls.regrown_of (is_ (sDoDisturb_ z x _) hdz))))
                          refine wpQuiet_nil ?_
                          intro w3 hw3
                          obtain ⟨p3, hp3⟩ := hw3
                          have hb3 := of_rg hp3
                          clear hp3 p3 hc
                          have hw3 : Below wo.heap.size wo w3 := hbj.trans (hb3.mono hbj.size)
                          go_wp2
                          go_roundw
                          case rel => exact ⟨i + 1, by omega, by go_num, HX.out, hw3⟩
                          case measure => simp [intOf]; omega
                      · have e : i = q := by omega
                        subst e
                        obtain ⟨w3, hw3e⟩ : ∃ w3 : World, w3 = wr := ⟨_, rfl⟩
                        subst hw3e
                        have hEXT := Lib.hid (linB_some (w := ms.drop (k + 1)) (ext_of_free HQX.out hfree))
                        obtain ⟨m, hmi⟩ : ∃ m : Nat, m = i := ⟨_, rfl⟩
                        subst hmi
                        have hmn' : m < rs.length := by omega
                        have m2 : (0 : Int) ≤ (m : Int) + 1 := by omega
                        have m3 : (m : Int) + 1 ≤ (rs.length : Int) := by omega
                        have hcap : rs.length ≤ cr := own_cap ownR
                        have m4 : (rs.length : Int) ≤ (cr : Int) := by omega
                        have m5 : (m : Int) ≤ (cr : Int) := by omega
                        have m6 : (m : Int) + 1 ≤ (cr : Int) := by omega
                        have hw1 : IntKind.i64.wrap ((m : Int) + 1) = (m : Int) + 1 := IntWalk.i64_in _ (by omega)
                        have hw3 : Below w.heap.size w w3 := hb.trans (hbj.mono hb.size)
                        have ownR3 := own_next ownR hbj
                        have rd3 := rd_of_own ownR3
                        have hB3 := Lib.hid (rd3.back (m + 1))
                        have lt3 : g < w3.heap.size := (ownR3.lt g rfl).2
                        have hite : ∀ a b : Addr, (if cr = m + 1 then some a else some b) = some (if cr = m + 1 then a else b) := by intro a b; split <;> rfl
                        have hn1 := Lib.hid (show ∀ j u, (flat (rs.take m))[j]? = some u → (w3.drew.alloc (.cells #[] 34)).cell? (Addr.add ⟨g, off, none⟩ j) = some u from rd_news ((show Rd w3.drew w3.drew.heap.size (some ⟨g, off, none⟩) (flat (rs.take m)) from rd3.front m).laid _))
                        have hnw := Lib.hid (show ∀ w4 : World, (w3.drew.alloc (.cells #[] 34)).grownBy w4 (Value.ownBlock (.slice (some ⟨w3.heap.size, 0, none⟩) 0 0)) → ∀ j u, (flat (rs.drop (m + 1)))[j]? = some u → w4.cell? (Addr.add (if cr = m + 1 then ⟨g, off, none⟩ else ⟨g, off + (m + 1) * 3, none⟩) j) = some u by
                          intro w4 hg4 j u hu
                          split
                          · rw [List.drop_eq_nil_of_le (by omega)] at hu
                            simp [flat_nil] at hu
                          · exact rd_news (Rd.grown (B := w3.heap.size) (w := w3.drew.alloc (.cells #[] 34)) ((show Rd w3.drew w3.drew.heap.size _ _ from hB3.out).below ((Below.refl _ _).alloc (Nat.le_refl _) _)) hg4 (by simp) (fun q hq => by have : w3.heap.size = q := Option.some.inj hq; omega)) j u hu)
                        have hlit3 := Lib.hid (World.ownsRow_lit (base := w3.heap.size) (e := 34) (size := 3) w3.drew #[] 0 (Nat.le_refl _) (by simp [maxLen]) rfl)
                        clear ownR ownR3 hfree rd3 hmn'
                        go_wp2_with fail
                        go_region_held3 (fun _ => True) (trivial) (first
                          | (refine step_append_own _ (by rfl) (.tmp 67) (.tmp 70) 24 (by rfl) w3.heap.size 34 i0 _ 3 24 Try.underlying24 hi hz0 hz1 hz2 rfl (by decide) _ _ _ (by rfl) hlit3.out ⟨g, off, none⟩ m _ (flat (rs.take m)) (by rfl) (by rw [flat_length]; simp; omega) hn1.out (flat_one _) (by unfold maxLen; omega) (by omega) (by simp) ?_; intro v4 w4 own4 hg4 hat4)
                          | (refine step_append_own _ (by rfl) (.tmp 71) (.tmp 75) 24 (by rfl) w3.heap.size 34 i0 _ 3 24 Try.underlying24 hi hz0 hz1 hz2 rfl (by decide) _ _ _ (by rfl) own4 (if cr = m + 1 then ⟨g, off, none⟩ else ⟨g, off + (m + 1) * 3, none⟩) (rs.length - (m + 1)) _ (flat (rs.drop (m + 1))) (by rfl) (by rw [flat_length]; simp) (hnw.out _ hg4) (flat_one _) (by unfold maxLen; omega) (by omega) (by have := hg4.size; simp at this; omega) ?_; intro v5 w5 own5 hg5 hat5))
                        obtain ⟨A5, c5, hv5⟩ := own_value own5
                        subst hv5
                        have hr4 : ∀ q, Value.ownBlock (.slice (some ⟨w3.heap.size, 0, none⟩) 0 0) = some q → w3.heap.size ≤ q := fun q hq => by have : w3.heap.size = q := Option.some.inj hq; omega
                        have hb4' : Below w3.heap.size w3 w4 := (((Below.refl w3.heap.size w3).drew).alloc (show w3.heap.size ≤ w3.drew.heap.size from Nat.le_refl _) _).grown hg4 (by simp) hr4
                        have h4 : w3.heap.size ≤ w4.heap.size := hb4'.size
                        have hsz3 : w.heap.size ≤ w3.heap.size := hw3.size
                        have hw5 : Below w.heap.size w w5 := (hw3.trans (hb4'.mono hsz3)).grown hg5 (by omega) (fun q hq => by have := (own4.lt q hq).1; omega)
                        have hlr : (rs.take m ++ rs.drop (m + 1)).length = m + (rs.length - (m + 1)) := by simp; omega
                        simp only [Nat.zero_add, List.nil_append] at own5 ⊢
                        have own5' := Lib.hid (own_base own5 hsz3)
                        have HLEN := Lib.hid (show m + (rs.length - (m + 1)) + (k + 1) = ms.length by omega)
                        clear own4 own5 hat5 hat4 hg5 hg4 hnw hite hn1 hlit3 hr4
                        go_wp2
                        go_roundw
                        case rel => exact ⟨rs.take m ++ rs.drop (m + 1), A5, c5, k + 1, by rw [hlr], by go_num, by rw [hlr]; exact HLEN.out, by rw [← HLIN.out, hEXT.out, List.eraseIdx_eq_take_drop_succ], by rw [hlr, flat_append]; exact own5'.out, hw5⟩
                        case measure => simp [lenV]; omega
            · have e : rs = [] := List.eq_nil_of_length_eq_zero (by omega)
              subst e
              have e : k = ms.length := by omega
              subst e
              have hTt : T = true := by rw [← hlin]; simp [linB]
              subst hTt
              go_wp2
              go_ret
              exact ⟨ret_bool HB.out.symm, hb⟩
      · have HB := Lib.hid (sameB_no (a := ls) (c := ms) (by omega))
        have h3' : ((ls.length : Int) == (ms.length : Int)) = false := by simp; omega
        go_enter Try.func21, Try.ntmps21
        go_wp2
        all_goals (go_ret; exact ⟨ret_bool HB.out.symm, Below.refl _ _⟩)
end Go.Proofs.Ytbcgokpamhgabaa

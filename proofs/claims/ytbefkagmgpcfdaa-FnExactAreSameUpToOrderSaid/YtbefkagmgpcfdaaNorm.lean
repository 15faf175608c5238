/- The contract of NormalForm. -/
import Derived.Test.YtbefkagmgpcfdaaChecked
import Derived.Test.YtbefkagmgpcfdaaMem
import Derived.Tactics
import Derived.Tactics2
import Derived.WalkKit
import Derived.WalkSpells
import Derived.WalkLawsBesides
import Derived.Deep.QuietTactic
import Derived.BigQuiet
import Derived.BigGuardPart
import Derived.Lib.QuietBelow
import Derived.OwnWalk
import Derived.KernelRfl
import Derived.Test.YtbefkagmgpcfdaaOrdB
import Derived.Test.YtbefkagmgpcfdaaMust
import Derived.Test.YtbefkagmgpcfdaaSwap
import Derived.Test.YtbefkagmgpcfdaaNormP
import Derived.Test.YtbefkagmgpcfdaaStep
import Derived.Test.YtbefkagmgpcfdaaTail
import Derived.Deep.RegionHeld3
set_option linter.unusedVariables false
namespace Go.Proofs.Ytbefkagmgpcfdaa
open Go.RowKit Go.Sort

def lenV : Value → Nat
  | .slice _ n _ => n
  | _ => 0

set_option maxHeartbeats 2000000 in
theorem iNormalForm_ (ls : List Ln) (A : Option Addr) (c : Nat) (w : World) (hr : Rd w w.heap.size A (flat ls)) (hm : ls.length ≤ 9223372036854775807) :
    Calls Try.prog 16 #[.slice A ls.length c] w (GivesSliceB w 34 3 (nfL ls).length (flat (nfL ls)) (nfB ls)) := by
  by_cases h10 : 10 < ls.length
  · have HL := Lib.hid (nfL_no h10)
    have HB := Lib.hid (nfB_no h10)
    go_enter Try.func16, Try.ntmps16
    go_wp2
    go_ret2
    exact ⟨none, 0, by simp [HB.out, HL.out], by rw [HL.out]; exact World.ownsRow_nil w w.heap.size _ 3, Below.refl _ _⟩
  · have h10' : ls.length ≤ 10 := by omega
    have HL := Lib.hid (nfL_yes (show ls.length ≤ 10 by omega))
    have HB := Lib.hid (nfB_yes (show ls.length ≤ 10 by omega))
    obtain ⟨i0, hi, hz0, hz1, hz2⟩ := info_parts infoLine
    go_enter Try.func16, Try.ntmps16
    go_wp2_with fail
    refine (copyJumps_ ls A c w hr (by omega)).mono ?_
    rintro e w1 ⟨A1, c1, rfl, own1, hb1⟩
    go_wp2_with fail
    go_loopw [4, 5] (fun rv fv wr => ∃ (rs fs : List Ln) (R F : Option Addr) (cr cf : Nat), rv = .slice R rs.length cr ∧ fv = .slice F fs.length cf ∧ fs ++ nf rs.length rs = nf ls.length ls ∧ fs.length + rs.length = ls.length ∧
        wr.ownsRow w.heap.size 34 3 (.slice R rs.length cr) rs.length (flat rs) ∧ wr.ownsRow w.heap.size 34 3 (.slice F fs.length cf) fs.length (flat fs) ∧
        (∀ g, Value.ownBlock (.slice R rs.length cr) = some g → Value.ownBlock (.slice F fs.length cf) ≠ some g) ∧ Below w.heap.size w wr) (fun rv _ _ => lenV rv)
    case atStart =>
      have own2 := own_next own1 (Below.refl w1.heap.size w1)
      obtain ⟨hlo, hhi⟩ : (∀ g, Value.ownBlock (.slice A1 ls.length c1) = some g → w.heap.size ≤ g ∧ g < w1.heap.size) ∧ True := ⟨fun g hg => own1.lt g hg, trivial⟩
      exact ⟨ls, [], A1, some ⟨w1.heap.size, 0, none⟩, c1, 0, rfl, rfl, rfl, by simp, own1.alloc _, World.ownsRow_lit w1 #[] 0 (by exact hb1.size) (by simp [maxLen]) rfl,
        (fun g hg => by have := (hlo g hg).2; simp only [Value.ownBlock, ne_eq, Option.some.injEq]; omega), hb1.alloc hb1.size _⟩
    case round =>
      obtain ⟨rs, fs, R, F, cr, cf, rfl, rfl, hnf, hlen, ownR, ownF, hap, hb⟩ := hrel
      obtain ⟨wo, hwo⟩ : ∃ wo : World, wo = wr := ⟨_, rfl⟩
      subst hwo
      have hR10 : rs.length ≤ 10 := by omega
      have hF10 : fs.length ≤ 10 := by omega
      by_cases hpos : 0 < rs.length
      · have HNF := Lib.hid hnf
        have HAP := Lib.hid hap
        have HBW := Lib.hid hb
        have rdR := rd_of_own ownR
        obtain ⟨g, off, R0, hRA, hgl, _, _, _, _⟩ := rdR.line hpos
        subst hRA
        clear hnf hap own1 hb1
        go_wp2_with fail
        go_loopw [6, 20] (fun bv iv wi => ∃ k : Nat, k ≤ rs.length ∧ iv = .int .i64 k ∧ bv = .int .i64 (bestK rs k : Nat) ∧ Below wo.heap.size wo wi) (fun _ iv _ => rs.length - (intOf iv).toNat)
        case atStart => exact ⟨0, Nat.zero_le _, rfl, rfl, Below.refl _ _⟩
        case round =>
          obtain ⟨k, hk, rfl, rfl, hbi⟩ := hrel
          by_cases hlt : k < rs.length
          · have rdI : Rd wr wr.heap.size (some ⟨g, off, none⟩) (flat rs) := rdR.next hbi
            have hbk : bestK rs k < rs.length := by have := best_le rs k; omega
            obtain ⟨b1, o1, x, hA1, hl1, hx, x0, x1, x2⟩ := rdI.line hlt
            injection hA1 with hA1
            injection hA1 with e1 e2
            subst e1 e2
            obtain ⟨b2, o2, y, hA2, hl2, hy, y0, y1, y2⟩ := rdI.line hbk
            injection hA2 with hA2
            injection hA2 with e1 e2
            subst e1 e2
            generalize hbe : bestK rs k = m at hbk hy y0 y1 y2
            have hx' := Lib.hid hx
            have hy' := Lib.hid hy
            have k0 : (0 : Int) ≤ (k : Int) := by omega
            have k1 : (k : Int) < (rs.length : Int) := by omega
            have m0 : (0 : Int) ≤ (m : Int) := by omega
            have m1 : (m : Int) < (rs.length : Int) := by omega
            have hcap : rs.length ≤ cr := own_cap ownR
            have hcap' : (k : Int) ≤ (cr : Int) := by omega
            have hF := Lib.hid (rdI.front k)
            have HO := Lib.hid ownR
            have HOF := Lib.hid ownF
            have hc : ∀ (a : Addr) (p : Regrown) (W : World), a.block < W.heap.size → (grow (redrawn W p.d) p.os).cell? a = W.cell? a := fun a p W h => (below_regrown W p.d p.os).cell h
            clear hx hy rdI ownR ownF rdR
            rcases Bool.eq_false_or_eq_true (anyD x (rs.take k)) with hd | hd
            · have HX := Lib.hid ((best_bound hx'.out hd).trans hbe)
              go_wp2_with fail
              refine wp_region_quiet_below (by kernel_rfl) (by kernel_rfl) ?_
              repeat (go_big_quiet_step (first | (go_at_call 51; exact Calls.regrown_of (is_ (disturbsOne_ x (rs.take k) _ k _ _ (by simp; omega) ((hF.out.laid _).next (below_regrown _ _ _)) (by omega)) hd))))
              refine wpQuiet_nil ?_
              intro w3 hw3
              obtain ⟨p3, hp3⟩ := hw3
              have hb3 := of_rg hp3
              clear hp3 p3 hc
              have hw3 : Below wo.heap.size wo w3 := below_step (hbi.alloc hbi.size _) hb3 (by have := hbi.size; simp; omega)
              go_wp2
              go_roundw
              case rel => exact ⟨k + 1, by omega, by go_num, by rw [HX.out], hw3⟩
              case measure => simp [intOf]; omega
            · rcases Bool.eq_false_or_eq_true (decide (cmpL x y < 0)) with hq | hq
              · have HX := Lib.hid (best_less hx'.out (by rw [hbe]; exact hy'.out) hd hq)
                go_wp2_with fail
                refine wp_region_quiet_below (by kernel_rfl) (by kernel_rfl) ?_
                repeat (go_big_quiet_step (first | (go_at_call 51; exact Calls.regrown_of (is_ (disturbsOne_ x (rs.take k) _ k _ _ (by simp; omega) ((hF.out.laid _).next (below_regrown _ _ _)) (by omega)) hd)) | (go_at_call 24; exact Calls.regrown_of (iCompareJumps_ x y _))))
                refine wpQuiet_nil ?_
                intro w3 hw3
                obtain ⟨p3, hp3⟩ := hw3
                have hb3 := of_rg hp3
                clear hp3 p3 hc
                have hw3 : Below wo.heap.size wo w3 := below_step (hbi.alloc hbi.size _) hb3 (by have := hbi.size; simp; omega)
                go_wp2
                go_roundw
                case rel => exact ⟨k + 1, by omega, by go_num, by rw [HX.out], hw3⟩
                case measure => simp [intOf]; omega
              · have HX := Lib.hid ((best_same hx'.out (by rw [hbe]; exact hy'.out) hd hq).trans hbe)
                go_wp2_with fail
                refine wp_region_quiet_below (by kernel_rfl) (by kernel_rfl) ?_
                repeat (go_big_quiet_step (first | (go_at_call 51; exact Calls.regrown_of (is_ (disturbsOne_ x (rs.take k) _ k _ _ (by simp; omega) ((hF.out.laid _).next (below_regrown _ _ _)) (by omega)) hd)) | (go_at_call 24; exact Calls.regrown_of (iCompareJumps_ x y _))))
                refine wpQuiet_nil ?_
                intro w3 hw3
                obtain ⟨p3, hp3⟩ := hw3
                have hb3 := of_rg hp3
                clear hp3 p3 hc
                have hw3 : Below wo.heap.size wo w3 := below_step (hbi.alloc hbi.size _) hb3 (by have := hbi.size; simp; omega)
                go_wp2
                go_roundw
                case rel => exact ⟨k + 1, by omega, by go_num, by rw [HX.out], hw3⟩
                case measure => simp [intOf]; omega
          · have e : k = rs.length := by omega
            subst e
            have hbk : bestK rs rs.length < rs.length := best_lt rs _ hpos
            generalize hbe : bestK rs rs.length = m at hbk
            obtain ⟨b2, o2, y, hA2, hl2, hy, y0, y1, y2⟩ := (rdR.next hbi).line hbk
            injection hA2 with hA2
            injection hA2 with e1 e2
            subst e1 e2
            have HY := Lib.hid hy
            have HS := Lib.hid (nf_step hbe hy)
            have m0 : (0 : Int) ≤ (m : Int) := by omega
            have m1 : (m : Int) < (rs.length : Int) := by omega
            have m2 : (0 : Int) ≤ (m : Int) + 1 := by omega
            have m3 : (m : Int) + 1 ≤ (rs.length : Int) := by omega
            have hcap : rs.length ≤ cr := own_cap ownR
            have m4 : (rs.length : Int) ≤ (cr : Int) := by omega
            have m5 : (m : Int) ≤ (cr : Int) := by omega
            have m6 : (m : Int) + 1 ≤ (cr : Int) := by omega
            have hw1 : IntKind.i64.wrap ((m : Int) + 1) = (m : Int) + 1 := IntWalk.i64_in _ (by omega)
            have ownR1 := own_next ownR hbi
            have ownF1 := own_next ownF hbi
            clear hy
            go_wp2_with (first
              | (at_builtin; refine wpList_append_own_at _ rfl (.tmp 42) (.tmp 47) 24 rfl w.heap.size 34 i0 _ 3 24 Try.underlying24 hi hz0 hz1 hz2 rfl (by decide) _ _ _ rfl (ownF1.alloc _) ⟨wr.heap.size, 0, none⟩ 1 1 [.int .i64 y.f, .int .i64 y.o, .int .i64 y.t] rfl rfl (World.news_of_block (cs := #[.int .i64 y.f, .int .i64 y.o, .int .i64 y.t]) (t := 34) (fr := (0, 0)) (heap_alloc_new wr _)) (by intro u hu; simp at hu; rcases hu with rfl | rfl | rfl <;> rfl) (by unfold maxLen; omega) (by omega) (by have := hb.size; have := hbi.size; simp; omega) ?_; intro v' w3 hown3 hgrow hnil hat))
            have hb1 : Below w.heap.size w wr := hb.trans (hbi.mono hb.size)
            have hsz : w.heap.size ≤ wr.heap.size := hb1.size
            have ownR3 : w3.ownsRow w.heap.size 34 3 (.slice (some ⟨g, off, none⟩) rs.length cr) rs.length (flat rs) := (ownR1.alloc _).kept hgrow (.inr (fun e => HAP.out g rfl e.symm))
            have hw3 : Below w.heap.size w w3 := ((hb1.alloc hsz _).grown hgrow (by simp; omega) (fun g hg => (ownF1.lt g hg).1))
            have rd3 := rd_of_own ownR3
            have hF3 := Lib.hid (rd3.front m)
            have hB3 := Lib.hid (rd3.back (m + 1))
            have lt3 : g < w3.heap.size := (ownR3.lt g rfl).2
            have ltF : ∀ q, v'.ownBlock = some q → w.heap.size ≤ q ∧ q < w3.heap.size := fun q hq => hown3.lt q hq
            obtain ⟨F', cf', hv⟩ := own_value hown3
            subst hv
            have HF3 := Lib.hid hown3
            clear ownR1 ownF1 ownR ownF hown3 hnil hgrow hat rd3
            have hite : ∀ a b : Addr, (if cr = m + 1 then some a else some b) = some (if cr = m + 1 then a else b) := by intro a b; split <;> rfl
            have hnw := Lib.hid (show ∀ w4 : World, Below w3.drew.heap.size w3.drew w4 → ∀ j u, (flat (rs.drop (m + 1)))[j]? = some u → w4.cell? (Addr.add (if cr = m + 1 then ⟨g, off, none⟩ else ⟨g, off + (m + 1) * 3, none⟩) j) = some u by
              intro w4 hb4 j u hu
              split
              · rw [List.drop_eq_nil_of_le (by omega)] at hu
                simp [flat_nil] at hu
              · exact rd_news (Rd.below (w := w3.drew) (B := w3.drew.heap.size) hB3.out hb4) j u hu)
            go_wp2_with fail
            go_region_held3 (fun _ => True) (trivial) (first
              | (go_at_call 50; refine (copyJumps_n (rs.take m) _ _ m _ (by simp; omega) (show Rd w3.drew w3.drew.heap.size _ _ from hF3.out) (by omega)).mono ?_; rintro e w4 ⟨A4, c4, rfl, own4, hb4⟩; dsimp only)
              | (refine step_append_own _ (by rfl) (.tmp 52) (.tmp 56) 24 (by rfl) w3.heap.size 34 i0 _ 3 24 Try.underlying24 hi hz0 hz1 hz2 rfl (by decide) _ _ _ (by rfl) own4 (if cr = m + 1 then ⟨g, off, none⟩ else ⟨g, off + (m + 1) * 3, none⟩) (rs.length - (m + 1)) _ (flat (rs.drop (m + 1))) (by rfl) (by rw [flat_length]; simp) (hnw.out _ hb4) (flat_one _) (by unfold maxLen; omega) (by omega) (by exact hb4.size) ?_; intro v5 w5 own5 hg5 hat5))
            obtain ⟨A5, c5, hv5⟩ := own_value own5
            subst hv5
            have hb4' : Below w3.heap.size w3 w4 := (Below.refl w3.heap.size w3).drew.trans (show Below w3.heap.size w3.drew w4 from hb4)
            have own4' : w4.ownsRow w3.heap.size 34 3 (.slice A4 m c4) m (flat (rs.take m)) := own4
            have h4 : w3.heap.size ≤ w4.heap.size := hb4'.size
            have hsz3 : w.heap.size ≤ w3.heap.size := hw3.size
            have ownF5 := Lib.hid (own_kept_low (S := w3.heap.size) (own_next HF3.out hb4') hg5 (fun q hq => (ltF q hq).2) (fun q hq => (own4'.lt q hq).1))
            have hw5 : Below w.heap.size w w5 := (hw3.trans (hb4'.mono hsz3)).grown hg5 (by omega) (fun q hq => by have := (own4'.lt q hq).1; omega)
            have hlr : (rs.take m ++ rs.drop (m + 1)).length = m + (rs.length - (m + 1)) := by simp; omega
            have hsep : ∀ q, Value.ownBlock (.slice A5 (m + (rs.length - (m + 1))) c5) = some q → Value.ownBlock (.slice F' (fs.length + 1) cf') ≠ some q := fun q hq h => by
              have a1 := (own5.lt q hq).1
              have a2 := (ltF q h).2
              omega
            have HP := Lib.hid hsep
            have own5' := Lib.hid (own_base own5 hsz3)
            clear own4 own4' own5 hsep hat5 hg5 hb4 hnw hite
            go_wp2
            go_roundw
            case rel => exact ⟨rs.take m ++ rs.drop (m + 1), fs ++ [y], A5, F', c5, cf', by rw [hlr], by simp, by rw [← HNF.out, HS.out]; simp, by rw [hlr, List.length_append]; simp; omega, by rw [hlr, flat_append]; exact own5'.out, by rw [List.length_append, flat_append]; exact ownF5.out, by rw [hlr, List.length_append]; exact HP.out, hw5⟩
            case measure => simp [lenV]; omega
      · have e : rs = [] := List.eq_nil_of_length_eq_zero (by omega)
        subst e
        have hfs : fs = nf ls.length ls := by rw [← hnf, nf_nil]; simp
        subst hfs
        clear hnf
        go_wp2
        go_ret2
        exact ⟨F, cf, by simp [HL.out, HB.out], by rw [HL.out]; exact ownF, hb⟩
set_option maxHeartbeats 4000000 in
theorem sNormalForm_ (ls : List Ln) (A : Option Addr) (c : Nat) (w : World) (hr : Rd w w.heap.size A (flat ls)) (hm : ls.length ≤ 9223372036854775807) :
    Calls Try.prog 44 #[.slice A ls.length c] w (GivesSliceB w 34 3 (nfL ls).length (flat (nfL ls)) (nfB ls)) := by
  by_cases h10 : 10 < ls.length
  · have HL := Lib.hid (nfL_no h10)
    have HB := Lib.hid (nfB_no h10)
    go_enter Try.func44, Try.ntmps44
    go_wp2
    go_ret2
    exact ⟨some ⟨w.heap.size, 0, none⟩, 0, by simp [HB.out, HL.out], by rw [HL.out]; exact World.ownsRow_lit w #[] 0 (Nat.le_refl _) (by simp [maxLen]) rfl, (Below.refl _ _).alloc (Nat.le_refl _) _⟩
  · have h10' : ls.length ≤ 10 := by omega
    have HL := Lib.hid (nfL_yes h10')
    have HB := Lib.hid (nfB_yes h10')
    have hl := flat_length ls
    have HLn := Lib.hid hl
    clear hl
    obtain ⟨i0, hi, hz0, hz1, hz2⟩ := info_parts infoLine
    cases A with
    | none =>
      have hnil := rd_none hr
      have h0 : ls = [] := by
        cases ls with
        | nil => rfl
        | cons x xs => simp [flat_cons] at hnil
      subst h0
      have hbase : Below w.heap.size w ((w.alloc (.cells #[] 34)).alloc (.cells #[] 34)) := ((Below.refl _ _).alloc (Nat.le_refl _) _).alloc (by simp) _
      have hown : ((w.alloc (.cells #[] 34)).alloc (.cells #[] 34)).ownsRow w.heap.size 34 3 (.slice (some ⟨w.heap.size, 0, none⟩) 0 0) 0 [] := (World.ownsRow_lit (base := w.heap.size) (e := 34) (size := 3) w #[] 0 (Nat.le_refl _) (by simp [maxLen]) rfl).alloc _
      go_enter Try.func44, Try.ntmps44
      go_wp2_with fail
      go_loopw [4, 5] (fun ov lv wr => ov = .slice (some ⟨w.heap.size, 0, none⟩) 0 0 ∧ (∃ B, lv = .slice B 0 0) ∧ wr = (w.alloc (.cells #[] 34)).alloc (.cells #[] 34)) (fun _ _ _ => 0)
      case atStart => exact ⟨rfl, ⟨_, rfl⟩, rfl⟩
      case round =>
        obtain ⟨rfl, ⟨B, rfl⟩, rfl⟩ := hrel
        go_wp2
        go_ret2
        exact ⟨some ⟨w.heap.size, 0, none⟩, 0, by simp [HB.out, HL.out, nf], by rw [HL.out]; exact hown, hbase⟩
    | some ad =>
      have hlit : Hid (((w.alloc (.cells #[] 34)).alloc (.cells #[] 34)).ownsRow (w.heap.size + 1) 34 3 (.slice (some ⟨w.heap.size + 1, 0, none⟩) 0 0) 0 []) := Lib.hid (by
        have h := World.ownsRow_lit (base := w.heap.size + 1) (e := 34) (size := 3) (w.alloc (.cells #[] 34)) #[] 0 (by simp) (by simp [maxLen]) rfl
        simpa using h)
      have hnw0 := Lib.hid (rd_news ((hr.laid (.cells #[] 34)).laid (.cells #[] 34)))
      clear hr
      go_enter Try.func44, Try.ntmps44
      go_wp2_with (first
        | (at_builtin; refine wpList_append_own_at _ rfl (.tmp 15) (.tmp 16) 24 rfl (w.heap.size + 1) 34 i0 _ 3 24 Try.underlying24 hi hz0 hz1 hz2 rfl (by decide) _ 0 [] rfl (hlit.out) ad ls.length c (flat ls) rfl HLn.out hnw0.out (flat_one ls) (by unfold maxLen; omega) (by omega) (by simp) ?_; intro v1 w1 own1 hg1 hnil1 hat1))
      obtain ⟨A1, c1, hv⟩ := own_value own1
      subst hv
      simp only [Nat.zero_add, List.nil_append] at own1 ⊢
      have ownO : w1.ownsRow w.heap.size 34 3 (.slice (some ⟨w.heap.size, 0, none⟩) 0 0) 0 [] := own_kept_low (S := w.heap.size + 1) ((World.ownsRow_lit (base := w.heap.size) (e := 34) (size := 3) w #[] 0 (Nat.le_refl _) (by simp [maxLen]) rfl).alloc _) hg1 (fun q hq => by simp [Value.ownBlock] at hq; omega) (fun q (hq : Value.ownBlock (.slice (some ⟨w.heap.size + 1, 0, none⟩) 0 0) = some q) => by have : w.heap.size + 1 = q := Option.some.inj hq; omega)
      have hb1 : Below w.heap.size w w1 := (((Below.refl _ _).alloc (Nat.le_refl _) _).alloc (by simp) _).grown hg1 (by simp; omega) (fun q (hq : Value.ownBlock (.slice (some ⟨w.heap.size + 1, 0, none⟩) 0 0) = some q) => by have : w.heap.size + 1 = q := Option.some.inj hq; omega)
      have hlo : ∀ q, Value.ownBlock (.slice A1 ls.length c1) = some q → w.heap.size + 1 ≤ q := fun q hq => (own1.lt q hq).1
      have own1' := own_base own1 (Nat.le_succ w.heap.size)
      clear own1 hg1 hnil1 hat1
      go_wp2_with fail
      go_loopw [4, 5] (fun fv rv wr => ∃ (rs fs : List Ln) (R F : Option Addr) (cr cf : Nat), rv = .slice R rs.length cr ∧ fv = .slice F fs.length cf ∧ fs ++ nf rs.length rs = nf ls.length ls ∧ fs.length + rs.length = ls.length ∧
          wr.ownsRow w.heap.size 34 3 (.slice R rs.length cr) rs.length (flat rs) ∧ wr.ownsRow w.heap.size 34 3 (.slice F fs.length cf) fs.length (flat fs) ∧
          (∀ g, Value.ownBlock (.slice R rs.length cr) = some g → Value.ownBlock (.slice F fs.length cf) ≠ some g) ∧ Below w.heap.size w wr) (fun _ rv _ => lenV rv)
      case atStart =>
        exact ⟨ls, [], A1, some ⟨w.heap.size, 0, none⟩, c1, 0, rfl, rfl, rfl, by simp, own1', ownO, (fun g hg => by have := hlo g hg; simp only [Value.ownBlock, ne_eq, Option.some.injEq]; omega), hb1⟩
      case round =>
        obtain ⟨rs, fs, R, F, cr, cf, rfl, rfl, hnf, hlen, ownR, ownF, hap, hb⟩ := hrel
        obtain ⟨wo, hwo⟩ : ∃ wo : World, wo = wr := ⟨_, rfl⟩
        subst hwo
        have hR10 : rs.length ≤ 10 := by omega
        have hF10 : fs.length ≤ 10 := by omega
        by_cases hpos : 0 < rs.length
        · have HNF := Lib.hid hnf
          have HAP := Lib.hid hap
          have rdR := rd_of_own ownR
          obtain ⟨g, off, R0, hRA, hgl, _, _, _, _⟩ := rdR.line hpos
          subst hRA
          clear hnf hap own1' hb1 ownO hlo
          go_wp2_with fail
          go_loopw [6, 7] (fun bv kv wi => ∃ k : Nat, k ≤ rs.length ∧ kv = .int .i64 k ∧ bv = .int .i64 (bestZ rs k) ∧ Below wo.heap.size wo wi) (fun _ kv _ => rs.length - (intOf kv).toNat)
          case atStart => exact ⟨0, Nat.zero_le _, rfl, rfl, Below.refl _ _⟩
          case round =>
            obtain ⟨k, hk, rfl, rfl, hbi⟩ := hrel
            obtain ⟨wi, hwi⟩ : ∃ wi : World, wi = wr := ⟨_, rfl⟩
            subst hwi
            by_cases hlt : k < rs.length
            · have hx : rs[k]? = some rs[k] := List.getElem?_eq_getElem hlt
              generalize hxx : rs[k] = x at hx
              have HX' := Lib.hid hx
              have k0 : (0 : Int) ≤ (k : Int) := by omega
              have k1 : (k : Int) < (rs.length : Int) := by omega
              have HO := Lib.hid ownR
              have HOF := Lib.hid ownF
              clear hx hxx ownR ownF
              go_wp2_with fail
              go_loopw [8, 9] (fun ev iv wj => ∃ i : Nat, i ≤ k ∧ iv = .int .i64 i ∧ ev = .bool (!anyD x (rs.take i)) ∧ Below wo.heap.size wo wj) (fun _ iv _ => k - (intOf iv).toNat)
              case atStart => exact ⟨0, Nat.zero_le _, rfl, by rw [any_zero]; rfl, hbi⟩
              case round =>
                obtain ⟨i, hik, rfl, rfl, hbj⟩ := hrel
                have rdJ : Rd wr wr.heap.size (some ⟨g, off, none⟩) (flat rs) := rdR.next hbj
                obtain ⟨b1, o1, x', hA1, hl1, hx', x0, x1, x2⟩ := rdJ.line hlt
                injection hA1 with hA1
                injection hA1 with e1 e2
                subst e1 e2
                obtain rfl : x = x' := by have := HX'.out; rw [hx'] at this; injection this with this; exact this.symm
                have hc : ∀ (a : Addr) (p : Regrown) (W : World), a.block < W.heap.size → (grow (redrawn W p.d) p.os).cell? a = W.cell? a := fun a p W h => (below_regrown W p.d p.os).cell h
                by_cases hi' : i < k
                · obtain ⟨b2, o2, z, hA2, hl2, hz, z0, z1, z2⟩ := rdJ.line (show i < rs.length by omega)
                  injection hA2 with hA2
                  injection hA2 with e1 e2
                  subst e1 e2
                  have HN := Lib.hid (any_next (l := x) hz)
                  have i0' : (0 : Int) ≤ (i : Int) := by omega
                  have i1' : (i : Int) < (rs.length : Int) := by omega
                  have RJ := Lib.hid rdJ
                  clear hx' hz rdJ
                  rcases Bool.eq_false_or_eq_true (anyD x (rs.take i)) with hd | hd
                  · have HX : Hid (anyD x (rs.take (i + 1)) = true) := Lib.hid (by rw [HN.out, hd]; rfl)
                    simp only [hd]
                    go_wp2_with fail
                    refine wp_region_quiet_below (by kernel_rfl) (by kernel_rfl) ?_
                    repeat (go_big_quiet_step (fail))
                    refine wpQuiet_nil ?_
                    intro w3 hw3
                    obtain ⟨p3, hp3⟩ := hw3
                    have hb3 := of_rg hp3
                    clear hp3 p3 hc
                    have hw3 : Below wo.heap.size wo w3 := hbj.trans (hb3.mono hbj.size)
                    go_wp2
                    go_roundw
                    case rel => exact ⟨i + 1, by omega, by go_num, by rw [HX.out]; rfl, hw3⟩
                    case measure => simp [intOf]; omega
                  · simp only [hd]
                    rcases Bool.eq_false_or_eq_true (disturbB z x) with hdz | hdz
                    · have HX : Hid (anyD x (rs.take (i + 1)) = true) := Lib.hid (by rw [HN.out, hd, disturb_comm, hdz]; rfl)
                      go_wp2_with fail
                      refine wp_region_quiet_below (by kernel_rfl) (by kernel_rfl) ?_
                      repeat (go_big_quiet_step (first | (go_at_call 20; exact Calls.regrown_of (is_ (sDoDisturb_ z x _) hdz))))
                      refine wpQuiet_nil ?_
                      intro w3 hw3
                      obtain ⟨p3, hp3⟩ := hw3
                      have hb3 := of_rg hp3
                      clear hp3 p3 hc
                      have hw3 : Below wo.heap.size wo w3 := hbj.trans (hb3.mono hbj.size)
                      go_wp2
                      go_roundw
                      case rel => exact ⟨i + 1, by omega, by go_num, by rw [HX.out]; rfl, hw3⟩
                      case measure => simp [intOf]; omega
                    · have HX : Hid (anyD x (rs.take (i + 1)) = false) := Lib.hid (by rw [HN.out, hd, disturb_comm, hdz]; rfl)
                      go_wp2_with fail
                      refine wp_region_quiet_below (by kernel_rfl) (by kernel_rfl) ?_
                      repeat (go_big_quiet_step (first | (go_at_call 20; exact Calls.regrown_of (is_ (sDoDisturb_ z x _) hdz))))
                      refine wpQuiet_nil ?_
                      intro w3 hw3
                      obtain ⟨p3, hp3⟩ := hw3
                      have hb3 := of_rg hp3
                      clear hp3 p3 hc
                      have hw3 : Below wo.heap.size wo w3 := hbj.trans (hb3.mono hbj.size)
                      go_wp2
                      go_roundw
                      case rel => exact ⟨i + 1, by omega, by go_num, by rw [HX.out]; rfl, hw3⟩
                      case measure => simp [intOf]; omega
                · have e : i = k := by omega
                  subst e
                  clear hx'
                  rcases Bool.eq_false_or_eq_true (anyD x (rs.take i)) with hd | hd
                  · have HX := Lib.hid (bz_bound HX'.out hd)
                    simp only [hd]
                    go_wp2_with fail
                    refine wp_region_quiet_below (by kernel_rfl) (by kernel_rfl) ?_
                    repeat (go_big_quiet_step (fail))
                    refine wpQuiet_nil ?_
                    intro w3 hw3
                    obtain ⟨p3, hp3⟩ := hw3
                    have hb3 := of_rg hp3
                    clear hp3 p3 hc
                    have hw3 : Below wo.heap.size wo w3 := hbj.trans (hb3.mono hbj.size)
                    go_wp2
                    go_roundw
                    case rel => exact ⟨i + 1, by omega, by go_num, by rw [HX.out], hw3⟩
                    case measure => simp [intOf]; omega
                  · simp only [hd]
                    rcases Nat.eq_zero_or_pos i with hi0 | hi0
                    · subst hi0
                      have HX := Lib.hid (bz_first rs)
                      simp only [bestZ_zero]
                      go_wp2_with fail
                      refine wp_region_quiet_below (by kernel_rfl) (by kernel_rfl) ?_
                      repeat (go_big_quiet_step (fail))
                      refine wpQuiet_nil ?_
                      intro w3 hw3
                      obtain ⟨p3, hp3⟩ := hw3
                      have hb3 := of_rg hp3
                      clear hp3 p3 hc
                      have hw3 : Below wo.heap.size wo w3 := hbj.trans (hb3.mono hbj.size)
                      go_wp2
                      go_roundw
                      case rel => exact ⟨0 + 1, by omega, by go_num, by rw [HX.out], hw3⟩
                      case measure => simp [intOf]; omega
                    · have hbk : bestK rs i < rs.length := by have := best_lt rs i hi0; omega
                      rw [bestZ_pos hi0]
                      have hbl := Lib.hid (bz_less rs i)
                      have hbs := Lib.hid (bz_same rs i)
                      generalize hbe : bestK rs i = m at hbk hbl hbs
                      clear hbe
                      obtain ⟨b2, o2, y, hA2, hl2, hy, y0, y1, y2⟩ := rdJ.line hbk
                      injection hA2 with hA2
                      injection hA2 with e1 e2
                      subst e1 e2
                      have m0 : (0 : Int) ≤ (m : Int) := by omega
                      have m1 : (m : Int) < (rs.length : Int) := by omega
                      have hmn : decide ((m : Int) < 0) = false := decide_eq_false (by omega)
                      have RJ := Lib.hid rdJ
                      have HY := Lib.hid hy
                      clear hy rdJ
                      rcases Bool.eq_false_or_eq_true (decide (cmpL x y < 0)) with hq | hq
                      · have HX := Lib.hid (hbl.out _ _ HX'.out HY.out hd hq)
                        go_wp2_with fail
                        refine wp_region_quiet_below (by kernel_rfl) (by kernel_rfl) ?_
                        repeat (go_big_quiet_step (first | (go_at_call 60; exact Calls.regrown_of (sCompareJumps_ x y _))))
                        refine wpQuiet_nil ?_
                        intro w3 hw3
                        obtain ⟨p3, hp3⟩ := hw3
                        have hb3 := of_rg hp3
                        clear hp3 p3 hc
                        have hw3 : Below wo.heap.size wo w3 := hbj.trans (hb3.mono hbj.size)
                        go_wp2
                        go_roundw
                        case rel => exact ⟨i + 1, by omega, by go_num, by rw [HX.out], hw3⟩
                        case measure => simp [intOf]; omega
                      · have HX := Lib.hid (hbs.out _ _ HX'.out HY.out hd hq)
                        go_wp2_with fail
                        refine wp_region_quiet_below (by kernel_rfl) (by kernel_rfl) ?_
                        repeat (go_big_quiet_step (first | (go_at_call 60; exact Calls.regrown_of (sCompareJumps_ x y _))))
                        refine wpQuiet_nil ?_
                        intro w3 hw3
                        obtain ⟨p3, hp3⟩ := hw3
                        have hb3 := of_rg hp3
                        clear hp3 p3 hc
                        have hw3 : Below wo.heap.size wo w3 := hbj.trans (hb3.mono hbj.size)
                        go_wp2
                        go_roundw
                        case rel => exact ⟨i + 1, by omega, by go_num, by rw [HX.out], hw3⟩
                        case measure => simp [intOf]; omega
            · have e : k = rs.length := by omega
              subst e
              rw [bestZ_pos hpos]
              have hbk : bestK rs rs.length < rs.length := best_lt rs _ hpos
              generalize hbe : bestK rs rs.length = m at hbk
              obtain ⟨b2, o2, y, hA2, hl2, hy, y0, y1, y2⟩ := (rdR.next hbi).line hbk
              injection hA2 with hA2
              injection hA2 with e1 e2
              subst e1 e2
              have HY := Lib.hid hy
              have HS := Lib.hid (nf_step hbe hy)
              have m0 : (0 : Int) ≤ (m : Int) := by omega
              have m1 : (m : Int) < (rs.length : Int) := by omega
              have m2 : (0 : Int) ≤ (m : Int) + 1 := by omega
              have m3 : (m : Int) + 1 ≤ (rs.length : Int) := by omega
              have hcap : rs.length ≤ cr := own_cap ownR
              have m4 : (rs.length : Int) ≤ (cr : Int) := by omega
              have m5 : (m : Int) ≤ (cr : Int) := by omega
              have m6 : (m : Int) + 1 ≤ (cr : Int) := by omega
              have hw1 : IntKind.i64.wrap ((m : Int) + 1) = (m : Int) + 1 := IntWalk.i64_in _ (by omega)
              have ownR1 := own_next ownR hbi
              have ownF1 := own_next ownF hbi
              clear hy
              go_wp2_with (first
                | (at_builtin; refine wpList_append_own_at _ rfl (.tmp 63) (.tmp 68) 24 rfl w.heap.size 34 i0 _ 3 24 Try.underlying24 hi hz0 hz1 hz2 rfl (by decide) _ _ _ rfl (ownF1.alloc _) ⟨wi.heap.size, 0, none⟩ 1 1 [.int .i64 y.f, .int .i64 y.o, .int .i64 y.t] rfl rfl (World.news_of_block (cs := #[.int .i64 y.f, .int .i64 y.o, .int .i64 y.t]) (t := 34) (fr := (0, 0)) (heap_alloc_new wi _)) (by intro u hu; simp at hu; rcases hu with rfl | rfl | rfl <;> rfl) (by unfold maxLen; omega) (by omega) (by have := hb.size; have := hbi.size; simp; omega) ?_; intro v' w3 hown3 hgrow hnil hat))
              have hbw : Below w.heap.size w wi := hb.trans (hbi.mono hb.size)
              have hsz : w.heap.size ≤ wi.heap.size := hbw.size
              have ownR3 : w3.ownsRow w.heap.size 34 3 (.slice (some ⟨g, off, none⟩) rs.length cr) rs.length (flat rs) := (ownR1.alloc _).kept hgrow (.inr (fun e => HAP.out g rfl e.symm))
              have hw3 : Below w.heap.size w w3 := ((hbw.alloc hsz _).grown hgrow (by simp; omega) (fun g hg => (ownF1.lt g hg).1))
              have rd3 := rd_of_own ownR3
              have hB3 := Lib.hid (rd3.back (m + 1))
              have lt3 : g < w3.heap.size := (ownR3.lt g rfl).2
              have ltF : ∀ q, v'.ownBlock = some q → w.heap.size ≤ q ∧ q < w3.heap.size := fun q hq => hown3.lt q hq
              obtain ⟨F', cf', hv⟩ := own_value hown3
              subst hv
              have HF3 := Lib.hid hown3
              have hite : ∀ a b : Addr, (if cr = m + 1 then some a else some b) = some (if cr = m + 1 then a else b) := by intro a b; split <;> rfl
              have hn1 := Lib.hid (show ∀ j u, (flat (rs.take m))[j]? = some u → (w3.drew.alloc (.cells #[] 34)).cell? (Addr.add ⟨g, off, none⟩ j) = some u from rd_news ((show Rd w3.drew w3.drew.heap.size (some ⟨g, off, none⟩) (flat (rs.take m)) from rd3.front m).laid _))
              have hnw := Lib.hid (show ∀ w4 : World, (w3.drew.alloc (.cells #[] 34)).grownBy w4 (Value.ownBlock (.slice (some ⟨w3.heap.size, 0, none⟩) 0 0)) → ∀ j u, (flat (rs.drop (m + 1)))[j]? = some u → w4.cell? (Addr.add (if cr = m + 1 then ⟨g, off, none⟩ else ⟨g, off + (m + 1) * 3, none⟩) j) = some u by
                intro w4 hg4 j u hu
                split
                · rw [List.drop_eq_nil_of_le (by omega)] at hu
                  simp [flat_nil] at hu
                · exact rd_news (Rd.grown (B := w3.heap.size) (w := w3.drew.alloc (.cells #[] 34)) ((show Rd w3.drew w3.drew.heap.size _ _ from hB3.out).below ((Below.refl _ _).alloc (Nat.le_refl _) _)) hg4 (by simp) (fun q hq => by have : w3.heap.size = q := Option.some.inj hq; omega)) j u hu)
              have hlit3 := Lib.hid (World.ownsRow_lit (base := w3.heap.size) (e := 34) (size := 3) w3.drew #[] 0 (Nat.le_refl _) (by simp [maxLen]) rfl)
              clear ownR1 ownF1 ownR ownF hown3 hnil hgrow hat rd3
              go_wp2_with fail
              go_region_held3 (fun _ => True) (trivial) (first
                | (refine step_append_own _ (by rfl) (.tmp 70) (.tmp 73) 24 (by rfl) w3.heap.size 34 i0 _ 3 24 Try.underlying24 hi hz0 hz1 hz2 rfl (by decide) _ _ _ (by rfl) hlit3.out ⟨g, off, none⟩ m _ (flat (rs.take m)) (by rfl) (by rw [flat_length]; simp; omega) hn1.out (flat_one _) (by unfold maxLen; omega) (by omega) (by simp) ?_; intro v4 w4 own4 hg4 hat4)
                | (refine step_append_own _ (by rfl) (.tmp 74) (.tmp 78) 24 (by rfl) w3.heap.size 34 i0 _ 3 24 Try.underlying24 hi hz0 hz1 hz2 rfl (by decide) _ _ _ (by rfl) own4 (if cr = m + 1 then ⟨g, off, none⟩ else ⟨g, off + (m + 1) * 3, none⟩) (rs.length - (m + 1)) _ (flat (rs.drop (m + 1))) (by rfl) (by rw [flat_length]; simp) (hnw.out _ hg4) (flat_one _) (by unfold maxLen; omega) (by omega) (by have := hg4.size; simp at this; omega) ?_; intro v5 w5 own5 hg5 hat5))
              obtain ⟨A5, c5, hv5⟩ := own_value own5
              subst hv5
              have hr4 : ∀ q, Value.ownBlock (.slice (some ⟨w3.heap.size, 0, none⟩) 0 0) = some q → w3.heap.size ≤ q := fun q hq => by have : w3.heap.size = q := Option.some.inj hq; omega
              have hb4' : Below w3.heap.size w3 w4 := (((Below.refl w3.heap.size w3).drew).alloc (show w3.heap.size ≤ w3.drew.heap.size from Nat.le_refl _) _).grown hg4 (by simp) hr4
              have h4 : w3.heap.size ≤ w4.heap.size := hb4'.size
              have hsz3 : w.heap.size ≤ w3.heap.size := hw3.size
              have ownF5 := Lib.hid (own_kept_low (S := w3.heap.size) (own_next HF3.out hb4') hg5 (fun q hq => (ltF q hq).2) (fun q hq => (own4.lt q hq).1))
              have hw5 : Below w.heap.size w w5 := (hw3.trans (hb4'.mono hsz3)).grown hg5 (by omega) (fun q hq => by have := (own4.lt q hq).1; omega)
              have hlr : (rs.take m ++ rs.drop (m + 1)).length = m + (rs.length - (m + 1)) := by simp; omega
              simp only [Nat.zero_add, List.nil_append] at own5 ⊢
              have hsep : ∀ q, Value.ownBlock (.slice A5 (m + (rs.length - (m + 1))) c5) = some q → Value.ownBlock (.slice F' (fs.length + 1) cf') ≠ some q := fun q hq h => by
                have a1 := (own5.lt q hq).1
                have a2 := (ltF q h).2
                omega
              have HP := Lib.hid hsep
              have own5' := Lib.hid (own_base own5 hsz3)
              clear own4 own5 hsep hat5 hat4 hg5 hg4 hnw hite hn1 hlit3 hr4
              go_wp2
              go_roundw
              case rel => exact ⟨rs.take m ++ rs.drop (m + 1), fs ++ [y], A5, F', c5, cf', by rw [hlr], by simp, by rw [← HNF.out, HS.out]; simp, by rw [hlr, List.length_append]; simp; omega, by rw [hlr, flat_append]; exact own5'.out, by rw [List.length_append, flat_append]; exact ownF5.out, by rw [hlr, List.length_append]; exact HP.out, hw5⟩
              case measure => simp [lenV]; omega
        · have e : rs = [] := List.eq_nil_of_length_eq_zero (by omega)
          subst e
          have hfs : fs = nf ls.length ls := by rw [← hnf, nf_nil]; simp
          subst hfs
          clear hnf
          go_wp2
          go_ret2
          exact ⟨F, cf, by simp [HL.out, HB.out], by rw [HL.out]; exact ownF, hb⟩
end Go.Proofs.Ytbefkagmgpcfdaa

/- The contract of NormalForm. -/
import Derived.Test.YtbcgokpamhgabaaChecked
import Derived.Test.YtbcgokpamhgabaaMem
import Derived.Tactics
import Derived.Tactics2
import Derived.WalkKit
import Derived.WalkSpells
import Derived.WalkLawsBesides
import Derived.Deep.QuietTactic
import Derived.BigQuiet
import Derived.BigGuardPart
import Derived.Lib.QuietBelow
import Derived.OwnWalk
import Derived.KernelRfl
import Derived.Test.YtbcgokpamhgabaaOrdB
import Derived.Test.YtbcgokpamhgabaaMust
import Derived.Test.YtbcgokpamhgabaaSwap
import Derived.Test.YtbcgokpamhgabaaNormP
import Derived.Test.YtbcgokpamhgabaaStep
import Derived.Test.YtbcgokpamhgabaaTail
import Derived.Deep.RegionHeld3
set_option linter.unusedVariables false
set_option maxRecDepth 100000
namespace Go.Proofs.Ytbcgokpamhgabaa
open Go.RowKit Go.Sort

def lenV : Value → Nat
  | .slice _ n _ => n
  | _ => 0

set_option maxHeartbeats 2000000 in
theorem iNormalForm_ (ls : List Ln) (A : Option Addr) (c : Nat) (w : World) (hr : Rd w w.heap.size A (flat ls)) (hm : ls.length ≤ 9223372036854775807) :
    Calls Try.prog 14 #[.slice A ls.length c] w (GivesSliceB w 34 3 (nfL ls).length (flat (nfL ls)) (nfB ls)) := by
  by_cases h10 : 10 < ls.length
  · have HL := Lib.hid (nfL_no h10)
    have HB := Lib.hid (nfB_no h10)
    go_enter Try.func14, Try.ntmps14
    go_wp2
    go_ret2
    exact ⟨none, 0, by simp [HB.out, HL.out], by rw [HL.out]; exact World.ownsRow_nil w w.heap.size _ 3, Below.refl _ _⟩
  · have h10' : ls.length ≤ 10 := by omega
    have HL := Lib.hid (nfL_yes (show ls.length ≤ 10 by omega))
    have HB := Lib.hid (nfB_yes (show ls.length ≤ 10 by omega))
    obtain ⟨i0, hi, hz0, hz1, hz2⟩ := info_parts infoLine
    go_enter Try.func14, Try.ntmps14
    go_wp2_with fail
    refine (copyJumps_ ls A c w hr (by omega)).mono ?_
    rintro e w1 ⟨A1, c1, rfl, own1, hb1⟩
    go_wp2_with fail
    go_loopw [4, 5] (fun rv fv wr => ∃ (rs fs : List Ln) (R F : Option Addr) (cr cf : Nat), rv = .slice R rs.length cr ∧ fv = .slice F fs.length cf ∧ fs ++ nf rs.length rs = nf ls.length ls ∧ fs.length + rs.length = ls.length ∧
        wr.ownsRow w.heap.size 34 3 (.slice R rs.length cr) rs.length (flat rs) ∧ wr.ownsRow w.heap.size 34 3 (.slice F fs.length cf) fs.length (flat fs) ∧
        (∀ g, Value.ownBlock (.slice R rs.length cr) = some g → Value.ownBlock (.slice F fs.length cf) ≠ some g) ∧ Below w.heap.size w wr) (fun rv _ _ => lenV rv)
    case atStart =>
      have own2 := own_next own1 (Below.refl w1.heap.size w1)
      obtain ⟨hlo, hhi⟩ : (∀ g, Value.ownBlock (.slice A1 ls.length c1) = some g → w.heap.size ≤ g ∧ g < w1.heap.size) ∧ True := ⟨fun g hg => own1.lt g hg, trivial⟩
      exact ⟨ls, [], A1, some ⟨w1.heap.size, 0, none⟩, c1, 0, rfl, rfl, rfl, by simp, own1.alloc _, World.ownsRow_lit w1 #[] 0 (by exact hb1.size) (by simp [maxLen]) rfl,
        (fun g hg => by have := (hlo g hg).2; simp only [Value.ownBlock, ne_eq, Option.some.injEq]; omega), hb1.alloc hb1.size _⟩
    case round =>
      obtain ⟨rs, fs, R, F, cr, cf, rfl, rfl, hnf, hlen, ownR, ownF, hap, hb⟩ := hrel
      obtain ⟨wo, hwo⟩ : ∃ wo : World, wo = wr := ⟨_, rfl⟩
      subst hwo
      have hR10 : rs.length ≤ 10 := by omega
      have hF10 : fs.length ≤ 10 := by omega
      by_cases hpos : 0 < rs.length
      · have HNF := Lib.hid hnf
        have HAP := Lib.hid hap
        have HBW := Lib.hid hb
        have rdR := rd_of_own ownR
        obtain ⟨g, off, R0, hRA, hgl, _, _, _, _⟩ := rdR.line hpos
        subst hRA
        clear hnf hap own1 hb1
        go_wp2_with fail
        go_loopw [6, 20] (fun bv iv wi => ∃ k : Nat, k ≤ rs.length ∧ iv = .int .i64 k ∧ bv = .int .i64 (bestK rs k : Nat) ∧ Below wo.heap.size wo wi) (fun _ iv _ => rs.length - (intOf iv).toNat)
        case atStart => exact ⟨0, Nat.zero_le _, rfl, rfl, Below.refl _ _⟩
        case round =>
          obtain ⟨k, hk, rfl, rfl, hbi⟩ := hrel
          by_cases hlt : k < rs.length
          · have rdI : Rd wr wr.heap.size (some ⟨g, off, none⟩) (flat rs) := rdR.next hbi
            have hbk : bestK rs k < rs.length := by have := best_le rs k; omega
            obtain ⟨b1, o1, x, hA1, hl1, hx, x0, x1, x2⟩ := rdI.line hlt
            injection hA1 with hA1
            injection hA1 with e1 e2
            subst e1 e2
            obtain ⟨b2, o2, y, hA2, hl2, hy, y0, y1, y2⟩ := rdI.line hbk
            injection hA2 with hA2
            injection hA2 with e1 e2
            subst e1 e2
            generalize hbe : bestK rs k = m at hbk hy y0 y1 y2
            have hx' := Lib.hid hx
            have hy' := Lib.hid hy
            have k0 : (0 : Int) ≤ (k : Int) := by omega
            have k1 : (k : Int) < (rs.length : Int) := by omega
            have m0 : (0 : Int) ≤ (m : Int) := by omega
            have m1 : (m : Int) < (rs.length : Int) := by omega
            have hcap : rs.length ≤ cr := own_cap ownR
            have hcap' : (k : Int) ≤ (cr : Int) := by omega
            have hF := Lib.hid (rdI.front k)
            have HO := Lib.hid ownR
            have HOF := Lib.hid ownF
            have hc : ∀ (a : Addr) (p : Regrown) (W : World), a.block < W.heap.size → (grow (redrawn W p.d) p.os).cell? a = W.cell? a := fun a p W h => (below_regrown W p.d p.os).cell h
            clear hx hy rdI ownR ownF rdR
            rcases Bool.eq_false_or_eq_true (anyD x (rs.take k)) with hd | hd
            · have HX := Lib.hid ((best_bound hx'.out hd).trans hbe)
              go_wp2_with fail
              refine wp_region_quiet_below (by kernel_rfl) (by kernel_rfl) ?_
              repeat (go_big_quiet_step (first | (go_at_call 96; exact Calls.regrown_of (is_ (disturbsOne_ x (rs.take k) _ k _ _ (by simp; omega) ((hF.out.laid _).next (below_regrown _ _ _)) (by omega)) hd))))
              refine wpQuiet_nil ?_
              intro w3 hw3
              obtain ⟨p3, hp3⟩ := hw3
              have hb3 := of_rg hp3
              clear hp3 p3 hc
              have hw3 : Below wo.heap.size wo w3 := below_step (hbi.alloc hbi.size _) hb3 (by have := hbi.size; simp; omega)
              go_wp2
              go_roundw
              case rel => exact ⟨k + 1, by omega, by go_num, by rw [HX.out], hw3⟩
              case measure => simp [intOf]; omega
            · rcases Bool.eq_false_or_eq_true (decide (cmpL x y < 0)) with hq | hq
              · have HX := Lib.hid (best_less hx'.out (by rw [hbe]; exact hy'.out) hd hq)
                go_wp2_with fail
                refine wp_region_quiet_below (by kernel_rfl) (by kernel_rfl) ?_
                repeat (go_big_quiet_step (first | (go_at_call 96; exact Calls.regrown_of (is_ (disturbsOne_ x (rs.take k) _ k _ _ (by simp; omega) ((hF.out.laid _).next (below_regrown _ _ _)) (by omega)) hd)) | (go_at_call 22; exact Calls.regrown_of (iCompareJumps_ x y _))))
                refine wpQuiet_nil ?_
                intro w3 hw3
                obtain ⟨p3, hp3⟩ := hw3
                have hb3 := of_rg hp3
                clear hp3 p3 hc
                have hw3 : Below wo.heap.size wo w3 := below_step (hbi.alloc hbi.size _) hb3 (by have := hbi.size; simp; omega)
                go_wp2
                go_roundw
                case rel => exact ⟨k + 1, by omega, by go_num, by rw [HX.out], hw3⟩
                case measure => simp [intOf]; omega
              · have HX := Lib.hid ((best_same hx'.out (by rw [hbe]; exact hy'.out) hd hq).trans hbe)
                go_wp2_with fail
                refine wp_region_quiet_below (by kernel_rfl) (by kernel_rfl) ?_
                repeat (go_big_quiet_step (first | (go_at_call 96; exact Calls.regrown_of (is_ (disturbsOne_ x (rs.take k) _ k _ _ (by simp; omega) ((hF.out.laid _).next (below_regrown _ _ _)) (by omega)) hd)) | (go_at_call 22; exact Calls.regrown_of (iCompareJumps_ x y _))))
                refine wpQuiet_nil ?_
                intro w3 hw3
                obtain ⟨p3, hp3⟩ := hw3
                have hb3 := of_rg hp3
                clear hp3 p3 hc
                have hw3 : Below wo.heap.size wo w3 := below_step (hbi.alloc hbi.size _) hb3 (by have := hbi.size; simp; omega)
                go_wp2
                go_roundw
                case rel => exact ⟨k + 1, by omega, by go_num, by rw [HX.out], hw3⟩
                case measure => simp [intOf]; omega
          · have e : k = rs.length := by omega
            subst e
            have hbk : bestK rs rs.length < rs.length := best_lt rs _ hpos
            generalize hbe : bestK rs rs.length = m at hbk
            obtain ⟨b2, o2, y, hA2, hl2, hy, y0, y1, y2⟩ := (rdR.next hbi).line hbk
            injection hA2 with hA2
            injection hA2 with e1 e2
            subst e1 e2
            have HY := Lib.hid hy
            have HS := Lib.hid (nf_step hbe hy)
            have m0 : (0 : Int) ≤ (m : Int) := by omega
            have m1 : (m : Int) < (rs.length : Int) := by omega
            have m2 : (0 : Int) ≤ (m : Int) + 1 := by omega
            have m3 : (m : Int) + 1 ≤ (rs.length : Int) := by omega
            have hcap : rs.length ≤ cr := own_cap ownR
            have m4 : (rs.length : Int) ≤ (cr : Int) := by omega
            have m5 : (m : Int) ≤ (cr : Int) := by omega
            have m6 : (m : Int) + 1 ≤ (cr : Int) := by omega
            have hw1 : IntKind.i64.wrap ((m : Int) + 1) = (m : Int) + 1 := IntWalk.i64_in _ (by omega)
            have ownR1 := own_next ownR hbi
            have ownF1 := own_next ownF hbi
            clear hy
            go_wp2_with (first
              | (at_builtin; refine wpList_append_own_at _ rfl (.tmp 42) (.tmp 47) 24 rfl w.heap.size 34 i0 _ 3 24 Try.underlying24 hi hz0 hz1 hz2 rfl (by decide) _ _ _ rfl (ownF1.alloc _) ⟨wr.heap.size, 0, none⟩ 1 1 [.int .i64 y.f, .int .i64 y.o, .int .i64 y.t] rfl rfl (World.news_of_block (cs := #[.int .i64 y.f, .int .i64 y.o, .int .i64 y.t]) (t := 34) (fr := (0, 0)) (heap_alloc_new wr _)) (by intro u hu; simp at hu; rcases hu with rfl | rfl | rfl <;> rfl) (by unfold maxLen; omega) (by omega) (by have := hb.size; have := hbi.size; simp; omega) ?_; intro v' w3 hown3 hgrow hnil hat))
            have hb1 : Below w.heap.size w wr := hb.trans (hbi.mono hb.size)
            have hsz : w.heap.size ≤ wr.heap.size := hb1.size
            have ownR3 : w3.ownsRow w.heap.size 34 3 (.slice (some ⟨g, off, none⟩) rs.length cr) rs.length (flat rs) := (ownR1.alloc _).kept hgrow (.inr (fun e => HAP.out g rfl e.symm))
            have hw3 : Below w.heap.size w w3 := ((hb1.alloc hsz _).grown hgrow (by simp; omega) (fun g hg => (ownF1.lt g hg).1))
            have rd3 := rd_of_own ownR3
            have hF3 := Lib.hid (rd3.front m)
            have hB3 := Lib.hid (rd3.back (m + 1))
            have lt3 : g < w3.heap.size := (ownR3.lt g rfl).2
            have ltF : ∀ q, v'.ownBlock = some q → w.heap.size ≤ q ∧ q < w3.heap.size := fun q hq => hown3.lt q hq
            obtain ⟨F', cf', hv⟩ := own_value hown3
            subst hv
            have HF3 := Lib.hid hown3
            clear ownR1 ownF1 ownR ownF hown3 hnil hgrow hat rd3
            have hite : ∀ a b : Addr, (if cr = m + 1 then some a else some b) = some (if cr = m + 1 then a else b) := by intro a b; split <;> rfl
            have hnw := Lib.hid (show ∀ w4 : World, Below w3.drew.heap.size w3.drew w4 → ∀ j u, (flat (rs.drop (m + 1)))[j]? = some u → w4.cell? (Addr.add (if cr = m + 1 then ⟨g, off, none⟩ else ⟨g, off + (m + 1) * 3, none⟩) j) = some u by
              intro w4 hb4 j u hu
              split
              · rw [List.drop_eq_nil_of_le (by omega)] at hu
                simp [flat_nil] at hu
              · exact rd_news (Rd.below (w := w3.drew) (B := w3.drew.heap.size) hB3.out hb4) j u hu)
            go_wp2_with fail
            go_region_held3 (fun _ => True) (trivial) (first
              | (go_at_call 95; refine (copyJumps_n (rs.take m) _ _ m _ (by simp; omega) (show Rd w3.drew w3.drew.heap.size _ _ from hF3.out) (by omega)).mono ?_; rintro e w4 ⟨A4, c4, rfl, own4, hb4⟩; dsimp only)
              | (refine step_append_own _ (by rfl) (.tmp 52) (.tmp 56) 24 (by rfl) w3.heap.size 34 i0 _ 3 24 Try.underlying24 hi hz0 hz1 hz2 rfl (by decide) _ _ _ (by rfl) own4 (if cr = m + 1 then ⟨g, off, none⟩ else ⟨g, off + (m + 1) * 3, none⟩) (rs.length - (m + 1)) _ (flat (rs.drop (m + 1))) (by rfl) (by rw [flat_length]; simp) (hnw.out _ hb4) (flat_one _) (by unfold maxLen; omega) (by omega) (by exact hb4.size) ?_; intro v5 w5 own5 hg5 hat5))
            obtain ⟨A5, c5, hv5⟩ := own_value own5
            subst hv5
            have hb4' : Below w3.heap.size w3 w4 := (Below.refl w3.heap.size w3).drew.trans (show Below w3.heap.size w3.drew w4 from hb4)
            have own4' : w4.ownsRow w3.heap.size 34 3 (.slice A4 m c4) m (flat (rs.take m)) := own4
            have h4 : w3.heap.size ≤ w4.heap.size := hb4'.size
            have hsz3 : w.heap.size ≤ w3.heap.size := hw3.size
            have ownF5 := Lib.hid (own_kept_low (S := w3.heap.size) (own_next HF3.out hb4') hg5 (fun q hq => (ltF q hq).2) (fun q hq => (own4'.lt q hq).1))
            have hw5 : Below w.heap.size w w5 := (hw3.trans (hb4'.mono hsz3)).grown hg5 (by omega) (fun q hq => by have := (own4'.lt q hq).1; omega)
            have hlr : (rs.take m ++ rs.drop (m + 1)).length = m + (rs.length - (m + 1)) := by simp; omega
            have hsep : ∀ q, Value.ownBlock (.slice A5 (m + (rs.length - (m + 1))) c5) = some q → Value.ownBlock (.slice F' (fs.length + 1) cf') ≠ some q := fun q hq h => by
              have a1 := (own5.lt q hq).1
              have a2 := (ltF q h).2
              omega
            have HP := Lib.hid hsep
            have own5' := Lib.hid (own_base own5 hsz3)
            clear own4 own4' own5 hsep hat5 hg5 hb4 hnw hite
            go_wp2
            go_roundw
            case rel => exact ⟨rs.take m ++ rs.drop (m + 1), fs ++ [y], A5, F', c5, cf', by rw [hlr], by simp, by rw [← HNF.out, HS.out]; simp, by rw [hlr, List.length_append]; simp; omega, by rw [hlr, flat_append]; exact own5'.out, by rw [List.length_append, flat_append]; exact ownF5.out, by rw [hlr, List.length_append]; exact HP.out, hw5⟩
            case measure => simp [lenV]; omega
      · have e : rs = [] := List.eq_nil_of_length_eq_zero (by omega)
        subst e
        have hfs : fs = nf ls.length ls := by rw [← hnf, nf_nil]; simp
        subst hfs
        clear hnf
        go_wp2
        go_ret2
        exact ⟨F, cf, by simp [HL.out, HB.out], by rw [HL.out]; exact ownF, hb⟩
end Go.Proofs.Ytbcgokpamhgabaa

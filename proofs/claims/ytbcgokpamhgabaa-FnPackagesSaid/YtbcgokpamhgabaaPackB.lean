/- The contracts of PackageOf. -/
import Derived.Test.YtbcgokpamhgabaaChecked
import Derived.Test.YtbcgokpamhgabaaMem
import Derived.Tactics
import Derived.Tactics2
import Derived.WalkKit
import Derived.WalkSpells
import Derived.WalkLawsBesides
import Derived.Deep.QuietTactic
import Derived.BigQuiet
import Derived.BigGuardPart
import Derived.Lib.QuietBelow
import Derived.OwnWalk
import Derived.KernelRfl
import Derived.Test.YtbcgokpamhgabaaPackP
import Derived.Test.YtbcgokpamhgabaaSwap
import Derived.Test.YtbcgokpamhgabaaTail
set_option linter.unusedVariables false
set_option maxRecDepth 20000
namespace Go.Proofs.Ytbcgokpamhgabaa
open Go.RowKit Go.Sort

set_option maxHeartbeats 1000000 in
theorem l18Need_ (ls : List Ln) (A : Option Addr) (c : Nat) (hls : LsOk ls) (hm : ls.length ≤ 9223372036854775807) (w : World) (rd : Rd w w.heap.size A (flat ls)) :
    Calls Try.prog 165 #[.slice A ls.length c] w fun e w' => e = .returned (.int .i64 (needF ls : Nat)) ∧ Below w.heap.size w w' := by
  have HLS := Lib.hid hls
  clear hls
  go_enter Try.func165, Try.ntmps165
  go_wp2_with fail
  go_loopw [3, 4] (fun nv iv wr => ∃ i : Nat, i ≤ ls.length ∧ iv = .int .i64 i ∧ nv = .int .i64 (needF (ls.take i) : Nat) ∧ Below w.heap.size w wr) (fun _ iv _ => ls.length - (intOf iv).toNat)
  case atStart => exact ⟨0, Nat.zero_le _, rfl, rfl, Below.refl _ _⟩
  case round =>
    obtain ⟨i, hi, rfl, rfl, hw⟩ := hrel
    have hsz := hw.size
    by_cases hlt : i < ls.length
    · obtain ⟨bb, off, l, rfl, hbl, hx, x0, x1, x2⟩ := (rd.below hw).line hlt
      obtain ⟨f, o, t, rfl, f1, o1, t1, hft, hot⟩ := HLS.out l (List.mem_of_getElem? hx)
      have HX := Lib.hid (need_take hx)
      have i0 : (0 : Int) ≤ (i : Int) := by omega
      have i1 : (i : Int) < (ls.length : Int) := by omega
      have n63 := need_b63 (lsOk_take HLS.out i)
      have l63 := lbits_b63 f1 o1 t1
      have a1 := i64_or (needF (ls.take i)) (lbits ⟨f, o, t⟩) n63 l63
      generalize needF (ls.take i) = n at HX a1 ⊢
      generalize hLB : lbits ⟨f, o, t⟩ = L at a1 HX
      have HLB := Lib.hid hLB
      clear hx hft hot hLB n63 l63
      go_wp2_with fail
      refine (isI_ (l05Bits_ f o t (by omega) (by omega) (by omega) _) (congrArg Int.ofNat HLB.out)).mono ?_
      rintro e w2 ⟨rfl, hb2⟩
      have e3 : Int.ofNat L = (L : Int) := rfl
      rw [e3]
      clear e3
      go_wp2
      go_roundw
      case rel => exact ⟨i + 1, by omega, by go_num, by rw [HX.out], below_next hw hb2⟩
      case measure => simp [intOf]; omega
    · have e : i = ls.length := by omega
      subst e
      rw [List.take_length]
      go_wp2
      go_ret
      exact ⟨rfl, hw⟩
theorem own_set_other {w : World} {base : Nat} {e : TypeId} {size n : Nat} {v x : Value} {xs : List Value} {a : Addr} (h : w.ownsRow base e size v n xs) (hne : v.ownBlock ≠ some a.block) : (w.setCell a x).ownsRow base e size v n xs := by
  refine ⟨h.1, ?_⟩
  rcases h.2 with hn | ⟨g, cap, cur, rfl, hg, hgg, rest⟩
  · exact .inl hn
  · refine .inr ⟨g, cap, cur, rfl, hg, ?_, rest⟩
    have hb : a.block ≠ g := fun e => hne (by simp [Value.ownBlock, e])
    rw [← hgg]
    exact heap_setCell_other w a g x (Ne.symm hb)
/-- A package and a Bool are handed back; the package's jumps are a slice of the call's own. -/
def GivesPack (w : World) (T : TypeId) (n g : Int) (js : List Ln) (ok : Bool) (e : Ending) (w' : World) : Prop :=
  ∃ A c, e = .returned (.tuple #[.agg #[.int .i64 n, .int .i64 g, .slice A js.length c], .bool ok]) ∧ w'.ownsRow w.heap.size T 3 (.slice A js.length c) js.length (flat js) ∧ Below w.heap.size w w'
set_option maxHeartbeats 2000000 in
theorem sPackageOf_ (b : Ln) (p : Int) (hp : I64 p) (ls : List Ln) (A : Option Addr) (c : Nat) (hm : ls.length ≤ 1048576) (W : World) (rd : Rd W W.heap.size A (flat ls)) :
    Calls Try.prog 156 #[.agg #[.int .i64 b.f, .int .i64 b.o, .int .i64 b.t], .int .i64 p, .slice A ls.length c] W (GivesPack W 34 (packN b p ls) (packG b p ls) (packL b p ls) (packB b p ls)) := by
  obtain ⟨i0, hi, hy0, hy1, hy2⟩ := info_parts infoLine
  rcases Bool.eq_false_or_eq_true (packB b p ls) with hB | hB
  · obtain ⟨hPB, hp0, hsub⟩ := pack_play hB
    obtain ⟨h60, hpls⟩ := play_parts hPB
    have HLS := Lib.hid (plays_ok hpls)
    have HB : Hid (packB b p ls = true) := Lib.hid hB
    have HN : Hid (packN b p ls = (needF ls : Nat)) := Lib.hid (by simp [packN, hB])
    have HL : Hid (packL b p ls = ls) := Lib.hid (by simp [packL, hB])
    have HG0 : packG b p ls = p - playR b p ls := by simp [packG, hB]
    obtain ⟨w, hh, s, q, r, rfl, rfl, hr, hb, hq, hrs⟩ := play_nat hPB
    have q63 := b63_area hb (posB_lt hb hq)
    have r63 := b63_area hb (posB_lt hb hrs)
    rw [hr, Int.toNat_natCast, Int.toNat_natCast] at hsub
    have had := adiff_sub q63 hsub
    rw [hr] at HG0
    have HR := Lib.hid hr
    clear hr hsub hq hrs hpls
    have HG := Lib.hid HG0
    have hP2 := Lib.hid hPB
    clear HG0 had hPB
    go_enter Try.func156, Try.ntmps156
    go_wp2_with fail
    refine (is_ (sIsPackage_ ⟨w, hh, s⟩ q hp ls A c (by omega) _ ((rd.laid _).laid _)) hB).mono ?_
    rintro e W1 ⟨rfl, hb1⟩
    obtain ⟨hc, hf⟩ := bcell hb1
    have hz : W.heap.size + 2 ≤ W1.heap.size := by have := hb1.size; simpa using this
    have hW1 : Below W.heap.size W W1 := below_step (((Below.refl _ _).alloc (Nat.le_refl _) _).alloc (by simp) _) hb1 (by simp; omega)
    have b0 : W1.cell? ⟨W.heap.size, 0, none⟩ = some (.int .i64 w) := by rw [hc _ _ (by simp; try omega)]; simp [go_sem]
    have b1 : W1.cell? ⟨W.heap.size, 1, none⟩ = some (.int .i64 hh) := by rw [hc _ _ (by simp; try omega)]; simp [go_sem]
    have b2 : W1.cell? ⟨W.heap.size, 2, none⟩ = some (.int .i64 s) := by rw [hc _ _ (by simp; try omega)]; simp [go_sem]
    have r0 : W1.cell? ⟨W.heap.size + 1, 0, none⟩ = some (.int .i64 0) := by rw [hc _ _ (by simp)]; simp [go_sem]
    have r1 : W1.cell? ⟨W.heap.size + 1, 1, none⟩ = some (.int .i64 0) := by rw [hc _ _ (by simp)]; simp [go_sem]
    have r2 : W1.cell? ⟨W.heap.size + 1, 2, none⟩ = some (.slice none 0 0) := by rw [hc _ _ (by simp)]; simp [go_sem]
    have zr0 : W1.frozen? ⟨W.heap.size + 1, 0, none⟩ = false := by rw [hf _ _ (by simp)]; simp [go_sem]
    have zr1 : W1.frozen? ⟨W.heap.size + 1, 1, none⟩ = false := by rw [hf _ _ (by simp)]; simp [go_sem]
    have zr2 : W1.frozen? ⟨W.heap.size + 1, 2, none⟩ = false := by rw [hf _ _ (by simp)]; simp [go_sem]
    have hz1 : W.heap.size + 1 < W1.heap.size := by omega
    have hz0 : W.heap.size < W1.heap.size := by omega
    clear hc hf hb1
    have rd1 : Rd W1 W1.heap.size A (flat ls) := (rd.below hW1).more hW1.size
    go_wp2_with fail
    refine (is2_ (sPlayAll_ ⟨w, hh, s⟩ q hp ls A c (by omega) _ rd1) HR.out hP2.out).mono ?_
    rintro e W2 ⟨rfl, hb2⟩
    have hW2 := below_next hW1 hb2
    have hz2 : W.heap.size + 1 < W2.heap.size := by have := hb2.size; omega
    have q0 := (hb2.cell (p := ⟨W.heap.size + 1, 0, none⟩) hz1).trans r0
    have q1 := (hb2.cell (p := ⟨W.heap.size + 1, 1, none⟩) hz1).trans r1
    have q2 := (hb2.cell (p := ⟨W.heap.size + 1, 2, none⟩) hz1).trans r2
    have zq0 := (hb2.frozen (p := ⟨W.heap.size + 1, 0, none⟩) hz1).trans zr0
    have zq1 := (hb2.frozen (p := ⟨W.heap.size + 1, 1, none⟩) hz1).trans zr1
    have zq2 := (hb2.frozen (p := ⟨W.heap.size + 1, 2, none⟩) hz1).trans zr2
    have rd2 : Rd W2 W2.heap.size A (flat ls) := (rd.below hW2).more hW2.size
    clear b0 b1 b2 r0 r1 r2 zr0 zr1 zr2 rd1
    go_wp2_with fail
    refine (l18Need_ ls A c HLS.out (by omega) _ rd2).mono ?_
    rintro e W3 ⟨rfl, hb3⟩
    have hW3 := below_next hW2 hb3
    have hz3 : W.heap.size + 1 < W3.heap.size := by have := hb3.size; omega
    have u0 := (hb3.cell (p := ⟨W.heap.size + 1, 0, none⟩) hz2).trans q0
    have u1 := (hb3.cell (p := ⟨W.heap.size + 1, 1, none⟩) hz2).trans q1
    have u2 := (hb3.cell (p := ⟨W.heap.size + 1, 2, none⟩) hz2).trans q2
    have zu0 := (hb3.frozen (p := ⟨W.heap.size + 1, 0, none⟩) hz2).trans zq0
    have zu1 := (hb3.frozen (p := ⟨W.heap.size + 1, 1, none⟩) hz2).trans zq1
    have zu2 := (hb3.frozen (p := ⟨W.heap.size + 1, 2, none⟩) hz2).trans zq2
    clear q0 q1 q2 zq0 zq1 zq2 rd2
    have hsubi : (q : Int) - (r : Int) = packG ⟨w, hh, s⟩ q ls := HG.out.symm
    generalize hgg : packG ⟨w, hh, s⟩ q ls = G at hsubi
    have HGG := Lib.hid hgg
    generalize hnn : needF ls = N
    have HNN := Lib.hid hnn
    obtain ⟨bb, off, hA, hbl⟩ : ∃ bb off, A = some ⟨bb, off, none⟩ ∧ bb < W.heap.size := by
      obtain ⟨bb, off, l, e, hl, _⟩ := rd.line hp0
      exact ⟨bb, off, e, hl⟩
    subst hA
    have hfl := flat_length ls
    have HFL := Lib.hid hfl
    have rd4 : Rd (W3.alloc (.cells #[] 34)) (W3.alloc (.cells #[] 34)).heap.size (some ⟨bb, off, none⟩) (flat ls) := ((rd.below hW3).more hW3.size).laid _
    have HNW := Lib.hid (rd_news rd4)
    have gb1 : -9223372036854775808 ≤ G := by unfold B63 at *; omega
    have gb2 : G ≤ 9223372036854775807 := by unfold B63 at *; omega
    clear hfl rd4 hgg hnn
    go_wp2_with (first | (at_builtin; refine wpList_append_slab _ rfl (.tmp 28) (.tmp 29) 24 rfl W3.heap.size (some ⟨W3.heap.size, 0, none⟩) 34 i0 _ 3 24 Try.underlying24 hi hy0 hy1 hy2 rfl (by decide) _ 0 [] rfl (slab_zero _ _ _ _ _) ⟨bb, off, none⟩ ls.length c (flat ls) rfl HFL.out HNW.out (flat_one ls) hp0 (by unfold maxLen; omega) (by omega) (by simp) ?_; intro g cap wA ownA hbA; simp only [Nat.zero_add, List.nil_append] at ownA ⊢; have hWA : Below W.heap.size W wA := hW3.trans ((((Below.refl _ _).alloc (Nat.le_refl _) _).trans hbA).mono hW3.size); have hz4 : W.heap.size + 1 < wA.heap.size := (by have := hbA.size; simp at this; omega); have hg : W3.heap.size ≤ g := (ownA.lt g rfl).1; have hbAA : Below W3.heap.size W3 wA := ((Below.refl _ _).alloc (Nat.le_refl _) _).trans hbA; have v0 := (hbAA.cell (p := ⟨W.heap.size + 1, 0, none⟩) hz3).trans u0; have v1 := (hbAA.cell (p := ⟨W.heap.size + 1, 1, none⟩) hz3).trans u1; have v2 := (hbAA.cell (p := ⟨W.heap.size + 1, 2, none⟩) hz3).trans u2; have zv0 := (hbAA.frozen (p := ⟨W.heap.size + 1, 0, none⟩) hz3).trans zu0; have zv1 := (hbAA.frozen (p := ⟨W.heap.size + 1, 1, none⟩) hz3).trans zu1; have zv2 := (hbAA.frozen (p := ⟨W.heap.size + 1, 2, none⟩) hz3).trans zu2; have HO := Lib.hid ownA; clear u0 u1 u2 zu0 zu1 zu2 ownA hbA hbAA))
    refine bodyPost_ret (v := .tuple #[.agg #[.int .i64 N, .int .i64 G, .slice (some ⟨g, 0, none⟩) ls.length cap], .bool true]) (by simp [results, Try.results156, go_sem, *]) rfl ⟨some ⟨g, 0, none⟩, cap, by rw [HB.out, HN.out, HGG.out, HL.out, HNN.out], ?_, ?_⟩
    · rw [HL.out]
      have h1 := own_base HO.out (show W.heap.size ≤ W3.heap.size from hW3.size)
      exact own_set_other (own_set_other (own_set_other h1 (by simp [Value.ownBlock]; omega)) (by simp [Value.ownBlock]; omega)) (by simp [Value.ownBlock]; omega)
    · repeat (first | exact hWA | refine Below.setCell ?_ (by simp) _)
  · have HB : Hid (packB b p ls = false) := Lib.hid hB
    have HN : Hid (packN b p ls = 0) := Lib.hid (by simp [packN, hB])
    have HG : Hid (packG b p ls = 0) := Lib.hid (by simp [packG, hB])
    have HL : Hid (packL b p ls = []) := Lib.hid (by simp [packL, hB])
    go_enter Try.func156, Try.ntmps156
    go_wp2_with fail
    refine (is_ (sIsPackage_ b p hp ls A c (by omega) _ ((rd.laid _).laid _)) hB).mono ?_
    rintro e W1 ⟨rfl, hb1⟩
    obtain ⟨hc, hf⟩ := bcell hb1
    have hz : W.heap.size + 2 ≤ W1.heap.size := by have := hb1.size; simpa using this
    have hW1 : Below W.heap.size W W1 := below_step (((Below.refl _ _).alloc (Nat.le_refl _) _).alloc (by simp) _) hb1 (by simp; omega)
    have b0 : W1.cell? ⟨W.heap.size, 0, none⟩ = some (.int .i64 b.f) := by rw [hc _ _ (by simp; try omega)]; simp [go_sem]
    have b1 : W1.cell? ⟨W.heap.size, 1, none⟩ = some (.int .i64 b.o) := by rw [hc _ _ (by simp; try omega)]; simp [go_sem]
    have b2 : W1.cell? ⟨W.heap.size, 2, none⟩ = some (.int .i64 b.t) := by rw [hc _ _ (by simp; try omega)]; simp [go_sem]
    have r0 : W1.cell? ⟨W.heap.size + 1, 0, none⟩ = some (.int .i64 0) := by rw [hc _ _ (by simp)]; simp [go_sem]
    have r1 : W1.cell? ⟨W.heap.size + 1, 1, none⟩ = some (.int .i64 0) := by rw [hc _ _ (by simp)]; simp [go_sem]
    have r2 : W1.cell? ⟨W.heap.size + 1, 2, none⟩ = some (.slice none 0 0) := by rw [hc _ _ (by simp)]; simp [go_sem]
    have zr0 : W1.frozen? ⟨W.heap.size + 1, 0, none⟩ = false := by rw [hf _ _ (by simp)]; simp [go_sem]
    have zr1 : W1.frozen? ⟨W.heap.size + 1, 1, none⟩ = false := by rw [hf _ _ (by simp)]; simp [go_sem]
    have zr2 : W1.frozen? ⟨W.heap.size + 1, 2, none⟩ = false := by rw [hf _ _ (by simp)]; simp [go_sem]
    have hz1 : W.heap.size + 1 < W1.heap.size := by omega
    have hz0 : W.heap.size < W1.heap.size := by omega
    clear hc hf hb1
    clear b0 b1 b2
    go_wp2
    refine bodyPost_ret (v := .tuple #[.agg #[.int .i64 0, .int .i64 0, .slice none 0 0], .bool false]) (by simp [results, Try.results156, go_sem, *]) rfl ⟨none, 0, by rw [HB.out, HN.out, HG.out, HL.out]; rfl, by rw [HL.out]; exact World.ownsRow_nil _ _ _ _, ?_⟩
    repeat (first | exact hW1 | refine Below.setCell ?_ (by simp) _ | refine Below.alloc ?_ (by first | omega | (simp; omega)) _)
set_option maxHeartbeats 2000000 in
theorem iPackageOf_ (b : Ln) (p : Int) (hp : I64 p) (ls : List Ln) (A : Option Addr) (c : Nat) (hm : ls.length ≤ 1048576) (W : World) (rd : Rd W W.heap.size A (flat ls)) :
    Calls Try.prog 52 #[.agg #[.int .i64 b.f, .int .i64 b.o, .int .i64 b.t], .int .i64 p, .slice A ls.length c] W (GivesPack W 34 (packN b p ls) (packG b p ls) (packL b p ls) (packB b p ls)) := by
  rcases Bool.eq_false_or_eq_true (packB b p ls) with hB | hB
  · obtain ⟨hPB, hp0, hsub⟩ := pack_play hB
    obtain ⟨h60, hpls⟩ := play_parts hPB
    have HLS := Lib.hid (plays_ok hpls)
    have HB : Hid (packB b p ls = true) := Lib.hid hB
    have HN : Hid (packN b p ls = (needF ls : Nat)) := Lib.hid (by simp [packN, hB])
    have HL : Hid (packL b p ls = ls) := Lib.hid (by simp [packL, hB])
    have HG0 : packG b p ls = p - playR b p ls := by simp [packG, hB]
    obtain ⟨w, hh, s, q, r, rfl, rfl, hr, hb, hq, hrs⟩ := play_nat hPB
    have q63 := b63_area hb (posB_lt hb hq)
    have r63 := b63_area hb (posB_lt hb hrs)
    rw [hr, Int.toNat_natCast, Int.toNat_natCast] at hsub
    have had := adiff_sub q63 hsub
    rw [hr] at HG0
    have HR := Lib.hid hr
    clear hr hsub hq hrs hpls
    have HG := Lib.hid HG0
    have hP2 := Lib.hid hPB
    have ha := i64_andNot q r q63 r63
    have had2 : ((adiff q r : Nat) : Int) = packG ⟨w, hh, s⟩ q ls := by rw [HG.out]; omega
    rw [had2] at ha
    clear HG0 had hPB had2
    go_enter Try.func52, Try.ntmps52
    go_wp2_with fail
    refine (is_ (iIsPackage_ ⟨w, hh, s⟩ q hp ls A c (by omega) _ ((rd.laid _).laid _)) hB).mono ?_
    rintro e W1 ⟨rfl, hb1⟩
    obtain ⟨hc, hf⟩ := bcell hb1
    have hz : W.heap.size + 2 ≤ W1.heap.size := by have := hb1.size; simpa using this
    have hW1 : Below W.heap.size W W1 := below_step (((Below.refl _ _).alloc (Nat.le_refl _) _).alloc (by simp) _) hb1 (by simp; omega)
    have b0 : W1.cell? ⟨W.heap.size, 0, none⟩ = some (.int .i64 w) := by rw [hc _ _ (by simp; try omega)]; simp [go_sem]
    have b1 : W1.cell? ⟨W.heap.size, 1, none⟩ = some (.int .i64 hh) := by rw [hc _ _ (by simp; try omega)]; simp [go_sem]
    have b2 : W1.cell? ⟨W.heap.size, 2, none⟩ = some (.int .i64 s) := by rw [hc _ _ (by simp; try omega)]; simp [go_sem]
    have r0 : W1.cell? ⟨W.heap.size + 1, 0, none⟩ = some (.int .i64 0) := by rw [hc _ _ (by simp)]; simp [go_sem]
    have r1 : W1.cell? ⟨W.heap.size + 1, 1, none⟩ = some (.int .i64 0) := by rw [hc _ _ (by simp)]; simp [go_sem]
    have r2 : W1.cell? ⟨W.heap.size + 1, 2, none⟩ = some (.slice none 0 0) := by rw [hc _ _ (by simp)]; simp [go_sem]
    have zr0 : W1.frozen? ⟨W.heap.size + 1, 0, none⟩ = false := by rw [hf _ _ (by simp)]; simp [go_sem]
    have zr1 : W1.frozen? ⟨W.heap.size + 1, 1, none⟩ = false := by rw [hf _ _ (by simp)]; simp [go_sem]
    have zr2 : W1.frozen? ⟨W.heap.size + 1, 2, none⟩ = false := by rw [hf _ _ (by simp)]; simp [go_sem]
    have hz1 : W.heap.size + 1 < W1.heap.size := by omega
    have hz0 : W.heap.size < W1.heap.size := by omega
    clear hc hf hb1
    have rd1 : Rd W1 W1.heap.size A (flat ls) := (rd.below hW1).more hW1.size
    go_wp2_with fail
    refine (is2_ (iPlayAll_ ⟨w, hh, s⟩ q hp ls A c (by omega) _ rd1) HR.out hP2.out).mono ?_
    rintro e W2 ⟨rfl, hb2⟩
    have hW2 := below_next hW1 hb2
    have hz2 : W.heap.size + 1 < W2.heap.size := by have := hb2.size; omega
    have q0 := (hb2.cell (p := ⟨W.heap.size + 1, 0, none⟩) hz1).trans r0
    have q1 := (hb2.cell (p := ⟨W.heap.size + 1, 1, none⟩) hz1).trans r1
    have q2 := (hb2.cell (p := ⟨W.heap.size + 1, 2, none⟩) hz1).trans r2
    have zq0 := (hb2.frozen (p := ⟨W.heap.size + 1, 0, none⟩) hz1).trans zr0
    have zq1 := (hb2.frozen (p := ⟨W.heap.size + 1, 1, none⟩) hz1).trans zr1
    have zq2 := (hb2.frozen (p := ⟨W.heap.size + 1, 2, none⟩) hz1).trans zr2
    have rd2 : Rd W2 W2.heap.size A (flat ls) := (rd.below hW2).more hW2.size
    clear b0 b1 b2 r0 r1 r2 zr0 zr1 zr2 rd1
    generalize hgg : packG ⟨w, hh, s⟩ q ls = G at ha
    have HGG := Lib.hid hgg
    clear hgg
    go_wp2_with fail
    refine (copyJumps_ ls A c _ rd2 (by omega)).mono ?_
    rintro e W3 ⟨A3, c3, rfl, own3, hb3⟩
    have hW3 := below_next hW2 hb3
    have hz3 : W.heap.size + 1 < W3.heap.size := by have := hb3.size; omega
    have u0 := (hb3.cell (p := ⟨W.heap.size + 1, 0, none⟩) hz2).trans q0
    have u1 := (hb3.cell (p := ⟨W.heap.size + 1, 1, none⟩) hz2).trans q1
    have u2 := (hb3.cell (p := ⟨W.heap.size + 1, 2, none⟩) hz2).trans q2
    have zu0 := (hb3.frozen (p := ⟨W.heap.size + 1, 0, none⟩) hz2).trans zq0
    have zu1 := (hb3.frozen (p := ⟨W.heap.size + 1, 1, none⟩) hz2).trans zq1
    have zu2 := (hb3.frozen (p := ⟨W.heap.size + 1, 2, none⟩) hz2).trans zq2
    have rd3 : Rd W3 W3.heap.size A (flat ls) := (rd.below hW3).more hW3.size
    have hlt3 : ∀ g, (Value.slice A3 ls.length c3).ownBlock = some g → g < W3.heap.size := fun g hg => (own3.lt g hg).2
    have HO3 := Lib.hid own3
    have HLT3 := Lib.hid hlt3
    clear q0 q1 q2 zq0 zq1 zq2 rd2 own3 hlt3
    go_wp2_with fail
    go_loopw [34] (fun iv wr => ∃ i : Nat, i ≤ ls.length ∧ iv = .int .i64 i ∧ wr.cell? ⟨W3.heap.size, 0, none⟩ = some (.int .i64 (needF (ls.take i) : Nat)) ∧ wr.cell? ⟨W3.heap.size, 1, none⟩ = some (.int .i64 G) ∧ wr.cell? ⟨W3.heap.size, 2, none⟩ = some (.slice A3 ls.length c3) ∧ wr.frozen? ⟨W3.heap.size, 0, none⟩ = false ∧ W3.heap.size < wr.heap.size ∧ Below W3.heap.size W3 wr) (fun iv _ => ls.length - (intOf iv).toNat)
    case atStart => exact ⟨0, Nat.zero_le _, rfl, by simp [go_sem, needF], by simp [go_sem], by simp [go_sem], by simp [go_sem], by simp, (Below.refl _ _).alloc (Nat.le_refl _) _⟩
    case round =>
      obtain ⟨i, hi, rfl, x0, x1, x2, xf, hzx, hw⟩ := hrel
      have hsz := hw.size
      have v0 := (hw.cell (p := ⟨W.heap.size + 1, 0, none⟩) hz3).trans u0
      have v1 := (hw.cell (p := ⟨W.heap.size + 1, 1, none⟩) hz3).trans u1
      have v2 := (hw.cell (p := ⟨W.heap.size + 1, 2, none⟩) hz3).trans u2
      have zv0 := (hw.frozen (p := ⟨W.heap.size + 1, 0, none⟩) hz3).trans zu0
      have zv1 := (hw.frozen (p := ⟨W.heap.size + 1, 1, none⟩) hz3).trans zu1
      have zv2 := (hw.frozen (p := ⟨W.heap.size + 1, 2, none⟩) hz3).trans zu2
      have hzr : W.heap.size + 1 < wr.heap.size := by omega
      clear u0 u1 u2 zu0 zu1 zu2
      by_cases hlt : i < ls.length
      · obtain ⟨bb, off, l, rfl, hbl, hx, y0, y1, y2⟩ := (rd3.below hw).line hlt
        obtain ⟨f, o, t, rfl, f1, o1, t1, hft, hot⟩ := HLS.out l (List.mem_of_getElem? hx)
        have HX := Lib.hid (need_take hx)
        have i0 : (0 : Int) ≤ (i : Int) := by omega
        have i1 : (i : Int) < (ls.length : Int) := by omega
        have hbz : bb < wr.heap.size := by omega
        have n63 := need_b63 (lsOk_take HLS.out i)
        have l63 := lbits_b63 f1 o1 t1
        have pf := i64_pow f (by omega)
        have po := i64_pow o (by omega)
        have pt := i64_pow t (by omega)
        have a2 := i64_or (pow2 f) (pow2 o) (b63_pow2 (by omega)) (b63_pow2 (by omega))
        have a3 := i64_or (pow2 f ||| pow2 o) (pow2 t) (b63_or (b63_pow2 (by omega)) (b63_pow2 (by omega))) (b63_pow2 (by omega))
        have hLB : (pow2 f ||| pow2 o ||| pow2 t) = lbits ⟨f, o, t⟩ := by simp [lbits]
        rw [hLB] at a3
        have a1 := i64_or (needF (ls.take i)) (lbits ⟨f, o, t⟩) n63 l63
        generalize needF (ls.take i) = n at HX a1 x0
        generalize lbits ⟨f, o, t⟩ = L at a1 HX a3 hLB
        clear hx hft hot hLB n63 l63 v0 v1 v2 zv0 zv1 zv2
        have hc : ∀ (a : Addr) (p : Regrown) (W : World), a.block < W.heap.size → (grow (redrawn W p.d) p.os).cell? a = W.cell? a := fun a p W h => (below_regrown W p.d p.os).cell h
        go_wp2_with fail
        refine region_tail 15 (by kernel_rfl) (by kernel_rfl) ?_
        simp only [List.take_succ_cons, List.take_zero, List.drop_succ_cons, List.drop_zero]
        repeat (go_big_quiet_step (fail))
        refine wpQuiet_nil ?_
        intro w3 hw3
        obtain ⟨p3, hp3⟩ := hw3
        have hb4 := of_rg hp3
        clear hp3 p3 hc
        have hn4 : Below wr.heap.size wr w3 := below_step ((Below.refl _ _).alloc (Nat.le_refl _) _) hb4 (by simp)
        have t0 := (hn4.cell (p := ⟨W3.heap.size, 0, none⟩) hzx).trans x0
        have t1' := (hn4.cell (p := ⟨W3.heap.size, 1, none⟩) hzx).trans x1
        have t2 := (hn4.cell (p := ⟨W3.heap.size, 2, none⟩) hzx).trans x2
        have tf := (hn4.frozen (p := ⟨W3.heap.size, 0, none⟩) hzx).trans xf
        have hw4 : Below W3.heap.size W3 w3 := hw.trans (hn4.mono hsz)
        have hz4 : W3.heap.size < w3.heap.size := by have := hn4.size; omega
        clear x0 x1 x2 xf y0 y1 y2
        go_wp2
        go_roundw
        case rel => exact ⟨i + 1, by omega, by go_num, by rw [HX.out]; simp [go_sem, t0], by simp [go_sem, t1'], by simp [go_sem, t2], by simp [go_sem, tf], by simpa using hz4, hw4.setCell (by simp) _⟩
        case measure => simp [intOf]; omega
      · have e : i = ls.length := by omega
        subst e
        rw [List.take_length] at x0
        generalize hnn : needF ls = N at x0
        have HNN := Lib.hid hnn
        have HWW := Lib.hid (below_next hW3 hw)
        have HOW := Lib.hid (own_below HO3.out hw HLT3.out)
        clear hnn
        go_wp2
        refine bodyPost_ret (v := .tuple #[.agg #[.int .i64 N, .int .i64 G, .slice A3 ls.length c3], .bool true]) (by simp [results, Try.results52, go_sem, *]) rfl ⟨A3, c3, by rw [HB.out, HN.out, HGG.out, HL.out, HNN.out], ?_, ?_⟩
        · rw [HL.out]
          have h1 := own_base HOW.out (show W.heap.size ≤ W2.heap.size from hW2.size)
          have hlo : ∀ g, (Value.slice A3 ls.length c3).ownBlock = some g → W2.heap.size ≤ g := fun g hg => (HO3.out.lt g hg).1
          have hne : (Value.slice A3 ls.length c3).ownBlock ≠ some (W.heap.size + 1) := fun hh => by have := hlo _ hh; omega
          exact own_set_other (own_set_other (own_set_other h1 hne) hne) hne
        · repeat (first | exact HWW.out | refine Below.setCell ?_ (by simp) _)
  · have HB : Hid (packB b p ls = false) := Lib.hid hB
    have HN : Hid (packN b p ls = 0) := Lib.hid (by simp [packN, hB])
    have HG : Hid (packG b p ls = 0) := Lib.hid (by simp [packG, hB])
    have HL : Hid (packL b p ls = []) := Lib.hid (by simp [packL, hB])
    go_enter Try.func52, Try.ntmps52
    go_wp2_with fail
    refine (is_ (iIsPackage_ b p hp ls A c (by omega) _ ((rd.laid _).laid _)) hB).mono ?_
    rintro e W1 ⟨rfl, hb1⟩
    obtain ⟨hc, hf⟩ := bcell hb1
    have hz : W.heap.size + 2 ≤ W1.heap.size := by have := hb1.size; simpa using this
    have hW1 : Below W.heap.size W W1 := below_step (((Below.refl _ _).alloc (Nat.le_refl _) _).alloc (by simp) _) hb1 (by simp; omega)
    have b0 : W1.cell? ⟨W.heap.size, 0, none⟩ = some (.int .i64 b.f) := by rw [hc _ _ (by simp; try omega)]; simp [go_sem]
    have b1 : W1.cell? ⟨W.heap.size, 1, none⟩ = some (.int .i64 b.o) := by rw [hc _ _ (by simp; try omega)]; simp [go_sem]
    have b2 : W1.cell? ⟨W.heap.size, 2, none⟩ = some (.int .i64 b.t) := by rw [hc _ _ (by simp; try omega)]; simp [go_sem]
    have r0 : W1.cell? ⟨W.heap.size + 1, 0, none⟩ = some (.int .i64 0) := by rw [hc _ _ (by simp)]; simp [go_sem]
    have r1 : W1.cell? ⟨W.heap.size + 1, 1, none⟩ = some (.int .i64 0) := by rw [hc _ _ (by simp)]; simp [go_sem]
    have r2 : W1.cell? ⟨W.heap.size + 1, 2, none⟩ = some (.slice none 0 0) := by rw [hc _ _ (by simp)]; simp [go_sem]
    have zr0 : W1.frozen? ⟨W.heap.size + 1, 0, none⟩ = false := by rw [hf _ _ (by simp)]; simp [go_sem]
    have zr1 : W1.frozen? ⟨W.heap.size + 1, 1, none⟩ = false := by rw [hf _ _ (by simp)]; simp [go_sem]
    have zr2 : W1.frozen? ⟨W.heap.size + 1, 2, none⟩ = false := by rw [hf _ _ (by simp)]; simp [go_sem]
    have hz1 : W.heap.size + 1 < W1.heap.size := by omega
    have hz0 : W.heap.size < W1.heap.size := by omega
    clear hc hf hb1
    clear b0 b1 b2
    go_wp2
    refine bodyPost_ret (v := .tuple #[.agg #[.int .i64 0, .int .i64 0, .slice none 0 0], .bool false]) (by simp [results, Try.results52, go_sem, *]) rfl ⟨none, 0, by rw [HB.out, HN.out, HG.out, HL.out]; rfl, by rw [HL.out]; exact World.ownsRow_nil _ _ _ _, ?_⟩
    repeat (first | exact hW1 | refine Below.setCell ?_ (by simp) _ | refine Below.alloc ?_ (by first | omega | (simp; omega)) _)
end Go.Proofs.Ytbcgokpamhgabaa

/- The contracts of the reference's PlayAll and of IsPackage. -/
import Derived.Test.YtbcgokpamhgabaaChecked
import Derived.Test.YtbcgokpamhgabaaKb01
import Derived.Tactics
import Derived.Tactics2
import Derived.WalkKit
import Derived.WalkSpells
import Derived.WalkLawsBesides
import Derived.Deep.QuietTactic
import Derived.BigQuiet
import Derived.BigGuardPart
import Derived.Lib.QuietBelow
import Derived.OwnWalk
import Derived.KernelRfl
import Derived.Test.YtbcgokpamhgabaaKb27
namespace Go.Proofs.Ytbcgokpamhgabaa
set_option linter.unusedVariables false
set_option maxRecDepth 20000
open Go.RowKit Go.Sort

theorem playP_i64 (b : Ln) (p : Int) (hp : I64 p) (ls : List Ln) : I64 (playP b p ls) := by
  rcases Bool.eq_false_or_eq_true (posB b p) with hP | hP
  · exact posB_i64 (playP_pos hP ls)
  · rw [playP_same hP]; exact hp
theorem is2_ {P : Program} {f : FuncId} {args : Array Value} {w : World} {k : IntKind} {a b : Int} {x y : Bool} {Q : World → Prop} (h : Calls P f args w fun e w' => e = .returned (.tuple #[.int k a, .bool x]) ∧ Q w') (e : a = b) (e2 : x = y) : Calls P f args w fun e w' => e = .returned (.tuple #[.int k b, .bool y]) ∧ Q w' := e ▸ e2 ▸ h
set_option maxHeartbeats 1000000 in
theorem sPlayAll_ (b : Ln) (p : Int) (hp : I64 p) (ls : List Ln) (A : Option Addr) (c : Nat) (hm : ls.length ≤ 9223372036854775807) (W : World) (rd : Rd W W.heap.size A (flat ls)) :
    Calls Try.prog 41 #[.agg #[.int .i64 b.f, .int .i64 b.o, .int .i64 b.t], .int .i64 p, .slice A ls.length c] W fun e w' => e = .returned (.tuple #[.int .i64 (playR b p ls), .bool (playB b p ls)]) ∧ Below W.heap.size W w' := by
  have hbx : Below W.heap.size W (W.alloc (.cells #[.int .i64 b.f, .int .i64 b.o, .int .i64 b.t] 42)) := (Below.refl _ _).alloc (Nat.le_refl _) _
  have HBX := Lib.hid hbx
  have rd1 : Rd (W.alloc (.cells #[.int .i64 b.f, .int .i64 b.o, .int .i64 b.t] 42)) (W.heap.size + 1) A (flat ls) := (rd.below hbx).more (by omega)
  have b0 : (W.alloc (.cells #[.int .i64 b.f, .int .i64 b.o, .int .i64 b.t] 42)).cell? ⟨W.heap.size, 0, none⟩ = some (.int .i64 b.f) := by simp [go_sem]
  have b1 : (W.alloc (.cells #[.int .i64 b.f, .int .i64 b.o, .int .i64 b.t] 42)).cell? ⟨W.heap.size, 1, none⟩ = some (.int .i64 b.o) := by simp [go_sem]
  have b2 : (W.alloc (.cells #[.int .i64 b.f, .int .i64 b.o, .int .i64 b.t] 42)).cell? ⟨W.heap.size, 2, none⟩ = some (.int .i64 b.t) := by simp [go_sem]
  have B0 := Lib.hid b0
  have B1 := Lib.hid b1
  have B2 := Lib.hid b2
  have RD1 := Lib.hid rd1
  clear b0 b1 b2 rd1 hbx
  go_enter Try.func41, Try.ntmps41
  go_wp2_with fail
  go_loopw [8, 9] (fun qv iv wr => ∃ i : Nat, i ≤ ls.length ∧ iv = .int .i64 i ∧ qv = .int .i64 (playP b p (ls.take i)) ∧ playsB b p (ls.take i) = true ∧ (0 < i → ls.length ≤ 60) ∧ Below (W.heap.size + 1) (W.alloc (.cells #[.int .i64 b.f, .int .i64 b.o, .int .i64 b.t] 42)) wr) (fun _ iv _ => ls.length - (intOf iv).toNat)
  case atStart => exact ⟨0, Nat.zero_le _, rfl, rfl, rfl, by omega, Below.refl _ _⟩
  case round =>
    obtain ⟨i, hi, rfl, rfl, hpl, h60, hw⟩ := hrel
    have HPL := Lib.hid hpl
    have H60 := Lib.hid h60
    have hsz : W.heap.size + 1 ≤ wr.heap.size := by have := hw.size; simpa using this
    have hzr : W.heap.size < wr.heap.size := by omega
    have hq64 := playP_i64 b p hp (ls.take i)
    have c0 := (hw.cell (p := ⟨W.heap.size, 0, none⟩) (by simp)).trans B0.out
    have c1 := (hw.cell (p := ⟨W.heap.size, 1, none⟩) (by simp)).trans B1.out
    have c2 := (hw.cell (p := ⟨W.heap.size, 2, none⟩) (by simp)).trans B2.out
    clear hpl h60
    by_cases hlt : i < ls.length
    · obtain ⟨bb, off, l, rfl, hbl, hx, x0, x1, x2⟩ := (RD1.out.below hw).line hlt
      have HP1 := Lib.hid (playP_take (b := b) (p := p) hx)
      have HP2 := Lib.hid (playsB_take (b := b) (p := p) hx)
      have hbz : bb < wr.heap.size := by omega
      have i0 : (0 : Int) ≤ (i : Int) := by omega
      have i1 : (i : Int) < (ls.length : Int) := by omega
      generalize hq : playP b p (ls.take i) = q at HP1 HP2 hq64 ⊢
      clear hx hq
      have hc : ∀ (a : Addr) (p : Regrown) (W : World), a.block < W.heap.size → (grow (redrawn W p.d) p.os).cell? a = W.cell? a := fun a p W h => (below_regrown W p.d p.os).cell h
      rcases Bool.eq_false_or_eq_true (doB b q l) with hd | hd
      · by_cases h6 : ls.length ≤ 60
        · have HD : Hid (playsB b p (ls.take (i + 1)) = true) := Lib.hid (by rw [HP2.out, HPL.out, hd]; rfl)
          generalize hdp : doP b q l = q' at HP1
          have HDP := Lib.hid hdp
          clear hdp
          go_wp2_with fail
          refine wp_region_quiet_below (by kernel_rfl) (by kernel_rfl) ?_
          repeat (go_big_quiet_step (first | (go_at_call 64; exact Calls.regrown_of (is2_ (sDoJump_ b l q hq64 _) HDP.out hd))))
          refine wpQuiet_nil ?_
          intro w3 hw3
          obtain ⟨p3, hp3⟩ := hw3
          have hb3 := of_rg hp3
          clear hp3 p3
          have hw3 := hw.trans (hb3.mono hsz)
          clear hc
          go_wp2
          go_roundw
          case rel => exact ⟨i + 1, by omega, by go_num, by rw [HP1.out], HD.out, fun _ => h6, hw3⟩
          case measure => simp [intOf]; omega
        · have HD : Hid (playB b p ls = false) := Lib.hid (by simp [playB, h6])
          generalize hdp : doP b q l = q' at HP1
          have HDP := Lib.hid hdp
          clear hdp
          go_wp2_with fail
          refine wp_region_quiet_below (by kernel_rfl) (by kernel_rfl) ?_
          repeat (go_big_quiet_step (first | (go_at_call 64; exact Calls.regrown_of (is2_ (sDoJump_ b l q hq64 _) HDP.out hd))))
          refine wpQuiet_nil ?_
          intro w3 hw3
          obtain ⟨p3, hp3⟩ := hw3
          have hb3 := of_rg hp3
          clear hp3 p3
          have hw3 := hw.trans (hb3.mono hsz)
          clear hc
          go_wp2
          go_ret2
          exact ⟨by rw [playR_no HD.out, HD.out]; rfl, HBX.out.trans (hw3.mono (Nat.le_succ _))⟩
      · have HD : Hid (playB b p ls = false) := Lib.hid (by
          have : playsB b p ls = false := playsB_cut (i := i + 1) (by rw [HP2.out, HPL.out, hd]; rfl)
          simp [playB, this])
        generalize hdp : doP b q l = q' at HP1
        have HDP := Lib.hid hdp
        clear hdp
        go_wp2_with fail
        refine wp_region_quiet_below (by kernel_rfl) (by kernel_rfl) ?_
        repeat (go_big_quiet_step (first | (go_at_call 64; exact Calls.regrown_of (is2_ (sDoJump_ b l q hq64 _) HDP.out hd))))
        refine wpQuiet_nil ?_
        intro w3 hw3
        obtain ⟨p3, hp3⟩ := hw3
        have hb3 := of_rg hp3
        clear hp3 p3
        have hw3 := hw.trans (hb3.mono hsz)
        clear hc
        go_wp2
        go_ret2
        exact ⟨by rw [playR_no HD.out, HD.out]; rfl, HBX.out.trans (hw3.mono (Nat.le_succ _))⟩
    · have e : i = ls.length := by omega
      subst e
      have hpl := HPL.out
      rw [List.take_length] at hpl
      have h60 : ls.length ≤ 60 := by
        by_cases h0 : 0 < ls.length
        · exact H60.out h0
        · omega
      rw [List.take_length]
      rcases Bool.eq_false_or_eq_true (posB b p) with hP | hP
      · have HD : Hid (playB b p ls = true) := Lib.hid (by simp [playB, hP, h60, hpl])
        generalize hq : playP b p ls = q
        have HQ : Hid (playR b p ls = q) := Lib.hid (by rw [playR_yes HD.out, hq])
        clear hq hpl hq64
        go_wp2_with fail
        refine (is_ (sPositionOk_ b p hp _) hP).mono ?_
        rintro e w3 ⟨rfl, hb3⟩
        go_wp2
        go_ret2
        exact ⟨by rw [HQ.out, HD.out]; rfl, HBX.out.trans ((hw.trans (hb3.mono hsz)).mono (Nat.le_succ _))⟩
      · have HD : Hid (playB b p ls = false) := Lib.hid (by simp [playB, hP])
        clear hpl hq64
        generalize hq : playP b p ls = q
        clear hq
        go_wp2_with fail
        refine (is_ (sPositionOk_ b p hp _) hP).mono ?_
        rintro e w3 ⟨rfl, hb3⟩
        go_wp2
        go_ret2
        exact ⟨by rw [playR_no HD.out, HD.out]; rfl, HBX.out.trans ((hw.trans (hb3.mono hsz)).mono (Nat.le_succ _))⟩
/-- The game is a package: it can be played and only removes pegs. -/
def packB (b : Ln) (p : Int) (ls : List Ln) : Bool := playB b p ls && (decide (0 < ls.length) && decide ((playR b p ls).toNat &&& p.toNat = (playR b p ls).toNat))
theorem playB_pos {b : Ln} {p : Int} {ls : List Ln} (h : playB b p ls = true) : posB b p = true := by
  simp only [playB, Bool.and_eq_true] at h
  exact h.1
theorem play_nat {b : Ln} {p : Int} {ls : List Ln} (h : playB b p ls = true) : ∃ w hh s q r : Nat, b = ⟨w, hh, s⟩ ∧ p = q ∧ playR b p ls = r ∧ BdOk w hh s ∧ q &&& s = q ∧ r &&& s = r := by
  have hP := playB_pos h
  have hR := playP_pos hP ls
  rw [← playR_yes h] at hR
  obtain ⟨w, hh, s, q, rfl, rfl, hb, hq⟩ := posB_open hP
  obtain ⟨r, hr, hrs⟩ := posB_nat hR
  exact ⟨w, hh, s, q, r, rfl, rfl, hr, hb, hq, hrs⟩
theorem ad_zero' (p s : Nat) : (((adiff p s : Nat) : Int) == 0) = decide (p &&& s = p) := by
  rw [Bool.eq_iff_iff]; simp [and_eq_iff]
theorem and_self'' (p s : Nat) : (((p &&& s : Nat) : Int) == (p : Int)) = decide (p &&& s = p) := by
  rw [Bool.eq_iff_iff]; simp; omega
set_option maxHeartbeats 1000000 in
theorem iIsPackage_ (b : Ln) (p : Int) (hp : I64 p) (ls : List Ln) (A : Option Addr) (c : Nat) (hm : ls.length ≤ 9223372036854775807) (W : World) (rd : Rd W W.heap.size A (flat ls)) :
    Calls Try.prog 53 #[.agg #[.int .i64 b.f, .int .i64 b.o, .int .i64 b.t], .int .i64 p, .slice A ls.length c] W fun e w' => e = .returned (.bool (packB b p ls)) ∧ Below W.heap.size W w' := by
  have hbx : Below W.heap.size W (W.alloc (.cells #[.int .i64 b.f, .int .i64 b.o, .int .i64 b.t] 42)) := (Below.refl _ _).alloc (Nat.le_refl _) _
  have HBX := Lib.hid hbx
  have RD1 : Hid (Rd (W.alloc (.cells #[.int .i64 b.f, .int .i64 b.o, .int .i64 b.t] 42)) (W.alloc (.cells #[.int .i64 b.f, .int .i64 b.o, .int .i64 b.t] 42)).heap.size A (flat ls)) := Lib.hid (rd.laid _)
  clear hbx
  rcases Bool.eq_false_or_eq_true (playB b p ls) with hB | hB
  · by_cases h0 : 0 < ls.length
    · obtain ⟨w, hh, s, q, r, rfl, rfl, hr, hb, hq, hrs⟩ := play_nat hB
      have q63 := b63_area hb (posB_lt hb hq)
      have r63 := b63_area hb (posB_lt hb hrs)
      have H := Lib.hid (show decide (r &&& q = r) = packB ⟨w, hh, s⟩ q ls by simp [packB, hB, h0, hr])
      (have ha := i64_andNot r q r63 q63; have HQ := Lib.hid (ad_zero' r q))
      go_enter Try.func53, Try.ntmps53
      go_wp2_with fail
      refine (iPlayAll_ ⟨w, hh, s⟩ q hp ls A c hm _ RD1.out).mono ?_
      rintro e w1 ⟨rfl, hb1⟩
      rw [hr, hB]
      have hw1 : Below W.heap.size W w1 := below_step HBX.out hb1 (by (try simp))
      clear hr hB hq hrs
      go_wp2
      go_ret
      exact ⟨ret_bool (by rw [← H.out, ← HQ.out]), hw1⟩
    · have H := Lib.hid (show packB b p ls = false by simp [packB, h0])
      generalize hr : playR b p ls = r
      go_enter Try.func53, Try.ntmps53
      go_wp2_with fail
      refine (iPlayAll_ b p hp ls A c hm _ RD1.out).mono ?_
      rintro e w1 ⟨rfl, hb1⟩
      rw [hr, hB]
      have hw1 : Below W.heap.size W w1 := below_step HBX.out hb1 (by (try simp))
      clear hr hB
      go_wp2
      go_ret
      exact ⟨ret_bool H.out.symm, hw1⟩
  · have H := Lib.hid (show packB b p ls = false by simp [packB, hB])
    generalize hr : playR b p ls = r
    go_enter Try.func53, Try.ntmps53
    go_wp2_with fail
    refine (iPlayAll_ b p hp ls A c hm _ RD1.out).mono ?_
    rintro e w1 ⟨rfl, hb1⟩
    rw [hr, hB]
    have hw1 : Below W.heap.size W w1 := below_step HBX.out hb1 (by (try simp))
    clear hr hB
    go_wp2
    go_ret
    exact ⟨ret_bool H.out.symm, hw1⟩
set_option maxHeartbeats 1000000 in
theorem sIsPackage_ (b : Ln) (p : Int) (hp : I64 p) (ls : List Ln) (A : Option Addr) (c : Nat) (hm : ls.length ≤ 9223372036854775807) (W : World) (rd : Rd W W.heap.size A (flat ls)) :
    Calls Try.prog 164 #[.agg #[.int .i64 b.f, .int .i64 b.o, .int .i64 b.t], .int .i64 p, .slice A ls.length c] W fun e w' => e = .returned (.bool (packB b p ls)) ∧ Below W.heap.size W w' := by
  have hbx : Below W.heap.size W (W.alloc (.cells #[.int .i64 b.f, .int .i64 b.o, .int .i64 b.t] 42)) := (Below.refl _ _).alloc (Nat.le_refl _) _
  have HBX := Lib.hid hbx
  have RD1 : Hid (Rd (W.alloc (.cells #[.int .i64 b.f, .int .i64 b.o, .int .i64 b.t] 42)) (W.alloc (.cells #[.int .i64 b.f, .int .i64 b.o, .int .i64 b.t] 42)).heap.size A (flat ls)) := Lib.hid (rd.laid _)
  clear hbx
  rcases Bool.eq_false_or_eq_true (playB b p ls) with hB | hB
  · by_cases h0 : 0 < ls.length
    · obtain ⟨w, hh, s, q, r, rfl, rfl, hr, hb, hq, hrs⟩ := play_nat hB
      have q63 := b63_area hb (posB_lt hb hq)
      have r63 := b63_area hb (posB_lt hb hrs)
      have H := Lib.hid (show decide (r &&& q = r) = packB ⟨w, hh, s⟩ q ls by simp [packB, hB, h0, hr])
      (have ha := i64_and r q r63 q63; have HQ := Lib.hid (and_self'' r q))
      go_enter Try.func164, Try.ntmps164
      go_wp2_with fail
      refine (sPlayAll_ ⟨w, hh, s⟩ q hp ls A c hm _ RD1.out).mono ?_
      rintro e w1 ⟨rfl, hb1⟩
      rw [hr, hB]
      have hw1 : Below W.heap.size W w1 := below_step HBX.out hb1 (by (try simp))
      clear hr hB hq hrs
      go_wp2
      go_ret
      exact ⟨ret_bool (by rw [← H.out, ← HQ.out]), hw1⟩
    · have H := Lib.hid (show packB b p ls = false by simp [packB, h0])
      generalize hr : playR b p ls = r
      go_enter Try.func164, Try.ntmps164
      go_wp2_with fail
      refine (sPlayAll_ b p hp ls A c hm _ RD1.out).mono ?_
      rintro e w1 ⟨rfl, hb1⟩
      rw [hr, hB]
      have hw1 : Below W.heap.size W w1 := below_step HBX.out hb1 (by (try simp))
      clear hr hB
      go_wp2
      go_ret
      exact ⟨ret_bool H.out.symm, hw1⟩
  · have H := Lib.hid (show packB b p ls = false by simp [packB, hB])
    generalize hr : playR b p ls = r
    go_enter Try.func164, Try.ntmps164
    go_wp2_with fail
    refine (sPlayAll_ b p hp ls A c hm _ RD1.out).mono ?_
    rintro e w1 ⟨rfl, hb1⟩
    rw [hr, hB]
    have hw1 : Below W.heap.size W w1 := below_step HBX.out hb1 (by (try simp))
    clear hr hB
    go_wp2
    go_ret
    exact ⟨ret_bool H.out.symm, hw1⟩
end Go.Proofs.Ytbcgokpamhgabaa

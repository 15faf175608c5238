/- The walk of the law FnPackages. -/
import Derived.Test.YtbcgokpamhgabaaChecked
import Derived.Test.YtbcgokpamhgabaaMem
import Derived.Tactics
import Derived.Tactics2
import Derived.WalkKit
import Derived.WalkSpells
import Derived.WalkLawsBesides
import Derived.Deep.QuietTactic
import Derived.BigQuiet
import Derived.BigGuardPart
import Derived.Lib.QuietBelow
import Derived.OwnWalk
import Derived.KernelRfl
import Derived.Test.YtbcgokpamhgabaaOpenC
import Derived.Test.YtbcgokpamhgabaaDrawI
import Derived.Test.YtbcgokpamhgabaaPackagesP
import Derived.Test.YtbcgokpamhgabaaPackB
import Derived.Deep.DeepCutAuto
set_option linter.unusedVariables false
set_option maxRecDepth 100000
namespace Go.Proofs.Ytbcgokpamhgabaa
open Go.RowKit Go.Sort

theorem sPlayAll_n (b : Ln) (p : Int) (hp : I64 p) (ls : List Ln) (n : Nat) (hn : ls.length = n) (A : Option Addr) (c : Nat) (hm : n ≤ 1048576) (W : World) (rd : Rd W W.heap.size A (flat ls)) :
    Calls Try.prog 41 #[.agg #[.int .i64 b.f, .int .i64 b.o, .int .i64 b.t], .int .i64 p, .slice A n c] W fun e w' => e = .returned (.tuple #[.int .i64 (playR b p ls), .bool (playB b p ls)]) ∧ Below W.heap.size W w' := by
  subst hn
  exact sPlayAll_ b p hp ls A c (by omega) W rd
theorem iIsPackage_n (b : Ln) (p : Int) (hp : I64 p) (ls : List Ln) (n : Nat) (hn : ls.length = n) (A : Option Addr) (c : Nat) (hm : n ≤ 1048576) (W : World) (rd : Rd W W.heap.size A (flat ls)) :
    Calls Try.prog 53 #[.agg #[.int .i64 b.f, .int .i64 b.o, .int .i64 b.t], .int .i64 p, .slice A n c] W fun e w' => e = .returned (.bool (packB b p ls)) ∧ Below W.heap.size W w' := by
  subst hn
  exact iIsPackage_ b p hp ls A c (by omega) W rd
/-- A package and a Bool, of which nothing is read but the second number. -/
def GivesP2 (w : World) (g : Int) (ok : Bool) (e : Ending) (w' : World) : Prop :=
  ∃ (n : Int) (v : Value), v.oneCell' = true ∧ e = .returned (.tuple #[.agg #[.int .i64 n, .int .i64 g, v], .bool ok]) ∧ Below w.heap.size w w'
theorem iPackageOf_n (b : Ln) (p : Int) (hp : I64 p) (ls : List Ln) (n : Nat) (hn : ls.length = n) (A : Option Addr) (c : Nat) (hm : n ≤ 1048576) (W : World) (rd : Rd W W.heap.size A (flat ls)) :
    Calls Try.prog 52 #[.agg #[.int .i64 b.f, .int .i64 b.o, .int .i64 b.t], .int .i64 p, .slice A n c] W fun e w' => ∃ (k : Int) (A' : Option Addr) (n' c' : Nat), e = .returned (.tuple #[.agg #[.int .i64 k, .int .i64 (packG b p ls), .slice A' n' c'], .bool (packB b p ls)]) ∧ Below W.heap.size W w' := by
  subst hn
  refine (iPackageOf_ b p hp ls A c hm W rd).mono ?_
  rintro e w' ⟨A', c', he, _, hb⟩
  exact ⟨_, A', _, c', he, hb⟩
theorem iRect33_ (W : World) : Calls Try.prog 56 #[.int .i64 3, .int .i64 3] W fun e W' => e = .returned (.agg #[.int .i64 3, .int .i64 3, .int .i64 511]) ∧ Below W.heap.size W W' := by
  have h := iRectangle_ 3 3 (by omega) (by omega) (by omega) (by omega) W
  exact h
theorem iRow33_ (W : World) : Calls Try.prog 55 #[.agg #[.int .i64 3, .int .i64 3, .int .i64 511], .int .i64 3, .int .i64 0] W fun e w' => ∃ (k : Int) (A : Option Addr) (c : Nat),
    e = .returned (.tuple #[.agg #[.int .i64 k, .int .i64 56, .slice A (rLs b33 3 0).length c], .int .i64 120, .bool true]) ∧ Rd w' w'.heap.size A (flat (rLs b33 3 0)) ∧ Below W.heap.size W w' := by
  have h := iRowOfThree_ b33 3 0 (by unfold I64; omega) (by unfold I64; omega) W
  rw [row33_ok.1, row33_ok.2.1, row33_ok.2.2] at h
  refine h.mono ?_
  rintro e w' ⟨A, c, he, ho, hb⟩
  exact ⟨_, A, c, he, rd_of_own ho, hb⟩

/-- What stands in memory in the midst of the law. -/
structure PkSt (B : Nat) (b : Ln) (need gone : Int) (A : Option Addr) (n c : Nat) (js : List Ln) (w0 w : World) : Prop where
  bb : Box 42 w B b.f b.o b.t
  pp : PBox 60 w (B + 1) need gone (.slice A n c)
  rd : Rd w w.heap.size A (flat js)
  bel : Below w0.heap.size w0 w
theorem PkSt.next {B : Nat} {b : Ln} {need gone : Int} {A : Option Addr} {n c : Nat} {js : List Ln} {w0 w w' : World} (h : PkSt B b need gone A n c js w0 w) (hb : Below w.heap.size w w') : PkSt B b need gone A n c js w0 w' :=
  ⟨h.bb.next hb, h.pp.next hb, h.rd.next hb, below_next h.bel hb⟩
theorem PkSt.alloc {B : Nat} {b : Ln} {need gone : Int} {A : Option Addr} {n c : Nat} {js : List Ln} {w0 w : World} (h : PkSt B b need gone A n c js w0 w) (o : Obj) : PkSt B b need gone A n c js w0 (w.alloc o) := h.next ((Below.refl _ _).alloc (Nat.le_refl _) o)
theorem use_applies {b : Ln} {p : Int} {x : Int × Int} {q : Int} (h : useB b p x q = true) : applyB b p x.1 q = true := by
  simp only [useB, Bool.and_eq_true] at h
  exact h.1
theorem useP_i64 {b : Ln} {p : Int} {x : Int × Int} {q : Int} (hp : I64 p) : I64 (useP b p x q) := by
  unfold useP
  split
  · rename_i h
    simp only [useB, applyB, goneB, Bool.and_eq_true, decide_eq_true_eq] at h
    obtain ⟨⟨hP, _⟩, h0, hs⟩ := h
    obtain ⟨w, hh, s, q', rfl, rfl, hb, hq⟩ := posB_open hP
    rw [Int.toNat_natCast] at hs
    have := sub_le hs
    unfold I64 at *
    omega
  · exact hp

set_option maxHeartbeats 8000000 in
theorem fnPackages_walk (xs : List UInt8) (A0 : Option Addr) (c0' : Nat) (w : World) (rd : Rd w w.heap.size A0 (bts xs)) (hm : xs.length ≤ 9223372036854775807) :
    Calls Try.prog 7 #[.slice A0 xs.length c0'] w fun e w' => e = .returned (.bool true) ∧ Below w.heap.size w w' := by
  by_cases hbig : (1048576 : Int) < (xs.length : Int)
  · go_enter Try.func7, Try.ntmps7
    go_wp2_with (go_at_call 12; refine (big_ _ _ _ _).mono ?_; rintro e w1 ⟨rfl, rfl⟩)
    go_ret
    exact ⟨rfl, Below.refl _ _⟩
  · have hm1 : xs.length ≤ 1048576 := by omega
    have hm2 : (xs.length : Int) ≤ 1048576 := by omega
    have RC := Lib.hid rd
    clear rd hm
    go_enter Try.func7, Try.ntmps7
    go_wp2_with (go_at_call 12; refine (big_ _ _ _ _).mono ?_; rintro e w1 ⟨rfl, rfl⟩)
    refine (drawApplies_ xs A0 c0' _ RC.out hm1).mono ?_
    rintro e w1 ⟨b, q, need, gone, before, js, A, c, hfa, hfl, hq, hg, hbf, rfl, rd1, hw1⟩
    obtain ⟨n, hn⟩ : ∃ n, js.length = n := ⟨_, rfl⟩
    have HN := Lib.hid hn
    rw [hn] at hfl ⊢
    have HFA := Lib.hid hfa
    have RD1 := Lib.hid rd1
    clear hn hfa rd1
    go_upto_region 4 with fail
    have hst : PkSt w1.heap.size b need gone A n c js w ((w1.alloc (.cells #[.int .i64 b.f, .int .i64 b.o, .int .i64 b.t] 42)).alloc (.cells #[.int .i64 need, .int .i64 gone, .slice A n c] 60)) := by
      refine ⟨(box_new _ _ _ _ _).alloc _, ?_, (RD1.out.laid _).laid _, (hw1.alloc hw1.size _).alloc (by have := hw1.size; simp; omega) _⟩
      have := pbox_new 60 (w1.alloc (.cells #[.int .i64 b.f, .int .i64 b.o, .int .i64 b.t] 42)) need gone (.slice A n c)
      simpa using this
    have ST := Lib.hid hst
    clear hst RD1 hw1
    generalize ((w1.alloc (.cells #[.int .i64 b.f, .int .i64 b.o, .int .i64 b.t] 42)).alloc (.cells #[.int .i64 need, .int .i64 gone, .slice A n c] 60)) = u1 at *
    generalize w1.heap.size = B at *
    have HUSE := Lib.hid (fun (h1 : packB b before js = true) (h2 : packG b before js = gone) (h3 : useB b q (need, gone) before = true) (h4 : need = (needF js : Nat)) => pack_use h1 h4 h2 h3)
    have HUA := Lib.hid (fun (h : useB b q (need, gone) before = true) => use_applies h)
    have HPN : Hid (packB b before js = true → need = (needF js : Nat)) := Lib.hid fun h => by
      rcases HFA.out with h0 | h0
      · rw [h0] at h
        have := (pack_play h).2.1
        simp at this
      · exact h0
    have hri : I64 (useP b q (need, gone) before) := useP_i64 hq
    obtain ⟨c0, c1, c2⟩ := ST.out.bb.cells
    obtain ⟨d0, d1, d2⟩ := ST.out.pp.cells
    go_wp2_with fail
    refine (iApplies_ b q (need, gone) A n c before hq hbf _).mono ?_
    rintro e w2 ⟨rfl, hb2⟩
    have ST2 := Lib.hid (ST.out.next hb2)
    clear hb2 c0 c1 c2 d0 d1 d2 ST
    obtain ⟨c0, c1, c2⟩ := ST2.out.bb.cells
    obtain ⟨d0, d1, d2⟩ := ST2.out.pp.cells
    go_wp2_with fail
    refine (iUsePackage_ b q (need, gone) A n c before hq hg hbf _).mono ?_
    rintro e w3 ⟨rfl, hb3⟩
    have ST3 := Lib.hid (ST2.out.next hb3)
    clear hb3 c0 c1 c2 d0 d1 d2 ST2
    obtain ⟨c0, c1, c2⟩ := ST3.out.bb.cells
    obtain ⟨d0, d1, d2⟩ := ST3.out.pp.cells
    go_upto_region 6 with fail
    go_cut [10, 11] (fun yv mv wc => ∃ (k : Int) (A' : Option Addr) (n' c' Y : Nat), yv = .pointer (some ⟨Y, 0, none⟩) ∧ mv = .bool (packB b before js) ∧ PkSt B b need gone A n c js w wc ∧ PBox 60 wc Y k (packG b before js) (.slice A' n' c'))
    case first =>
      go_wp2_with fail
      refine (iPackageOf_n b before hbf js n HN.out A c (by omega) _ ST3.out.rd).mono ?_
      rintro e w4 ⟨k, A', n', c', rfl, hb4⟩
      go_wp2_with fail
      go_meet
      exact ⟨k, A', n', c', _, rfl, rfl, (ST3.out.next hb4).alloc _, pbox_new _ _ _ _ _⟩
    case rest =>
      clear c0 c1 c2 d0 d1 d2
      obtain ⟨k, A', n', c', Y, rfl, rfl, hs4, hy4⟩ := hcut
      have ST4 := Lib.hid hs4
      have PY4 := Lib.hid hy4
      clear hs4 hy4 ST3
      obtain ⟨AP, hAP⟩ : ∃ x, applyB b q (need, gone).1 before = x := ⟨_, rfl⟩
      obtain ⟨US, hUS⟩ : ∃ x, useB b q (need, gone) before = x := ⟨_, rfl⟩
      obtain ⟨UP, hUP⟩ : ∃ x, useP b q (need, gone) before = x := ⟨_, rfl⟩
      obtain ⟨MD, hMD⟩ : ∃ x, packB b before js = x := ⟨_, rfl⟩
      obtain ⟨PG, hPG⟩ : ∃ x, packG b before js = x := ⟨_, rfl⟩
      have HAP := Lib.hid hAP
      have HMD := Lib.hid hMD
      rw [hUS, hAP] at HUA
      rw [hMD] at HPN
      rw [hMD, hPG, hUS, hUP] at HUSE
      rw [hUP] at hri
      rw [hPG] at PY4
      rw [hAP, hUS, hUP, hMD]
      clear hAP hUS hUP hMD hPG
      go_step
      go_step
      go_cut [] (fun wd => PkSt B b need gone A n c js w wd ∧ PBox 60 wd Y k PG (.slice A' n' c'))
      case first =>
        obtain ⟨c0, c1, c2⟩ := ST4.out.bb.cells
        obtain ⟨d0, d1, d2⟩ := ST4.out.pp.cells
        go_wp2_with fail
        refine (is_ (iIsPackage_n b before hbf js n HN.out A c (by omega) _ ST4.out.rd) HMD.out).mono ?_
        rintro e w5 ⟨rfl, hb5⟩
        have ST5 := Lib.hid (ST4.out.next hb5)
        have PY5 := Lib.hid (PY4.out.next hb5)
        clear hb5 c0 c1 c2 d0 d1 d2
        obtain ⟨c0, c1, c2⟩ := ST5.out.bb.cells
        obtain ⟨d0, d1, d2⟩ := ST5.out.pp.cells
        go_wp2_with fail
        refine (is_ (sApplies_ b q (need, gone) A n c before hq hbf _) HAP.out).mono ?_
        rintro e w6 ⟨rfl, hb6⟩
        have ST6 := Lib.hid (ST5.out.next hb6)
        have PY6 := Lib.hid (PY5.out.next hb6)
        clear hb6 c0 c1 c2 d0 d1 d2
        go_wp2_with fail
        go_meet
        exact ⟨ST6.out, PY6.out⟩
      case rest =>
        clear ST4 PY4
        obtain ⟨hs5, hy5⟩ := hcut
        have ST5 := Lib.hid hs5
        have PY5 := Lib.hid hy5
        clear hs5 hy5
        go_step
        go_step
        go_cut [] (fun wd => PkSt B b need gone A n c js w wd)
        case first =>
          obtain ⟨c0, c1, c2⟩ := ST5.out.bb.cells
          obtain ⟨d0, d1, d2⟩ := ST5.out.pp.cells
          obtain ⟨e0, e1, e2⟩ := PY5.out.cells
          cases MD with
          | false =>
            go_wp2_with fail
            go_meet
            exact ST5.out
          | true =>
            by_cases hpg : PG = gone
            · subst hpg
              cases US with
              | false =>
                go_wp2_with fail
                go_meet
                exact ST5.out
              | true =>
                obtain ⟨k1, k2, k3⟩ := HUSE.out rfl rfl rfl (HPN.out rfl)
                rw [HN.out] at k3
                have K1 := Lib.hid k1
                have K2 := Lib.hid k2
                have K3 := Lib.hid k3
                clear k1 k2 k3
                go_wp2_with fail
                refine (is2_ (sPlayAll_n b q hq js n HN.out A c (by omega) _ ST5.out.rd) K2.out K1.out).mono ?_
                rintro e w6 ⟨rfl, hb6⟩
                have ST6 := Lib.hid (ST5.out.next hb6)
                clear hb6 c0 c1 c2 d0 d1 d2 e0 e1 e2
                obtain ⟨c0, c1, c2⟩ := ST6.out.bb.cells
                obtain ⟨d0, d1, d2⟩ := ST6.out.pp.cells
                go_wp2_with fail
                have k3 := K3.out
                have HX := Lib.hid ((Below.refl w6.heap.size w6).drew)
                go_region_held3 (fun w' => w'.cell? ⟨B, 0, none⟩ = some (.int .i64 b.f) ∧ w'.cell? ⟨B, 1, none⟩ = some (.int .i64 b.o) ∧ w'.cell? ⟨B, 2, none⟩ = some (.int .i64 b.t) ∧ w'.cell? ⟨B + 1, 2, none⟩ = some (.slice A n c)) (first | exact ⟨c0, c1, c2, d2⟩) (first
                  | (go_at_call 34; refine (sCountPegs_ b _ (by first | exact hq | exact hri) _).mono ?_; rintro e wX ⟨rfl, hbX⟩; have hY := below_next HX.out hbX; have HX' := Lib.hid hY; clear HX hY hbX c0 c1 c2 d0 d1 d2; have HX := HX'; clear HX'; obtain ⟨c0, c1, c2⟩ := (ST6.out.next HX.out).bb.cells; obtain ⟨d0, d1, d2⟩ := (ST6.out.next HX.out).pp.cells))
                all_goals
                  go_wp2_with fail
                  go_meet
                  exact ST6.out.next HX.out
            · have hpg' : (PG == gone) = false := by simpa using hpg
              go_wp2_with fail
              go_meet
              exact ST5.out
        case rest =>
          clear ST5 PY5
          have hw7 := hcut.bel
          have HUA2 := HUA
          clear hcut HUSE HPN HFA hri HAP HMD HUA
          go_wp2_with fail
          refine (iRect33_ _).mono ?_
          rintro e w8 ⟨rfl, hb8⟩
          have hw8 := below_next hw7 hb8
          clear hb8
          go_wp2_with fail
          refine (iRow33_ _).mono ?_
          rintro e w9 ⟨k2, AR, cR, rfl, rdR, hb9⟩
          obtain ⟨m, hm⟩ : ∃ m, (rLs b33 3 0).length = m := ⟨_, rfl⟩
          have HM := Lib.hid hm
          have hm60 : m ≤ 60 := by rw [← hm]; exact rLs_le _ _ _
          rw [hm]
          have hw9 := (below_next hw8 hb9).alloc (by have := (below_next hw8 hb9).size; omega) (.cells #[.int .i64 k2, .int .i64 56, .slice AR m cR] 60)
          have RR := Lib.hid (rdR.laid (.cells #[.int .i64 k2, .int .i64 56, .slice AR m cR] 60))
          have PR := Lib.hid (pbox_new 60 w9 k2 56 (.slice AR m cR))
          clear hb9 rdR hm
          go_upto_region 14 with fail
          generalize w9.alloc (.cells #[.int .i64 k2, .int .i64 56, .slice AR m cR] 60) = u9 at *
          generalize w9.heap.size = R at *
          obtain ⟨c0, d1, d2⟩ := PR.out.cells
          have HPB := Lib.hid row33_play
          have h120 : I64 (120 : Int) := by unfold I64; omega
          have HX := Lib.hid ((Below.refl u9.heap.size u9).drew)
          go_region_held3 (fun w' => w'.cell? ⟨R, 1, none⟩ = some (.int .i64 56) ∧ w'.cell? ⟨R, 2, none⟩ = some (.slice AR m cR)) (first | exact ⟨d1, d2⟩) (first
            | (go_at_call 56; refine (iRect33_ _).mono ?_; rintro e wX ⟨rfl, hbX⟩; have hY := below_next HX.out hbX; have HX' := Lib.hid hY; clear HX hY hbX c0 d1 d2; have HX := HX'; clear HX'; obtain ⟨c0, d1, d2⟩ := (PR.out.next HX.out).cells)
            | (go_at_call 41; refine (is2_ (sPlayAll_n b33 120 h120 (rLs b33 3 0) m HM.out AR cR (by omega) _ (RR.out.next HX.out)) HPB.out.2.1 HPB.out.1).mono ?_; rintro e wX ⟨rfl, hbX⟩; have hY := below_next HX.out hbX; have HX' := Lib.hid hY; clear HX hY hbX c0 d1 d2; have HX := HX'; clear HX'; obtain ⟨c0, d1, d2⟩ := (PR.out.next HX.out).cells))
          all_goals
            have PR2 := Lib.hid (PR.out.next HX.out)
            have RR2 := Lib.hid (RR.out.next HX.out)
            have hw10 := below_next hw9 HX.out
            clear PR RR hw9 HX
            have PR := PR2
            have RR := RR2
            clear PR2 RR2
            go_wp2_with fail
            have HX := Lib.hid ((Below.refl wX.heap.size wX).drew)
            have hw64 : IntKind.i64.wrap 64 = 64 := by rw [IntKind.wrap_i64]; rfl
            have hw120 : IntKind.i64.wrap ((120 : Int) - 56) = 64 := by rw [IntKind.wrap_i64]; rfl
            cases US with
            | true =>
              have hap := HUA2.out rfl
              subst hap
              go_region_held3 (fun w' => w'.cell? ⟨R, 1, none⟩ = some (.int .i64 56) ∧ w'.cell? ⟨R, 2, none⟩ = some (.slice AR m cR)) (first | exact ⟨d1, d2⟩) (first
                | (go_at_call 56; refine (iRect33_ _).mono ?_; rintro e wX ⟨rfl, hbX⟩; have hY := below_next HX.out hbX; have HX' := Lib.hid hY; clear HX hY hbX c0 d1 d2; have HX := HX'; clear HX'; obtain ⟨c0, d1, d2⟩ := (PR.out.next HX.out).cells)
                | (go_at_call 34; refine (isI_ (sCountPegs_ b33 120 h120 _) HPB.out.2.2.2).mono ?_; rintro e wX ⟨rfl, hbX⟩; have hY := below_next HX.out hbX; have HX' := Lib.hid hY; clear HX hY hbX c0 d1 d2; have HX := HX'; clear HX'; obtain ⟨c0, d1, d2⟩ := (PR.out.next HX.out).cells)
                | (go_at_call 53; refine (is_ (iIsPackage_n b33 120 h120 (rLs b33 3 0) m HM.out AR cR (by omega) _ (RR.out.next HX.out)) HPB.out.2.2.1).mono ?_; rintro e wX ⟨rfl, hbX⟩; have hY := below_next HX.out hbX; have HX' := Lib.hid hY; clear HX hY hbX c0 d1 d2; have HX := HX'; clear HX'; obtain ⟨c0, d1, d2⟩ := (PR.out.next HX.out).cells))
              all_goals
                go_wp2
                go_ret
                exact ⟨rfl, below_next hw10 HX.out⟩
            | false =>
              have hlR := PR.out.lt
              have hc : ∀ (a : Addr) (p : Regrown) (W : World), a.block < W.heap.size → (grow (redrawn W p.d) p.os).cell? a = W.cell? a := fun a p W h => (below_regrown W p.d p.os).cell h
              refine wp_region_quiet_below (by kernel_rfl) (by kernel_rfl) ?_
              repeat (go_big_quiet_step (first | (go_at_call 56; exact Calls.regrown_of (iRect33_ _)) | (go_at_call 34; exact Calls.regrown_of (isI_ (sCountPegs_ b33 120 h120 _) HPB.out.2.2.2)) | (go_at_call 53; exact Calls.regrown_of (is_ (iIsPackage_n b33 120 h120 (rLs b33 3 0) m HM.out AR cR (by omega) _ (RR.out.next (below_regrown _ _ _))) HPB.out.2.2.1))))
              refine wpQuiet_nil ?_
              intro w12 hw12
              obtain ⟨p12, hp12⟩ := hw12
              have hb12 := of_rg hp12
              clear hp12 p12
              have hw12 := below_next hw10 hb12
              clear hc
              go_wp2
              go_ret
              exact ⟨rfl, hw12⟩
end Go.Proofs.Ytbcgokpamhgabaa

/- The contracts of the reference's FewestSweeps and SweepGame. -/
import Derived.Test.YtliljgmpdfdakaaChecked
import Derived.Test.YtliljgmpdfdakaaMem
import Derived.Tactics
import Derived.Tactics2
import Derived.WalkKit
import Derived.WalkSpells
import Derived.WalkLawsBesides
import Derived.Deep.QuietTactic
import Derived.BigQuiet
import Derived.BigGuardPart
import Derived.Lib.QuietBelow
import Derived.OwnWalk
import Derived.KernelRfl
import Derived.Test.YtliljgmpdfdakaaSweepT
set_option linter.unusedVariables false
set_option maxRecDepth 20000
namespace Go.Proofs.Ytliljgmpdfdakaa
open Go.RowKit Go.Sort

theorem find_same {P Q : Ln → Bool} : ∀ (ls : List Ln), (∀ l ∈ ls, P l = Q l) → ls.find? P = ls.find? Q
  | [], _ => rfl
  | l :: ls, h => by
    have e := h l (by simp)
    have ih := find_same ls (fun x hx => h x (by simp [hx]))
    cases hq : Q l with
    | true => rw [List.find?_cons_of_pos (by rw [e, hq]), List.find?_cons_of_pos hq]
    | false => rw [List.find?_cons_of_neg (by rw [e, hq]; simp), List.find?_cons_of_neg (by rw [hq]; simp), ih]
theorem pick_last {ls : List Ln} (h49 : ∀ l ∈ ls, Ln49 l) {good : Nat → Bool} {g p : Nat} {a c : Int} (h1 : ∀ l ∈ ls, l.f ≠ a) (h2 : ∀ l ∈ ls, l.f ≠ c) : pickS ls good g p a = pickS ls good g p c := by
  rw [pickS, pickS]
  refine find_same ls fun l hl => ?_
  rw [cost_last (h1 l hl) (h2 l hl), swp_last h49 h1 h2]
theorem sgame_last {ls : List Ln} (h49 : ∀ l ∈ ls, Ln49 l) {good : Nat → Bool} {g p : Nat} {a c : Int} (h1 : ∀ l ∈ ls, l.f ≠ a) (h2 : ∀ l ∈ ls, l.f ≠ c) : sgame ls good g p a = sgame ls good g p c := by
  rw [sgame, sgame, sgameN, sgameN, pick_last h49 h1 h2]
/-- Jumps that can't be made are never picked. -/
theorem find_filter {P C : Ln → Bool} : ∀ (ls : List Ln), (∀ l ∈ ls, P l = true → C l = true) → (ls.filter C).find? P = ls.find? P
  | [], _ => rfl
  | l :: ls, h => by
    have ih := find_filter ls (fun x hx => h x (by simp [hx]))
    cases hc : C l with
    | true =>
      rw [List.filter_cons_of_pos hc]
      cases hp : P l with
      | true => rw [List.find?_cons_of_pos hp, List.find?_cons_of_pos hp]
      | false => rw [List.find?_cons_of_neg (by simp [hp]), List.find?_cons_of_neg (by simp [hp]), ih]
    | false =>
      have hp : P l = false := by
        cases hp : P l with
        | false => rfl
        | true => rw [h l (by simp) hp] at hc; cases hc
      rw [List.filter_cons_of_neg (by simp [hc]), List.find?_cons_of_neg (by simp [hp]), ih]
/-- What the table holds. -/
def TabR (w : World) (B tb wh pg : Nat) (R : List Nat) (F : Nat → List Int) : Prop :=
  B ≤ tb ∧ tb < w.heap.size ∧ ∀ x ∈ R, pg ≤ popc x → ∃ ib c, B ≤ ib ∧ ib < w.heap.size ∧ w.cell? ⟨tb, x, none⟩ = some (.slice (some ⟨ib, 0, none⟩) (wh + 1) c) ∧ ∀ a v, (F x)[a]? = some v → w.cell? ⟨ib, a, none⟩ = some (.int .i64 v)
theorem TabR.grown {w w' : World} {B tb wh pg : Nat} {R : List Nat} {F : Nat → List Int} {row : Option Nat} (h : TabR w B tb wh pg R F) (hg : w.grownBy w' row) (hr : ∀ g, row = some g → g < B) : TabR w' B tb wh pg R F := by
  obtain ⟨h1, h2, h3⟩ := h
  refine ⟨h1, Nat.lt_of_lt_of_le h2 hg.size, fun x hx hp => ?_⟩
  obtain ⟨ib, c, h4, h5, h6, h7⟩ := h3 x hx hp
  exact ⟨ib, c, h4, Nat.lt_of_lt_of_le h5 hg.size, (World.cell?_of_block (a := ⟨tb, x, none⟩) (hg.block _ h2 (show some tb ≠ row from fun e => by have := hr tb e.symm; omega))).trans h6, fun a v hv => (World.cell?_of_block (a := ⟨ib, a, none⟩) (hg.block _ h5 (show some ib ≠ row from fun e => by have := hr ib e.symm; omega))).trans (h7 a v hv)⟩
theorem TabR.next {w w' : World} {B tb wh pg : Nat} {R : List Nat} {F : Nat → List Int} (h : TabR w B tb wh pg R F) (hb : Below w.heap.size w w') : TabR w' B tb wh pg R F := h.grown (grown_below hb none) (fun g hg => by cases hg)
theorem tab_reads {w : World} {B T E N c wh pg : Nat} {A : Option Addr} {vs : List Value} {rows : List (List Int)} {R : List Nat} {F : Nat → List Int} (h : Grid w B T E 1 (.slice A N c) vs (flatsI rows)) (hn : rows.length = N) (h0 : 0 < N)
    (hR : ∀ x ∈ R, pg ≤ popc x → rows[x]? = some (F x)) (hF : ∀ x, (F x).length = wh + 1) (hN : ∀ x ∈ R, x < N) : ∃ tb, A = some ⟨tb, 0, none⟩ ∧ TabR w B tb wh pg R F := by
  obtain ⟨g, A0, c0, r0, hA, hg, -, -, -, -, -⟩ := h.rowI (i := 0) (by omega)
  subst hA
  refine ⟨g, rfl, h.over.1 g rfl, hg, fun x hx hp => ?_⟩
  obtain ⟨g', Ai, ci, r, hA, _, hr, hv, ho, hc, _⟩ := h.rowI (i := x) (by have := hN x hx; omega)
  have e : g' = g := by injection hA with hA; injection hA with hA; exact hA.symm
  subst e
  rw [hR x hx hp] at hr
  injection hr with hr
  subst hr
  rw [hF x] at hv ho hc
  obtain ⟨iz, icap, hiv, hib, hiz⟩ := ho.form (by omega)
  injection hiv with e1 e2 e3
  subst e1 e3
  refine ⟨iz, ci, hib, hiz, hc, fun a v hv => ?_⟩
  have ha : a < wh + 1 := by have := (List.getElem?_eq_some_iff.1 hv).1; rw [hF x] at this; exact this
  obtain ⟨z, hz, hzc, _⟩ := own_at1 ho ha
  rw [hv] at hz
  injection hz with hz
  subst hz
  exact hzc

theorem reach_here {w h s q : Nat} (hb : BdOk w h s) (hS : smallB ⟨w, h, s⟩ = true) (hP : posB ⟨w, h, s⟩ q = true) (hq : q < 2 ^ (w * h)) : q ∈ reachL ⟨w, h, s⟩ q false :=
  (reachL_mem hS hP q).2 (bfs_self hq (stays_of hb))
theorem posB_small {w h s x : Nat} (hb : BdOk w h s) (hx : posB ⟨w, h, s⟩ x = true) : x < 2 ^ (w * h) := by
  obtain ⟨x', e, hx'⟩ := posB_nat hx
  have e : x = x' := by omega
  subst e
  exact posB_lt hb hx'
set_option maxHeartbeats 2000000 in
theorem sFewestSweeps_ (b : Ln) (p g : Int) (hp : I64 p) (hg : I64 g) (W : World) :
    Calls Try.prog 18 #[.agg #[.int .i64 b.f, .int .i64 b.o, .int .i64 b.t], .int .i64 p, .int .i64 g] W fun e w' => e = .returned (.int .i64 (fewL b p g)) ∧ Below W.heap.size W w' := by
  rcases Bool.eq_false_or_eq_true (leadsB b p g) with hO | hO
  · have hPG := leadsB_pair hO
    simp only [pairB, Bool.and_eq_true] at hPG
    obtain ⟨⟨hS, hP⟩, hG⟩ := hPG
    obtain ⟨w, h, s, rfl, hb, h16, s16⟩ := smallB_nat hS
    obtain ⟨q, rfl, hq⟩ := posB_nat hP
    obtain ⟨r, rfl, hr⟩ := posB_nat hG
    have hql := posB_lt hb hq
    have hrl := posB_lt hb hr
    have hw1' := hb.w1
    have hh1' := hb.h1
    obtain ⟨m1, m2, m3⟩ := area_bounds hb.w1 hb.w7 hb.h1 hb.h7
    have HTAB := Lib.hid (fun W' => l21Least_ w h s q r hO W')
    have HLF : Hid (∀ l ∈ linesL ⟨w, h, s⟩, l.f ≠ (-1 : Int) ∧ l.f ≠ ((w * h : Nat) : Int) ∧ 0 ≤ l.t ∧ l.t < ((w * h : Nat) : Int)) := Lib.hid fun l hl => by
      obtain ⟨f, o, t, k⟩ := linesL_ok hb hl
      have := k.eq
      subst this
      have := k.f1
      have := k.t1
      simp only [ne_eq]
      omega
    have HSELF := Lib.hid (reach_here hb hS hP hql)
    have HGI := Lib.hid (fun (x : Nat) => good_iff (x := x) hb hS hG hrl)
    have hLD := (leadsB_iff hb (leadsB_pair hO) hql).1 hO
    have HLS := Lib.hid (lsFo_of hb)
    have HPGR : Hid (∀ x, goodL (spreadL ⟨w, h, s⟩ r true) x = true → popc r ≤ popc x) := Lib.hid fun x hx => Leads.pop HLS.out ((HGI.out x).1 hx)
    have HGQ : Hid (goodL (spreadL ⟨w, h, s⟩ r true) q = true) := Lib.hid ((HGI.out q).2 hLD)
    have HRN : Hid (∀ x ∈ reachL ⟨w, h, s⟩ q false, x < 2 ^ (w * h)) := Lib.hid fun x hx => posB_small hb (reach_pos hx)
    have HWI : Hid ((w : Int) * (h : Int) = ((w * h : Nat) : Int)) := Lib.hid (by rw [Int.natCast_mul])
    have hN0 : 0 < 2 ^ (w * h) := by omega
    have HFL : Hid (fewL ⟨w, h, s⟩ q r = tabV (linesL ⟨w, h, s⟩) (goodL (spreadL ⟨w, h, s⟩ r true)) r q (w * h)) := Lib.hid (by
      rw [fewL, hO, if_pos rfl, tabV, HGQ.out, if_pos rfl]
      simp only [Int.toNat_natCast]
      exact swp_last HLS.out (fun l hl => (HLF.out l hl).1) (fun l hl => (HLF.out l hl).2.1))
    have HRV := Lib.hid (fun (x a : Nat) (ha : a ≤ w * h) => rowV_get (ls := linesL ⟨w, h, s⟩) (good := goodL (spreadL ⟨w, h, s⟩ r true)) (g := r) (q := x) ha)
    have HRL := Lib.hid (fun (x : Nat) => rowV_len (linesL ⟨w, h, s⟩) (goodL (spreadL ⟨w, h, s⟩ r true)) r (w * h) x)
    have hpq := HPGR.out q HGQ.out
    obtain ⟨v, hv⟩ : ∃ v, tabV (linesL ⟨w, h, s⟩) (goodL (spreadL ⟨w, h, s⟩ r true)) r q (w * h) = v := ⟨_, rfl⟩
    have HRQ : Hid ((rowV (linesL ⟨w, h, s⟩) (goodL (spreadL ⟨w, h, s⟩ r true)) r (w * h) q)[w * h]? = some v) := Lib.hid (by rw [HRV.out q (w * h) (Nat.le_refl _), hv])
    rw [hv] at HFL
    obtain ⟨F, hF⟩ : ∃ F, rowV (linesL ⟨w, h, s⟩) (goodL (spreadL ⟨w, h, s⟩ r true)) r (w * h) = F := ⟨_, rfl⟩
    rw [hF] at HTAB HRQ
    have HRL' : Hid (∀ x, (F x).length = w * h + 1) := Lib.hid (by rw [← hF]; exact HRL.out)
    obtain ⟨N, hN⟩ : ∃ N, 2 ^ (w * h) = N := ⟨_, rfl⟩
    rw [hN] at HTAB hql hN0 HRN
    obtain ⟨wh, hwh⟩ : ∃ n, w * h = n := ⟨_, rfl⟩
    rw [hwh] at HRQ HRL' HWI h16
    have hwm : IntKind.i64.wrap ((w : Int) * (h : Int)) = (wh : Int) := by rw [HWI.out]; exact IntWalk.i64_in _ (by omega)
    have HWM := Lib.hid hwm
    clear hLD hS hP hG hq hr hb hF hv hN hwh hwm HRV HRL
    go_enter Try.func18, Try.ntmps18
    go_wp2_with fail
    refine (is_ (sCanReach_ ⟨w, h, s⟩ q r hp hg _) hO).mono ?_
    rintro e w1 ⟨rfl, hb1⟩
    obtain ⟨hc, hf⟩ := bcell hb1
    have z0 : W.heap.size < w1.heap.size := by have := hb1.size; (try simp at this); omega
    have hw1 : Below W.heap.size W w1 := below_step ((Below.refl _ _).alloc (Nat.le_refl _) _) hb1 (by (try simp); try omega)
    have c0 : w1.cell? ⟨W.heap.size, 0, none⟩ = some (.int .i64 w) := by rw [hc _ _ (by simp; try omega)]; simp [go_sem]
    have c1 : w1.cell? ⟨W.heap.size, 1, none⟩ = some (.int .i64 h) := by rw [hc _ _ (by simp; try omega)]; simp [go_sem]
    have c2 : w1.cell? ⟨W.heap.size, 2, none⟩ = some (.int .i64 s) := by rw [hc _ _ (by simp; try omega)]; simp [go_sem]
    clear hc hf
    clear hb1
    have hwm := HWM.out
    have q0 : (0 : Int) ≤ (q : Int) := by omega
    have q1 : (q : Int) < (N : Int) := by omega
    have v0 : (0 : Int) ≤ (wh : Int) := by omega
    have v1 : (wh : Int) < (wh : Int) + 1 := by omega
    have HW1 := Lib.hid hw1
    go_wp2_with fail
    go_region_with (first
      | (go_at_call 52; refine (HTAB.out _).mono ?_; rintro e wT ⟨A, cT, vs, rows, rfl, hrl, hrw, hgr, hbT⟩; have szT := hbT.size; (try simp at szT); obtain ⟨tb, hA, htr⟩ := tab_reads hgr hrl hN0 hrw HRL'.out HRN.out; subst hA; obtain ⟨htb, htl, hx⟩ := htr; obtain ⟨ib, ic, hib, hil, hcc0, hccs⟩ := hx q HSELF.out hpq; have hcc1 := hccs wh _ HRQ.out; have e0 := (hbT.cell (p := ⟨W.heap.size, 0, none⟩) (by (try simp) <;> (try omega))).trans (show _ = some (Value.int .i64 (w : Int)) by first | exact c0 | simpa using c0); have e1 := (hbT.cell (p := ⟨W.heap.size, 1, none⟩) (by (try simp) <;> (try omega))).trans (show _ = some (Value.int .i64 (h : Int)) by first | exact c1 | simpa using c1); have e2 := (hbT.cell (p := ⟨W.heap.size, 2, none⟩) (by (try simp) <;> (try omega))).trans (show _ = some (Value.int .i64 (s : Int)) by first | exact c2 | simpa using c2); have zT : W.heap.size < wT.heap.size := (by omega); have hwT : Below W.heap.size W wT := (by first | exact below_step HW1.out.drew hbT (by simp; try omega) | exact below_step HW1.out hbT (by omega)); clear hrw hgr hbT hx hccs))
    all_goals (go_wp2; go_ret; exact ⟨ret_int HFL.out.symm, hwT⟩)
  · have HR : Hid (fewL b p g = -1) := Lib.hid (by simp [fewL, hO])
    go_enter Try.func18, Try.ntmps18
    go_wp2_with fail
    refine (is_ (sCanReach_ b p g hp hg _) hO).mono ?_
    rintro e w1 ⟨rfl, hb1⟩
    obtain ⟨hc, hf⟩ := bcell hb1
    have z0 : W.heap.size < w1.heap.size := by have := hb1.size; (try simp at this); omega
    have hw1 : Below W.heap.size W w1 := below_step ((Below.refl _ _).alloc (Nat.le_refl _) _) hb1 (by (try simp); try omega)
    have c0 : w1.cell? ⟨W.heap.size, 0, none⟩ = some (.int .i64 b.f) := by rw [hc _ _ (by simp; try omega)]; simp [go_sem]
    have c1 : w1.cell? ⟨W.heap.size, 1, none⟩ = some (.int .i64 b.o) := by rw [hc _ _ (by simp; try omega)]; simp [go_sem]
    have c2 : w1.cell? ⟨W.heap.size, 2, none⟩ = some (.int .i64 b.t) := by rw [hc _ _ (by simp; try omega)]; simp [go_sem]
    clear hc hf
    go_wp2
    go_ret
    exact ⟨ret_int HR.out.symm, hw1⟩
end Go.Proofs.Ytliljgmpdfdakaa

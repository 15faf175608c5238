/- The contracts of FewestLeft and LongestGame. -/
import Derived.Test.YtbcgokpamhgabaaChecked
import Derived.Test.YtbcgokpamhgabaaMem
import Derived.Tactics
import Derived.Tactics2
import Derived.WalkKit
import Derived.WalkSpells
import Derived.WalkLawsBesides
import Derived.Deep.QuietTactic
import Derived.BigQuiet
import Derived.BigGuardPart
import Derived.Lib.QuietBelow
import Derived.OwnWalk
import Derived.KernelRfl
import Derived.Test.YtbcgokpamhgabaaShortG
set_option linter.unusedVariables false
set_option maxRecDepth 20000
namespace Go.Proofs.Ytbcgokpamhgabaa
open Go.RowKit Go.Sort

def fewL (rs : List Nat) (k : Nat) : Int := (rs.take k).foldl (fun a q => if a < 0 ∨ ((popc q : Nat) : Int) < a then ((popc q : Nat) : Int) else a) (-1)
theorem few_next {rs : List Nat} {k q : Nat} (hq : rs[k]? = some q) : fewL rs (k + 1) = if fewL rs k < 0 ∨ ((popc q : Nat) : Int) < fewL rs k then ((popc q : Nat) : Int) else fewL rs k := by
  obtain ⟨hk, e⟩ := List.getElem?_eq_some_iff.1 hq
  rw [fewL, List.take_succ_eq_append_getElem hk, e, List.foldl_append]
  rfl
theorem few_bound (rs : List Nat) : ∀ k, -1 ≤ fewL rs k ∧ fewL rs k ≤ 49 := by
  intro k
  have gen : ∀ (l : List Nat) (a : Int), -1 ≤ a → a ≤ 49 → -1 ≤ l.foldl (fun a q => if a < 0 ∨ ((popc q : Nat) : Int) < a then ((popc q : Nat) : Int) else a) a ∧ l.foldl (fun a q => if a < 0 ∨ ((popc q : Nat) : Int) < a then ((popc q : Nat) : Int) else a) a ≤ 49 := by
    intro l
    induction l with
    | nil => intro a h1 h2; exact ⟨h1, h2⟩
    | cons x l ih => intro a h1 h2; have := popc_le49 x; exact ih _ (by dsimp only; split <;> omega) (by dsimp only; split <;> omega)
  exact gen _ _ (by omega) (by omega)
def fewR (b : Ln) (p : Int) : Int := fewL (reachL b p false) (reachL b p false).length
set_option maxHeartbeats 1000000 in
theorem iFewestLeft_ (b : Ln) (p : Int) (hp : I64 p) (W : World) :
    Calls Try.prog 127 #[.agg #[.int .i64 b.f, .int .i64 b.o, .int .i64 b.t], .int .i64 p] W fun e w' => e = .returned (.int .i64 (fewR b p)) ∧ Below W.heap.size W w' := by
  have hrl := reachL_le b p false
  have hrlt : ∀ q ∈ reachL b p false, q < 65536 := fun q hq => reachL_lt q hq
  have HST0 : fewR b p = fewL (reachL b p false) (reachL b p false).length := rfl
  obtain ⟨rs, hrs⟩ : ∃ rs, reachL b p false = rs := ⟨_, rfl⟩
  rw [hrs] at hrl hrlt HST0
  have HR := Lib.hid hrs
  have HRL := Lib.hid hrlt
  have HST := Lib.hid HST0
  clear hrs hrlt HST0
  go_enter Try.func127, Try.ntmps127
  go_wp2_with fail
  refine (iReachOf_ b p hp _).mono ?_
  rintro e W2 ⟨AR, cR, rfl, own2, hb2⟩
  rw [HR.out] at own2 ⊢
  have rdR := rd_of_own own2
  have hW2 : Below W.heap.size W W2 := below_step ((Below.refl _ _).alloc (Nat.le_refl _) _) hb2 (by (try simp))
  clear own2 hb2
  go_wp2_with fail
  go_loopw [5, 12] (fun v i wr => ∃ k : Nat, k ≤ rs.length ∧ i = .int .i64 k ∧ v = .int .i64 (fewL rs k) ∧ Below W2.heap.size W2 wr) (fun _ i _ => rs.length - (intOf i).toNat)
  case atStart => exact ⟨0, Nat.zero_le _, rfl, rfl, Below.refl _ _⟩
  case round =>
    obtain ⟨k, hk, rfl, rfl, hw⟩ := hrel
    have hsz := hw.size
    have hmb := few_bound rs k
    by_cases hlt : k < rs.length
    · have hx : rs[k]? = some rs[k] := List.getElem?_eq_getElem hlt
      have hq6 := HRL.out _ (List.getElem_mem hlt)
      generalize rs[k] = q at hx hq6
      obtain ⟨bb, off, rfl, hbb, x0⟩ := rd_nat (rdR.below hw) hx
      have HY := Lib.hid (few_next hx)
      generalize fewL rs k = m at hmb HY ⊢
      clear hx
      have k0' : (0 : Int) ≤ (k : Int) := by omega
      have k1' : (k : Int) < (rs.length : Int) := by omega
      rcases Bool.eq_false_or_eq_true (decide (m < 0)) with h1 | h1
      · have HZ := Lib.hid (show (if m < 0 ∨ ((popc q : Nat) : Int) < m then ((popc q : Nat) : Int) else m) = ((popc q : Nat) : Int) from if_pos (.inl (by simpa using h1)))
        go_wp2_with (go_at_call 126; refine (pegsIn_ q hq6 _).mono ?_; rintro e w' ⟨rfl, rfl⟩)
        go_roundw
        case rel => exact ⟨k + 1, by omega, by go_num, by rw [HY.out, HZ.out], hw⟩
        case measure => simp [intOf]; omega
      · rcases Bool.eq_false_or_eq_true (decide (((popc q : Nat) : Int) < m)) with h2 | h2
        · have HZ := Lib.hid (show (if m < 0 ∨ ((popc q : Nat) : Int) < m then ((popc q : Nat) : Int) else m) = ((popc q : Nat) : Int) from if_pos (.inr (by simpa using h2)))
          go_wp2_with (go_at_call 126; refine (pegsIn_ q hq6 _).mono ?_; rintro e w' ⟨rfl, rfl⟩)
          go_roundw
          case rel => exact ⟨k + 1, by omega, by go_num, by rw [HY.out, HZ.out], hw⟩
          case measure => simp [intOf]; omega
        · have HZ := Lib.hid (show (if m < 0 ∨ ((popc q : Nat) : Int) < m then ((popc q : Nat) : Int) else m) = m from if_neg (by simp at h1 h2; omega))
          go_wp2_with (go_at_call 126; refine (pegsIn_ q hq6 _).mono ?_; rintro e w' ⟨rfl, rfl⟩)
          go_roundw
          case rel => exact ⟨k + 1, by omega, by go_num, by rw [HY.out, HZ.out], hw⟩
          case measure => simp [intOf]; omega
    · have e : k = rs.length := by omega
      subst e
      go_wp2
      go_ret
      exact ⟨by rw [HST.out]; rfl, hW2.trans (hw.mono hW2.size)⟩
set_option maxHeartbeats 1000000 in
theorem sFewestLeft_ (b : Ln) (p : Int) (hp : I64 p) (W : World) :
    Calls Try.prog 62 #[.agg #[.int .i64 b.f, .int .i64 b.o, .int .i64 b.t], .int .i64 p] W fun e w' => e = .returned (.int .i64 (fewR b p)) ∧ Below W.heap.size W w' := by
  have hrl := reachL_le b p false
  have hrlt : ∀ q ∈ reachL b p false, q < 65536 ∧ posB b q = true := fun q hq => ⟨reachL_lt q hq, reach_pos hq⟩
  have HST0 : fewR b p = fewL (reachL b p false) (reachL b p false).length := rfl
  obtain ⟨rs, hrs⟩ : ∃ rs, reachL b p false = rs := ⟨_, rfl⟩
  rw [hrs] at hrl hrlt HST0
  have HR := Lib.hid hrs
  have HRL := Lib.hid hrlt
  have HST := Lib.hid HST0
  clear hrs hrlt HST0
  go_enter Try.func62, Try.ntmps62
  go_wp2_with fail
  refine (sReachOf_ b p hp _).mono ?_
  rintro e W2 ⟨AR, cR, rfl, own2, hb2⟩
  rw [HR.out] at own2 ⊢
  have rdR := rd_of_own own2
  have hW2 : Below W.heap.size W W2 := below_step ((Below.refl _ _).alloc (Nat.le_refl _) _) hb2 (by (try simp))
  obtain ⟨hc2, hf⟩ := bcell hb2
  have hz12 : W.heap.size < W2.heap.size := by have := hb2.size; (try simp at this); omega
  have c0 : W2.cell? ⟨W.heap.size, 0, none⟩ = some (.int .i64 b.f) := by rw [hc2 _ _ (by simp)]; simp [go_sem]
  have c1 : W2.cell? ⟨W.heap.size, 1, none⟩ = some (.int .i64 b.o) := by rw [hc2 _ _ (by simp)]; simp [go_sem]
  have c2 : W2.cell? ⟨W.heap.size, 2, none⟩ = some (.int .i64 b.t) := by rw [hc2 _ _ (by simp)]; simp [go_sem]
  have C0 := Lib.hid c0
  have C1 := Lib.hid c1
  have C2 := Lib.hid c2
  clear own2 hb2 hc2 hf c0 c1 c2
  go_wp2_with fail
  go_loopw [6, 7] (fun v i wr => ∃ k : Nat, k ≤ rs.length ∧ i = .int .i64 k ∧ v = .int .i64 (fewL rs k) ∧ Below W2.heap.size W2 wr) (fun _ i _ => rs.length - (intOf i).toNat)
  case atStart => exact ⟨0, Nat.zero_le _, rfl, rfl, Below.refl _ _⟩
  case round =>
    obtain ⟨k, hk, rfl, rfl, hw⟩ := hrel
    have hsz := hw.size
    have hmb := few_bound rs k
    by_cases hlt : k < rs.length
    · have hx : rs[k]? = some rs[k] := List.getElem?_eq_getElem hlt
      have hq6 := HRL.out _ (List.getElem_mem hlt)
      generalize rs[k] = q at hx hq6
      obtain ⟨hq6, hqp⟩ := hq6
      obtain ⟨bb, off, rfl, hbb, x0⟩ := rd_nat (rdR.below hw) hx
      have hbz : bb < wr.heap.size := by omega
      have hWz : W.heap.size < wr.heap.size := by omega
      have c0 := (hw.cell (p := ⟨W.heap.size, 0, none⟩) hz12).trans C0.out
      have c1 := (hw.cell (p := ⟨W.heap.size, 1, none⟩) hz12).trans C1.out
      have c2 := (hw.cell (p := ⟨W.heap.size, 2, none⟩) hz12).trans C2.out
      have k0' : (0 : Int) ≤ (k : Int) := by omega
      have k1' : (k : Int) < (rs.length : Int) := by omega
      have HY := Lib.hid (few_next hx)
      have HP : Hid (pegsB b q = ((popc q : Nat) : Int)) := Lib.hid (by rw [pegsB, if_pos hqp, Int.toNat_natCast])
      have q63 : I64 (q : Int) := by unfold I64; omega
      generalize fewL rs k = m at hmb HY ⊢
      clear hx hqp
      have hc : ∀ (a : Addr) (p : Regrown) (W : World), a.block < W.heap.size → (grow (redrawn W p.d) p.os).cell? a = W.cell? a := fun a p W h => (below_regrown W p.d p.os).cell h
      go_wp2_with fail
      refine wp_region_quiet_below (by kernel_rfl) (by kernel_rfl) ?_
      repeat (go_big_quiet_step (first | (go_at_call 34; exact Calls.regrown_of (isI_ (sCountPegs_ b q q63 _) HP.out))))
      refine wpQuiet_nil ?_
      intro w4 hw4
      obtain ⟨p4, hp4⟩ := hw4
      have hb4 := of_rg hp4
      clear hp4 p4
      have hw4 := below_next hw hb4
      rcases Bool.eq_false_or_eq_true (decide (m < 0)) with h1 | h1
      · have HZ := Lib.hid (show (if m < 0 ∨ ((popc q : Nat) : Int) < m then ((popc q : Nat) : Int) else m) = ((popc q : Nat) : Int) from if_pos (.inl (by simpa using h1)))
        go_wp2
        go_roundw
        case rel => exact ⟨k + 1, by omega, by go_num, by rw [HY.out, HZ.out], hw4⟩
        case measure => simp [intOf]; omega
      · rcases Bool.eq_false_or_eq_true (decide (((popc q : Nat) : Int) < m)) with h2 | h2
        · have HZ := Lib.hid (show (if m < 0 ∨ ((popc q : Nat) : Int) < m then ((popc q : Nat) : Int) else m) = ((popc q : Nat) : Int) from if_pos (.inr (by simpa using h2)))
          go_wp2
          go_roundw
          case rel => exact ⟨k + 1, by omega, by go_num, by rw [HY.out, HZ.out], hw4⟩
          case measure => simp [intOf]; omega
        · have HZ := Lib.hid (show (if m < 0 ∨ ((popc q : Nat) : Int) < m then ((popc q : Nat) : Int) else m) = m from if_neg (by simp at h1 h2; omega))
          go_wp2
          go_roundw
          case rel => exact ⟨k + 1, by omega, by go_num, by rw [HY.out, HZ.out], hw4⟩
          case measure => simp [intOf]; omega
    · have e : k = rs.length := by omega
      subst e
      go_wp2
      go_ret
      exact ⟨by rw [HST.out]; rfl, hW2.trans (hw.mono hW2.size)⟩
end Go.Proofs.Ytbcgokpamhgabaa

/- How a slice of bytes reads; the small functions of the laws: big, at. The contracts of the helpers of the laws: copies, tests for equality, marks. -/
import Derived.Test.YtbcgokpamhgabaaChecked
import Derived.Test.YtbcgokpamhgabaaKb01
import Derived.Tactics
import Derived.Tactics2
import Derived.WalkKit
import Derived.WalkSpells
import Derived.WalkLawsBesides
import Derived.Deep.QuietTactic
import Derived.BigQuiet
import Derived.BigGuardPart
import Derived.Lib.QuietBelow
import Derived.OwnWalk
import Derived.KernelRfl
import Derived.Test.YtbcgokpamhgabaaKb02
import Derived.Test.YtbcgokpamhgabaaKb04
namespace Go.Proofs.Ytbcgokpamhgabaa
set_option linter.unusedVariables false
set_option maxRecDepth 20000
open Go.ChangeShapes Go.WideShapes Go.ChangeAt Go.RowKit Go.Joins Go.Deep

section
variable {H : Type} {enc : TypeId × Value → H} {P : Program} {w : World} {base : Nat} {spare : Nat → Bool} {held : Bool}
theorem open_bytes {t e : TypeId} {d : DataW H} {p : List MemPlace} {A : Option Addr} {n c : Nat}
    (ht : P.underlying t = some (.slice e)) (he : P.underlying e = some (.int .u8)) (hC : P.cellsOf e = 1)
    (h : DataW.Trod enc P w base spare held t (.slice A n c) d p) : ∃ xs : List UInt8, xs.length = n ∧ Rd w w.heap.size A (bts xs) ∧ n ≤ 9223372036854775807 := by
  obtain ⟨fuel, hf⟩ := h
  rcases open_ints ht he hC hf with ⟨hcs, _⟩ | ⟨a, len, cap, zs, hcs, _, hl, hm, hz, _, hcell, hwz⟩
  · simp [Value.cells] at hcs
    obtain ⟨rfl, rfl, rfl⟩ := hcs
    exact ⟨[], rfl, Rd.nil, by omega⟩
  · simp [Value.cells] at hcs
    obtain ⟨rfl, rfl, rfl⟩ := hcs
    have hge : n ≤ zs.length := by rw [hz]; split <;> omega
    refine ⟨(zs.take n).map fun z => UInt8.ofNat z.toNat, by simp; omega, ?_, by simp only [maxLen] at hm; omega⟩
    intro hpos
    have hn : 0 < zs.length := by simp [bts] at hpos; omega
    obtain ⟨b, off, rfl, hc⟩ := ints_at hcell hn
    refine ⟨b, off, rfl, World.block_lt_of_cell? w (⟨b, off + 0, none⟩ : Addr) (hc 0 hn), fun j u hu => ?_⟩
    have hj : j < n := by
      have := (List.getElem?_eq_some_iff.1 hu).1
      simp [bts] at this
      omega
    have hz := hwz zs[j] (List.getElem_mem (by omega))
    have hz' : 0 ≤ zs[j] ∧ zs[j] ≤ 255 := by simpa [Lit.wf, IntKind.min, IntKind.max, IntKind.signed, IntKind.bits] using hz
    rw [hc j (by omega), ← hu]
    simp [bts, hj, List.getD_eq_getElem?_getD, List.getElem?_eq_getElem (show j < zs.length by omega)]
    omega
end

theorem big_ (A : Option Addr) (n c : Nat) (w : World) :
    Calls Try.prog 12 #[.slice A n c] w fun e w' => e = .returned (.bool (decide ((1048576 : Int) < (n : Int)))) ∧ w = w' := by
  go_enter Try.func12, Try.ntmps12
  go_wp2
  go_ret
  exact ⟨rfl, rfl⟩
/-- A byte of the input. -/
def GivesByte (w : World) (e : Ending) (w' : World) : Prop := ∃ v : Nat, v ≤ 255 ∧ e = .returned (.int .i64 v) ∧ w = w'
theorem at_ (xs : List UInt8) (A : Option Addr) (c : Nat) (i : Nat) (w : World) (rd : Rd w w.heap.size A (bts xs)) (hm : xs.length ≤ 1048576) (hi : i ≤ 1048576) :
    Calls Try.prog 16 #[.slice A xs.length c, .int .i64 i] w (GivesByte w) := by
  have hi' : (i : Int) ≤ 1048576 := by omega
  by_cases h0 : xs.length = 0
  · have h0' : (xs.length : Int) = 0 := by omega
    go_enter Try.func16, Try.ntmps16
    go_wp2
    go_ret
    exact ⟨0, by omega, rfl, rfl⟩
  · have h0' : ¬ (xs.length : Int) = 0 := by omega
    have hp : 0 < xs.length := by omega
    have hlt := Nat.mod_lt (i * 5 + 1) hp
    have e1 : ((i : Int) * 5 + 1) % (xs.length : Int) = (((i * 5 + 1) % xs.length : Nat) : Int) := by rw [Int.natCast_emod]; rfl
    generalize (i * 5 + 1) % xs.length = j at *
    have hx : xs[j]? = some xs[j] := List.getElem?_eq_getElem hlt
    generalize hxe : xs[j] = x at hx
    obtain ⟨g, off, rfl, hg, hc⟩ := rd (by rw [bts_length]; omega)
    have d0 : w.cell? ⟨g, off + j, none⟩ = some (.int .u8 (x.toNat : Int)) := hc j _ (by simp [bts, hx])
    have hx8 : x.toNat ≤ 255 := by have := x.toNat_lt; omega
    have hx9 : (x.toNat : Int) ≤ 255 := by omega
    have g1 : (j : Int) < (xs.length : Int) := by omega
    have g0 : (0 : Int) ≤ (j : Int) := by omega
    have gp : (0 : Int) < (xs.length : Int) := by omega
    clear hc hxe hx rd
    go_enter Try.func16, Try.ntmps16
    go_wp2
    go_ret
    exact ⟨x.toNat, hx8, rfl, rfl⟩
end Go.Proofs.Ytbcgokpamhgabaa
namespace Go.Proofs.Ytbcgokpamhgabaa
set_option linter.unusedVariables false
open Go.RowKit Go.Sort

theorem infoLine : (Try.prog.info? 34).map (fun i => (i.zero, i.size, i.bytes)) = some (some (.agg #[.int .i64 0, .int .i64 0, .int .i64 0]), 3, 24) := by kernel_rfl
theorem infoInt : (Try.prog.info? 3).map (fun i => (i.zero, i.size, i.bytes)) = some (some (.int .i64 0), 1, 8) := by kernel_rfl
end Go.Proofs.Ytbcgokpamhgabaa

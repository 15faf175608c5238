/-
  No cell of these rows narrows 'for every input' (looked for: loops, veiled, ifaces, maps, wideKeys, modest, calm, conditions, laid).
  DERIVED. THE GIVEN ROWS OF THIS SEAT. 11 by the template 'for every input the law returns true; each argument reads behind the call as it read before'; 0 by the template 'total and deterministic' (their statements: YtfbpnfjaheeooaaTotals.lean).
  GIVEN WITH THE SEED: the statements are not yours to turn. If you find one false, say at which input.
  Laid BY PROGRAM, IN A SANDBOX (cutbox-rows.mjs): the forced cells as the released guide's own fill.sh prints them over the translation 42b26876f198725f… (all of the seat's roots in one cut). By AI agents, Wed Nov 11 2026. No macro, syntax, notation, axiom, sorry.
-/
import Derived.Test.YtfbpnfjaheeooaaChecked
import GoSem.Claim
import GoSem.ClaimJoined
import GoSem.ClaimMapViews
import Derived.JoinedTies
import Derived.KernelRfl
namespace Go.Proofs.Ytfbpnfjaheeooaa
/- THE CELL 'sum', in the pinned program and in every row, IS THE sha256 OF THE DUMP (.gsa) THAT YtfbpnfjaheeooaaProg.lean LOADS. Nothing in Lean hashes anything: it is a label: what it is worth is what the hold of that sum in a sandbox is worth. -/
noncomputable def Try.pinned : Pinned := { name := "ytfbpnfjaheeooaa", sum := "42b26876f198725fbd6b3701ef50ed5d266e2fc8232aa08afe16e8dbb8e692d6", checked := Try.checked }
namespace Rows
def none {H : Type} : Left H := { results := [], args := [] }

/-- 'laws.FnExactApplies': WHATEVER THE INPUT: true; the input reads as it did. -/
def fnExactAppliesSpec : ChangeSpec := { name := "fnExactApplies", fn := fun _ => fun
  | [d1, d2, d3, d4] => { results := [.lit (.bool true)], args := [d1, d2, d3, d4] }
  | _ => none }
def fnExactAppliesRow : OpenClaim := { program := "ytfbpnfjaheeooaa", sum := "42b26876f198725fbd6b3701ef50ed5d266e2fc8232aa08afe16e8dbb8e692d6", func := "loop.example/g03302/laws.FnExactApplies", spec := "fnExactApplies", apart := false }
def FnExactAppliesSaid : Prop := fnExactAppliesRow.holds Try.pinned (OpenSpec.ofChange fnExactAppliesSpec)

/-- ITS FALSE NEIGHBOUR: 'it returns false'. Refute it at one input. -/
def fnExactAppliesWrong : ChangeSpec := { name := "fnExactApplies", fn := fun _ => fun
  | [d1, d2, d3, d4] => { results := [.lit (.bool false)], args := [d1, d2, d3, d4] }
  | _ => none }
def FnExactAppliesWrongFalsely : Prop := fnExactAppliesRow.holds Try.pinned (OpenSpec.ofChange fnExactAppliesWrong)

/-- 'laws.FnExactUsePackage': WHATEVER THE INPUT: true; the input reads as it did. -/
def fnExactUsePackageSpec : ChangeSpec := { name := "fnExactUsePackage", fn := fun _ => fun
  | [d1, d2, d3, d4] => { results := [.lit (.bool true)], args := [d1, d2, d3, d4] }
  | _ => none }
def fnExactUsePackageRow : OpenClaim := { program := "ytfbpnfjaheeooaa", sum := "42b26876f198725fbd6b3701ef50ed5d266e2fc8232aa08afe16e8dbb8e692d6", func := "loop.example/g03302/laws.FnExactUsePackage", spec := "fnExactUsePackage", apart := false }
def FnExactUsePackageSaid : Prop := fnExactUsePackageRow.holds Try.pinned (OpenSpec.ofChange fnExactUsePackageSpec)

/-- ITS FALSE NEIGHBOUR: 'it returns false'. Refute it at one input. -/
def fnExactUsePackageWrong : ChangeSpec := { name := "fnExactUsePackage", fn := fun _ => fun
  | [d1, d2, d3, d4] => { results := [.lit (.bool false)], args := [d1, d2, d3, d4] }
  | _ => none }
def FnExactUsePackageWrongFalsely : Prop := fnExactUsePackageRow.holds Try.pinned (OpenSpec.ofChange fnExactUsePackageWrong)

/-- 'laws.FnExactLeastForm': WHATEVER THE INPUT: true; the input reads as it did. -/
def fnExactLeastFormSpec : ChangeSpec := { name := "fnExactLeastForm", fn := fun _ => fun
  | [d1, d2] => { results := [.lit (.bool true)], args := [d1, d2] }
  | _ => none }
def fnExactLeastFormRow : OpenClaim := { program := "ytfbpnfjaheeooaa", sum := "42b26876f198725fbd6b3701ef50ed5d266e2fc8232aa08afe16e8dbb8e692d6", func := "loop.example/g03302/laws.FnExactLeastForm", spec := "fnExactLeastForm", apart := false }
def FnExactLeastFormSaid : Prop := fnExactLeastFormRow.holds Try.pinned (OpenSpec.ofChange fnExactLeastFormSpec)

/-- ITS FALSE NEIGHBOUR: 'it returns false'. Refute it at one input. -/
def fnExactLeastFormWrong : ChangeSpec := { name := "fnExactLeastForm", fn := fun _ => fun
  | [d1, d2] => { results := [.lit (.bool false)], args := [d1, d2] }
  | _ => none }
def FnExactLeastFormWrongFalsely : Prop := fnExactLeastFormRow.holds Try.pinned (OpenSpec.ofChange fnExactLeastFormWrong)

/-- 'laws.FnExactIsStuck': WHATEVER THE INPUT: true; the input reads as it did. -/
def fnExactIsStuckSpec : ChangeSpec := { name := "fnExactIsStuck", fn := fun _ => fun
  | [d1, d2] => { results := [.lit (.bool true)], args := [d1, d2] }
  | _ => none }
def fnExactIsStuckRow : OpenClaim := { program := "ytfbpnfjaheeooaa", sum := "42b26876f198725fbd6b3701ef50ed5d266e2fc8232aa08afe16e8dbb8e692d6", func := "loop.example/g03302/laws.FnExactIsStuck", spec := "fnExactIsStuck", apart := false }
def FnExactIsStuckSaid : Prop := fnExactIsStuckRow.holds Try.pinned (OpenSpec.ofChange fnExactIsStuckSpec)

/-- ITS FALSE NEIGHBOUR: 'it returns false'. Refute it at one input. -/
def fnExactIsStuckWrong : ChangeSpec := { name := "fnExactIsStuck", fn := fun _ => fun
  | [d1, d2] => { results := [.lit (.bool false)], args := [d1, d2] }
  | _ => none }
def FnExactIsStuckWrongFalsely : Prop := fnExactIsStuckRow.holds Try.pinned (OpenSpec.ofChange fnExactIsStuckWrong)

/-- 'laws.FnExactCountStuck': WHATEVER THE INPUT: true; the input reads as it did. -/
def fnExactCountStuckSpec : ChangeSpec := { name := "fnExactCountStuck", fn := fun _ => fun
  | [d] => { results := [.lit (.bool true)], args := [d] }
  | _ => none }
def fnExactCountStuckRow : OpenClaim := { program := "ytfbpnfjaheeooaa", sum := "42b26876f198725fbd6b3701ef50ed5d266e2fc8232aa08afe16e8dbb8e692d6", func := "loop.example/g03302/laws.FnExactCountStuck", spec := "fnExactCountStuck", apart := false }
def FnExactCountStuckSaid : Prop := fnExactCountStuckRow.holds Try.pinned (OpenSpec.ofChange fnExactCountStuckSpec)

/-- ITS FALSE NEIGHBOUR: 'it returns false'. Refute it at one input. -/
def fnExactCountStuckWrong : ChangeSpec := { name := "fnExactCountStuck", fn := fun _ => fun
  | [d] => { results := [.lit (.bool false)], args := [d] }
  | _ => none }
def FnExactCountStuckWrongFalsely : Prop := fnExactCountStuckRow.holds Try.pinned (OpenSpec.ofChange fnExactCountStuckWrong)

/-- 'laws.FnSymmetry': WHATEVER THE INPUT: true; the input reads as it did. -/
def fnSymmetrySpec : ChangeSpec := { name := "fnSymmetry", fn := fun _ => fun
  | [d] => { results := [.lit (.bool true)], args := [d] }
  | _ => none }
def fnSymmetryRow : OpenClaim := { program := "ytfbpnfjaheeooaa", sum := "42b26876f198725fbd6b3701ef50ed5d266e2fc8232aa08afe16e8dbb8e692d6", func := "loop.example/g03302/laws.FnSymmetry", spec := "fnSymmetry", apart := false }
def FnSymmetrySaid : Prop := fnSymmetryRow.holds Try.pinned (OpenSpec.ofChange fnSymmetrySpec)

/-- ITS FALSE NEIGHBOUR: 'it returns false'. Refute it at one input. -/
def fnSymmetryWrong : ChangeSpec := { name := "fnSymmetry", fn := fun _ => fun
  | [d] => { results := [.lit (.bool false)], args := [d] }
  | _ => none }
def FnSymmetryWrongFalsely : Prop := fnSymmetryRow.holds Try.pinned (OpenSpec.ofChange fnSymmetryWrong)

/-- 'laws.FnExactIsPackage': WHATEVER THE INPUT: true; the input reads as it did. -/
def fnExactIsPackageSpec : ChangeSpec := { name := "fnExactIsPackage", fn := fun _ => fun
  | [d1, d2, d3] => { results := [.lit (.bool true)], args := [d1, d2, d3] }
  | _ => none }
def fnExactIsPackageRow : OpenClaim := { program := "ytfbpnfjaheeooaa", sum := "42b26876f198725fbd6b3701ef50ed5d266e2fc8232aa08afe16e8dbb8e692d6", func := "loop.example/g03302/laws.FnExactIsPackage", spec := "fnExactIsPackage", apart := false }
def FnExactIsPackageSaid : Prop := fnExactIsPackageRow.holds Try.pinned (OpenSpec.ofChange fnExactIsPackageSpec)

/-- ITS FALSE NEIGHBOUR: 'it returns false'. Refute it at one input. -/
def fnExactIsPackageWrong : ChangeSpec := { name := "fnExactIsPackage", fn := fun _ => fun
  | [d1, d2, d3] => { results := [.lit (.bool false)], args := [d1, d2, d3] }
  | _ => none }
def FnExactIsPackageWrongFalsely : Prop := fnExactIsPackageRow.holds Try.pinned (OpenSpec.ofChange fnExactIsPackageWrong)

/-- 'laws.FnExactPackageOf': WHATEVER THE INPUT: true; the input reads as it did. -/
def fnExactPackageOfSpec : ChangeSpec := { name := "fnExactPackageOf", fn := fun _ => fun
  | [d1, d2, d3] => { results := [.lit (.bool true)], args := [d1, d2, d3] }
  | _ => none }
def fnExactPackageOfRow : OpenClaim := { program := "ytfbpnfjaheeooaa", sum := "42b26876f198725fbd6b3701ef50ed5d266e2fc8232aa08afe16e8dbb8e692d6", func := "loop.example/g03302/laws.FnExactPackageOf", spec := "fnExactPackageOf", apart := false }
def FnExactPackageOfSaid : Prop := fnExactPackageOfRow.holds Try.pinned (OpenSpec.ofChange fnExactPackageOfSpec)

/-- ITS FALSE NEIGHBOUR: 'it returns false'. Refute it at one input. -/
def fnExactPackageOfWrong : ChangeSpec := { name := "fnExactPackageOf", fn := fun _ => fun
  | [d1, d2, d3] => { results := [.lit (.bool false)], args := [d1, d2, d3] }
  | _ => none }
def FnExactPackageOfWrongFalsely : Prop := fnExactPackageOfRow.holds Try.pinned (OpenSpec.ofChange fnExactPackageOfWrong)

/-- 'laws.FnTurned': WHATEVER THE INPUT: true; the input reads as it did. -/
def fnTurnedSpec : ChangeSpec := { name := "fnTurned", fn := fun _ => fun
  | [d] => { results := [.lit (.bool true)], args := [d] }
  | _ => none }
def fnTurnedRow : OpenClaim := { program := "ytfbpnfjaheeooaa", sum := "42b26876f198725fbd6b3701ef50ed5d266e2fc8232aa08afe16e8dbb8e692d6", func := "loop.example/g03302/laws.FnTurned", spec := "fnTurned", apart := false }
def FnTurnedSaid : Prop := fnTurnedRow.holds Try.pinned (OpenSpec.ofChange fnTurnedSpec)

/-- ITS FALSE NEIGHBOUR: 'it returns false'. Refute it at one input. -/
def fnTurnedWrong : ChangeSpec := { name := "fnTurned", fn := fun _ => fun
  | [d] => { results := [.lit (.bool false)], args := [d] }
  | _ => none }
def FnTurnedWrongFalsely : Prop := fnTurnedRow.holds Try.pinned (OpenSpec.ofChange fnTurnedWrong)

/-- 'laws.FnExactRowOfThree': WHATEVER THE INPUT: true; the input reads as it did. -/
def fnExactRowOfThreeSpec : ChangeSpec := { name := "fnExactRowOfThree", fn := fun _ => fun
  | [d1, d2, d3] => { results := [.lit (.bool true)], args := [d1, d2, d3] }
  | _ => none }
def fnExactRowOfThreeRow : OpenClaim := { program := "ytfbpnfjaheeooaa", sum := "42b26876f198725fbd6b3701ef50ed5d266e2fc8232aa08afe16e8dbb8e692d6", func := "loop.example/g03302/laws.FnExactRowOfThree", spec := "fnExactRowOfThree", apart := false }
def FnExactRowOfThreeSaid : Prop := fnExactRowOfThreeRow.holds Try.pinned (OpenSpec.ofChange fnExactRowOfThreeSpec)

/-- ITS FALSE NEIGHBOUR: 'it returns false'. Refute it at one input. -/
def fnExactRowOfThreeWrong : ChangeSpec := { name := "fnExactRowOfThree", fn := fun _ => fun
  | [d1, d2, d3] => { results := [.lit (.bool false)], args := [d1, d2, d3] }
  | _ => none }
def FnExactRowOfThreeWrongFalsely : Prop := fnExactRowOfThreeRow.holds Try.pinned (OpenSpec.ofChange fnExactRowOfThreeWrong)

/-- 'laws.FnPackages': WHATEVER THE INPUT: true; the input reads as it did. -/
def fnPackagesSpec : ChangeSpec := { name := "fnPackages", fn := fun _ => fun
  | [d] => { results := [.lit (.bool true)], args := [d] }
  | _ => none }
def fnPackagesRow : OpenClaim := { program := "ytfbpnfjaheeooaa", sum := "42b26876f198725fbd6b3701ef50ed5d266e2fc8232aa08afe16e8dbb8e692d6", func := "loop.example/g03302/laws.FnPackages", spec := "fnPackages", apart := false }
def FnPackagesSaid : Prop := fnPackagesRow.holds Try.pinned (OpenSpec.ofChange fnPackagesSpec)

/-- ITS FALSE NEIGHBOUR: 'it returns false'. Refute it at one input. -/
def fnPackagesWrong : ChangeSpec := { name := "fnPackages", fn := fun _ => fun
  | [d] => { results := [.lit (.bool false)], args := [d] }
  | _ => none }
def FnPackagesWrongFalsely : Prop := fnPackagesRow.holds Try.pinned (OpenSpec.ofChange fnPackagesWrong)

/- THE SECOND FORM. 'bulk': how many values and letters a reading holds, each counted each time it is reached (what is shared counts as often as it is met; a slice's spare places count too). A statement '..UptoSaid' is the law's where the arguments, and the package variables that the reading takes, are together of bulk at most 1048576: NARROWER than '..Said'. Prove '..Said' where nothing that the law and all that it calls make is longer than what came in: it says more and counts as full. Else prove '..UptoSaid'. A law counts once. -/
mutual
def uptoBulk {H : Type} : DataW H → Nat
  | .lit (.string bytes) => bytes.length + 1
  | .lit _ => 1
  | .nil => 1
  | .ptr d => uptoBulk d + 1
  | .slice elems spare => uptoBulkAll elems + uptoBulkAll spare + 1
  | .agg parts => uptoBulkAll parts + 1
  | .iface _ d => uptoBulk d + 1
  | .map entries => uptoBulkEntries entries + 1
  | .held _ => 1
def uptoBulkAll {H : Type} : List (DataW H) → Nat
  | [] => 0
  | d :: r => uptoBulk d + uptoBulkAll r
def uptoBulkEntries {H : Type} : List (Lit × DataW H) → Nat
  | [] => 0
  | x :: r => uptoBulkEntry x + uptoBulkEntries r
def uptoBulkEntry {H : Type} : Lit × DataW H → Nat
  | (.string bytes, d) => bytes.length + uptoBulk d + 1
  | (_, d) => uptoBulk d + 1
 end
def uptoSmall : (H : Type) → List (DataW H) → Bool := fun _ ds => decide (uptoBulkAll ds ≤ 1048576)
def OpenSpec.upto (s : _root_.Go.ChangeSpec) : _root_.Go.OpenSpec := { _root_.Go.OpenSpec.ofChange s with cond := some uptoSmall }

/-- 'laws.FnExactApplies', WHERE WHAT IT READS IS OF BULK AT MOST 1048576: true; the input reads as it did. -/
def fnExactAppliesUptoRow : OpenClaim := { program := "ytfbpnfjaheeooaa", sum := "42b26876f198725fbd6b3701ef50ed5d266e2fc8232aa08afe16e8dbb8e692d6", func := "loop.example/g03302/laws.FnExactApplies", spec := "fnExactApplies", apart := false, narrowed := true }
def FnExactAppliesUptoSaid : Prop := fnExactAppliesUptoRow.holds Try.pinned (OpenSpec.upto fnExactAppliesSpec)

/-- 'laws.FnExactUsePackage', WHERE WHAT IT READS IS OF BULK AT MOST 1048576: true; the input reads as it did. -/
def fnExactUsePackageUptoRow : OpenClaim := { program := "ytfbpnfjaheeooaa", sum := "42b26876f198725fbd6b3701ef50ed5d266e2fc8232aa08afe16e8dbb8e692d6", func := "loop.example/g03302/laws.FnExactUsePackage", spec := "fnExactUsePackage", apart := false, narrowed := true }
def FnExactUsePackageUptoSaid : Prop := fnExactUsePackageUptoRow.holds Try.pinned (OpenSpec.upto fnExactUsePackageSpec)

/-- 'laws.FnExactLeastForm', WHERE WHAT IT READS IS OF BULK AT MOST 1048576: true; the input reads as it did. -/
def fnExactLeastFormUptoRow : OpenClaim := { program := "ytfbpnfjaheeooaa", sum := "42b26876f198725fbd6b3701ef50ed5d266e2fc8232aa08afe16e8dbb8e692d6", func := "loop.example/g03302/laws.FnExactLeastForm", spec := "fnExactLeastForm", apart := false, narrowed := true }
def FnExactLeastFormUptoSaid : Prop := fnExactLeastFormUptoRow.holds Try.pinned (OpenSpec.upto fnExactLeastFormSpec)

/-- 'laws.FnExactIsStuck', WHERE WHAT IT READS IS OF BULK AT MOST 1048576: true; the input reads as it did. -/
def fnExactIsStuckUptoRow : OpenClaim := { program := "ytfbpnfjaheeooaa", sum := "42b26876f198725fbd6b3701ef50ed5d266e2fc8232aa08afe16e8dbb8e692d6", func := "loop.example/g03302/laws.FnExactIsStuck", spec := "fnExactIsStuck", apart := false, narrowed := true }
def FnExactIsStuckUptoSaid : Prop := fnExactIsStuckUptoRow.holds Try.pinned (OpenSpec.upto fnExactIsStuckSpec)

/-- 'laws.FnExactCountStuck', WHERE WHAT IT READS IS OF BULK AT MOST 1048576: true; the input reads as it did. -/
def fnExactCountStuckUptoRow : OpenClaim := { program := "ytfbpnfjaheeooaa", sum := "42b26876f198725fbd6b3701ef50ed5d266e2fc8232aa08afe16e8dbb8e692d6", func := "loop.example/g03302/laws.FnExactCountStuck", spec := "fnExactCountStuck", apart := false, narrowed := true }
def FnExactCountStuckUptoSaid : Prop := fnExactCountStuckUptoRow.holds Try.pinned (OpenSpec.upto fnExactCountStuckSpec)

/-- 'laws.FnSymmetry', WHERE WHAT IT READS IS OF BULK AT MOST 1048576: true; the input reads as it did. -/
def fnSymmetryUptoRow : OpenClaim := { program := "ytfbpnfjaheeooaa", sum := "42b26876f198725fbd6b3701ef50ed5d266e2fc8232aa08afe16e8dbb8e692d6", func := "loop.example/g03302/laws.FnSymmetry", spec := "fnSymmetry", apart := false, narrowed := true }
def FnSymmetryUptoSaid : Prop := fnSymmetryUptoRow.holds Try.pinned (OpenSpec.upto fnSymmetrySpec)

/-- 'laws.FnExactIsPackage', WHERE WHAT IT READS IS OF BULK AT MOST 1048576: true; the input reads as it did. -/
def fnExactIsPackageUptoRow : OpenClaim := { program := "ytfbpnfjaheeooaa", sum := "42b26876f198725fbd6b3701ef50ed5d266e2fc8232aa08afe16e8dbb8e692d6", func := "loop.example/g03302/laws.FnExactIsPackage", spec := "fnExactIsPackage", apart := false, narrowed := true }
def FnExactIsPackageUptoSaid : Prop := fnExactIsPackageUptoRow.holds Try.pinned (OpenSpec.upto fnExactIsPackageSpec)

/-- 'laws.FnExactPackageOf', WHERE WHAT IT READS IS OF BULK AT MOST 1048576: true; the input reads as it did. -/
def fnExactPackageOfUptoRow : OpenClaim := { program := "ytfbpnfjaheeooaa", sum := "42b26876f198725fbd6b3701ef50ed5d266e2fc8232aa08afe16e8dbb8e692d6", func := "loop.example/g03302/laws.FnExactPackageOf", spec := "fnExactPackageOf", apart := false, narrowed := true }
def FnExactPackageOfUptoSaid : Prop := fnExactPackageOfUptoRow.holds Try.pinned (OpenSpec.upto fnExactPackageOfSpec)

/-- 'laws.FnTurned', WHERE WHAT IT READS IS OF BULK AT MOST 1048576: true; the input reads as it did. -/
def fnTurnedUptoRow : OpenClaim := { program := "ytfbpnfjaheeooaa", sum := "42b26876f198725fbd6b3701ef50ed5d266e2fc8232aa08afe16e8dbb8e692d6", func := "loop.example/g03302/laws.FnTurned", spec := "fnTurned", apart := false, narrowed := true }
def FnTurnedUptoSaid : Prop := fnTurnedUptoRow.holds Try.pinned (OpenSpec.upto fnTurnedSpec)

/-- 'laws.FnExactRowOfThree', WHERE WHAT IT READS IS OF BULK AT MOST 1048576: true; the input reads as it did. -/
def fnExactRowOfThreeUptoRow : OpenClaim := { program := "ytfbpnfjaheeooaa", sum := "42b26876f198725fbd6b3701ef50ed5d266e2fc8232aa08afe16e8dbb8e692d6", func := "loop.example/g03302/laws.FnExactRowOfThree", spec := "fnExactRowOfThree", apart := false, narrowed := true }
def FnExactRowOfThreeUptoSaid : Prop := fnExactRowOfThreeUptoRow.holds Try.pinned (OpenSpec.upto fnExactRowOfThreeSpec)

/-- 'laws.FnPackages', WHERE WHAT IT READS IS OF BULK AT MOST 1048576: true; the input reads as it did. -/
def fnPackagesUptoRow : OpenClaim := { program := "ytfbpnfjaheeooaa", sum := "42b26876f198725fbd6b3701ef50ed5d266e2fc8232aa08afe16e8dbb8e692d6", func := "loop.example/g03302/laws.FnPackages", spec := "fnPackages", apart := false, narrowed := true }
def FnPackagesUptoSaid : Prop := fnPackagesUptoRow.holds Try.pinned (OpenSpec.upto fnPackagesSpec)

end Rows
end Go.Proofs.Ytfbpnfjaheeooaa

/-
  No cell of these rows narrows 'for every input' (looked for: loops, veiled, ifaces, maps, wideKeys, modest, calm, conditions, laid).
  DERIVED. THE GIVEN ROWS OF THIS SEAT. 9 by the template 'for every input the law returns true; each argument reads behind the call as it read before'; 0 by the template 'total and deterministic' (their statements: YtbcgokpamhgabaaTotals.lean).
  GIVEN WITH THE SEED: the statements are not yours to turn. If you find one false, say at which input.
  Laid BY PROGRAM, IN A SANDBOX (cutbox-rows.mjs): the forced cells as the released guide's own fill.sh prints them over the translation b41a484a6f37d644… (all of the seat's roots in one cut). By AI agents, Wed Nov 11 2026. No macro, syntax, notation, axiom, sorry.
-/
import Derived.Test.YtbcgokpamhgabaaChecked
import GoSem.Claim
import GoSem.ClaimJoined
import GoSem.ClaimMapViews
import Derived.JoinedTies
import Derived.KernelRfl
namespace Go.Proofs.Ytbcgokpamhgabaa
/- THE CELL 'sum', in the pinned program and in every row, IS THE sha256 OF THE DUMP (.gsa) THAT YtbcgokpamhgabaaProg.lean LOADS. Nothing in Lean hashes anything: it is a label: what it is worth is what the hold of that sum in a sandbox is worth. -/
noncomputable def Try.pinned : Pinned := { name := "ytbcgokpamhgabaa", sum := "b41a484a6f37d644f4e55222eeb30bbac9e5609633868145da2154c75debe197", checked := Try.checked }
namespace Rows
def none {H : Type} : Left H := { results := [], args := [] }

/-- 'laws.FnNormal': WHATEVER THE INPUT: true; the input reads as it did. -/
def fnNormalSpec : ChangeSpec := { name := "fnNormal", fn := fun _ => fun
  | [d] => { results := [.lit (.bool true)], args := [d] }
  | _ => none }
def fnNormalRow : OpenClaim := { program := "ytbcgokpamhgabaa", sum := "b41a484a6f37d644f4e55222eeb30bbac9e5609633868145da2154c75debe197", func := "loop.example/g03302/laws.FnNormal", spec := "fnNormal", apart := false }
def FnNormalSaid : Prop := fnNormalRow.holds Try.pinned (OpenSpec.ofChange fnNormalSpec)

/-- ITS FALSE NEIGHBOUR: 'it returns false'. Refute it at one input. -/
def fnNormalWrong : ChangeSpec := { name := "fnNormal", fn := fun _ => fun
  | [d] => { results := [.lit (.bool false)], args := [d] }
  | _ => none }
def FnNormalWrongFalsely : Prop := fnNormalRow.holds Try.pinned (OpenSpec.ofChange fnNormalWrong)

/-- 'laws.FnOrders': WHATEVER THE INPUT: true; the input reads as it did. -/
def fnOrdersSpec : ChangeSpec := { name := "fnOrders", fn := fun _ => fun
  | [d] => { results := [.lit (.bool true)], args := [d] }
  | _ => none }
def fnOrdersRow : OpenClaim := { program := "ytbcgokpamhgabaa", sum := "b41a484a6f37d644f4e55222eeb30bbac9e5609633868145da2154c75debe197", func := "loop.example/g03302/laws.FnOrders", spec := "fnOrders", apart := false }
def FnOrdersSaid : Prop := fnOrdersRow.holds Try.pinned (OpenSpec.ofChange fnOrdersSpec)

/-- ITS FALSE NEIGHBOUR: 'it returns false'. Refute it at one input. -/
def fnOrdersWrong : ChangeSpec := { name := "fnOrders", fn := fun _ => fun
  | [d] => { results := [.lit (.bool false)], args := [d] }
  | _ => none }
def FnOrdersWrongFalsely : Prop := fnOrdersRow.holds Try.pinned (OpenSpec.ofChange fnOrdersWrong)

/-- 'laws.FnSymmetry': WHATEVER THE INPUT: true; the input reads as it did. -/
def fnSymmetrySpec : ChangeSpec := { name := "fnSymmetry", fn := fun _ => fun
  | [d] => { results := [.lit (.bool true)], args := [d] }
  | _ => none }
def fnSymmetryRow : OpenClaim := { program := "ytbcgokpamhgabaa", sum := "b41a484a6f37d644f4e55222eeb30bbac9e5609633868145da2154c75debe197", func := "loop.example/g03302/laws.FnSymmetry", spec := "fnSymmetry", apart := false }
def FnSymmetrySaid : Prop := fnSymmetryRow.holds Try.pinned (OpenSpec.ofChange fnSymmetrySpec)

/-- ITS FALSE NEIGHBOUR: 'it returns false'. Refute it at one input. -/
def fnSymmetryWrong : ChangeSpec := { name := "fnSymmetry", fn := fun _ => fun
  | [d] => { results := [.lit (.bool false)], args := [d] }
  | _ => none }
def FnSymmetryWrongFalsely : Prop := fnSymmetryRow.holds Try.pinned (OpenSpec.ofChange fnSymmetryWrong)

/-- 'laws.FnTurned': WHATEVER THE INPUT: true; the input reads as it did. -/
def fnTurnedSpec : ChangeSpec := { name := "fnTurned", fn := fun _ => fun
  | [d] => { results := [.lit (.bool true)], args := [d] }
  | _ => none }
def fnTurnedRow : OpenClaim := { program := "ytbcgokpamhgabaa", sum := "b41a484a6f37d644f4e55222eeb30bbac9e5609633868145da2154c75debe197", func := "loop.example/g03302/laws.FnTurned", spec := "fnTurned", apart := false }
def FnTurnedSaid : Prop := fnTurnedRow.holds Try.pinned (OpenSpec.ofChange fnTurnedSpec)

/-- ITS FALSE NEIGHBOUR: 'it returns false'. Refute it at one input. -/
def fnTurnedWrong : ChangeSpec := { name := "fnTurned", fn := fun _ => fun
  | [d] => { results := [.lit (.bool false)], args := [d] }
  | _ => none }
def FnTurnedWrongFalsely : Prop := fnTurnedRow.holds Try.pinned (OpenSpec.ofChange fnTurnedWrong)

/-- 'laws.FnPackages': WHATEVER THE INPUT: true; the input reads as it did. -/
def fnPackagesSpec : ChangeSpec := { name := "fnPackages", fn := fun _ => fun
  | [d] => { results := [.lit (.bool true)], args := [d] }
  | _ => none }
def fnPackagesRow : OpenClaim := { program := "ytbcgokpamhgabaa", sum := "b41a484a6f37d644f4e55222eeb30bbac9e5609633868145da2154c75debe197", func := "loop.example/g03302/laws.FnPackages", spec := "fnPackages", apart := false }
def FnPackagesSaid : Prop := fnPackagesRow.holds Try.pinned (OpenSpec.ofChange fnPackagesSpec)

/-- ITS FALSE NEIGHBOUR: 'it returns false'. Refute it at one input. -/
def fnPackagesWrong : ChangeSpec := { name := "fnPackages", fn := fun _ => fun
  | [d] => { results := [.lit (.bool false)], args := [d] }
  | _ => none }
def FnPackagesWrongFalsely : Prop := fnPackagesRow.holds Try.pinned (OpenSpec.ofChange fnPackagesWrong)

/-- 'laws.FnStuck': WHATEVER THE INPUT: true; the input reads as it did. -/
def fnStuckSpec : ChangeSpec := { name := "fnStuck", fn := fun _ => fun
  | [d] => { results := [.lit (.bool true)], args := [d] }
  | _ => none }
def fnStuckRow : OpenClaim := { program := "ytbcgokpamhgabaa", sum := "b41a484a6f37d644f4e55222eeb30bbac9e5609633868145da2154c75debe197", func := "loop.example/g03302/laws.FnStuck", spec := "fnStuck", apart := false }
def FnStuckSaid : Prop := fnStuckRow.holds Try.pinned (OpenSpec.ofChange fnStuckSpec)

/-- ITS FALSE NEIGHBOUR: 'it returns false'. Refute it at one input. -/
def fnStuckWrong : ChangeSpec := { name := "fnStuck", fn := fun _ => fun
  | [d] => { results := [.lit (.bool false)], args := [d] }
  | _ => none }
def FnStuckWrongFalsely : Prop := fnStuckRow.holds Try.pinned (OpenSpec.ofChange fnStuckWrong)

/-- 'laws.FnBackwards': WHATEVER THE INPUT: true; the input reads as it did. -/
def fnBackwardsSpec : ChangeSpec := { name := "fnBackwards", fn := fun _ => fun
  | [d] => { results := [.lit (.bool true)], args := [d] }
  | _ => none }
def fnBackwardsRow : OpenClaim := { program := "ytbcgokpamhgabaa", sum := "b41a484a6f37d644f4e55222eeb30bbac9e5609633868145da2154c75debe197", func := "loop.example/g03302/laws.FnBackwards", spec := "fnBackwards", apart := false }
def FnBackwardsSaid : Prop := fnBackwardsRow.holds Try.pinned (OpenSpec.ofChange fnBackwardsSpec)

/-- ITS FALSE NEIGHBOUR: 'it returns false'. Refute it at one input. -/
def fnBackwardsWrong : ChangeSpec := { name := "fnBackwards", fn := fun _ => fun
  | [d] => { results := [.lit (.bool false)], args := [d] }
  | _ => none }
def FnBackwardsWrongFalsely : Prop := fnBackwardsRow.holds Try.pinned (OpenSpec.ofChange fnBackwardsWrong)

/-- 'laws.FnMeetings': WHATEVER THE INPUT: true; the input reads as it did. -/
def fnMeetingsSpec : ChangeSpec := { name := "fnMeetings", fn := fun _ => fun
  | [d] => { results := [.lit (.bool true)], args := [d] }
  | _ => none }
def fnMeetingsRow : OpenClaim := { program := "ytbcgokpamhgabaa", sum := "b41a484a6f37d644f4e55222eeb30bbac9e5609633868145da2154c75debe197", func := "loop.example/g03302/laws.FnMeetings", spec := "fnMeetings", recurses := true, apart := false }
def FnMeetingsSaid : Prop := fnMeetingsRow.holds Try.pinned (OpenSpec.ofChange fnMeetingsSpec)

/-- ITS FALSE NEIGHBOUR: 'it returns false'. Refute it at one input. -/
def fnMeetingsWrong : ChangeSpec := { name := "fnMeetings", fn := fun _ => fun
  | [d] => { results := [.lit (.bool false)], args := [d] }
  | _ => none }
def FnMeetingsWrongFalsely : Prop := fnMeetingsRow.holds Try.pinned (OpenSpec.ofChange fnMeetingsWrong)

/-- 'laws.FnCounts': WHATEVER THE INPUT: true; the input reads as it did. -/
def fnCountsSpec : ChangeSpec := { name := "fnCounts", fn := fun _ => fun
  | [d] => { results := [.lit (.bool true)], args := [d] }
  | _ => none }
def fnCountsRow : OpenClaim := { program := "ytbcgokpamhgabaa", sum := "b41a484a6f37d644f4e55222eeb30bbac9e5609633868145da2154c75debe197", func := "loop.example/g03302/laws.FnCounts", spec := "fnCounts", recurses := true, apart := false }
def FnCountsSaid : Prop := fnCountsRow.holds Try.pinned (OpenSpec.ofChange fnCountsSpec)

/-- ITS FALSE NEIGHBOUR: 'it returns false'. Refute it at one input. -/
def fnCountsWrong : ChangeSpec := { name := "fnCounts", fn := fun _ => fun
  | [d] => { results := [.lit (.bool false)], args := [d] }
  | _ => none }
def FnCountsWrongFalsely : Prop := fnCountsRow.holds Try.pinned (OpenSpec.ofChange fnCountsWrong)

/- THE SECOND FORM. 'bulk': how many values and letters a reading holds, each counted each time it is reached (what is shared counts as often as it is met; a slice's spare places count too). A statement '..UptoSaid' is the law's where the arguments, and the package variables that the reading takes, are together of bulk at most 1048576: NARROWER than '..Said'. Prove '..Said' where nothing that the law and all that it calls make is longer than what came in: it says more and counts as full. Else prove '..UptoSaid'. A law counts once. -/
mutual
def uptoBulk {H : Type} : DataW H → Nat
  | .lit (.string bytes) => bytes.length + 1
  | .lit _ => 1
  | .nil => 1
  | .ptr d => uptoBulk d + 1
  | .slice elems spare => uptoBulkAll elems + uptoBulkAll spare + 1
  | .agg parts => uptoBulkAll parts + 1
  | .iface _ d => uptoBulk d + 1
  | .map entries => uptoBulkEntries entries + 1
  | .held _ => 1
def uptoBulkAll {H : Type} : List (DataW H) → Nat
  | [] => 0
  | d :: r => uptoBulk d + uptoBulkAll r
def uptoBulkEntries {H : Type} : List (Lit × DataW H) → Nat
  | [] => 0
  | x :: r => uptoBulkEntry x + uptoBulkEntries r
def uptoBulkEntry {H : Type} : Lit × DataW H → Nat
  | (.string bytes, d) => bytes.length + uptoBulk d + 1
  | (_, d) => uptoBulk d + 1
 end
def uptoSmall : (H : Type) → List (DataW H) → Bool := fun _ ds => decide (uptoBulkAll ds ≤ 1048576)
def OpenSpec.upto (s : _root_.Go.ChangeSpec) : _root_.Go.OpenSpec := { _root_.Go.OpenSpec.ofChange s with cond := some uptoSmall }

/-- 'laws.FnNormal', WHERE WHAT IT READS IS OF BULK AT MOST 1048576: true; the input reads as it did. -/
def fnNormalUptoRow : OpenClaim := { program := "ytbcgokpamhgabaa", sum := "b41a484a6f37d644f4e55222eeb30bbac9e5609633868145da2154c75debe197", func := "loop.example/g03302/laws.FnNormal", spec := "fnNormal", apart := false, narrowed := true }
def FnNormalUptoSaid : Prop := fnNormalUptoRow.holds Try.pinned (OpenSpec.upto fnNormalSpec)

/-- 'laws.FnOrders', WHERE WHAT IT READS IS OF BULK AT MOST 1048576: true; the input reads as it did. -/
def fnOrdersUptoRow : OpenClaim := { program := "ytbcgokpamhgabaa", sum := "b41a484a6f37d644f4e55222eeb30bbac9e5609633868145da2154c75debe197", func := "loop.example/g03302/laws.FnOrders", spec := "fnOrders", apart := false, narrowed := true }
def FnOrdersUptoSaid : Prop := fnOrdersUptoRow.holds Try.pinned (OpenSpec.upto fnOrdersSpec)

/-- 'laws.FnSymmetry', WHERE WHAT IT READS IS OF BULK AT MOST 1048576: true; the input reads as it did. -/
def fnSymmetryUptoRow : OpenClaim := { program := "ytbcgokpamhgabaa", sum := "b41a484a6f37d644f4e55222eeb30bbac9e5609633868145da2154c75debe197", func := "loop.example/g03302/laws.FnSymmetry", spec := "fnSymmetry", apart := false, narrowed := true }
def FnSymmetryUptoSaid : Prop := fnSymmetryUptoRow.holds Try.pinned (OpenSpec.upto fnSymmetrySpec)

/-- 'laws.FnTurned', WHERE WHAT IT READS IS OF BULK AT MOST 1048576: true; the input reads as it did. -/
def fnTurnedUptoRow : OpenClaim := { program := "ytbcgokpamhgabaa", sum := "b41a484a6f37d644f4e55222eeb30bbac9e5609633868145da2154c75debe197", func := "loop.example/g03302/laws.FnTurned", spec := "fnTurned", apart := false, narrowed := true }
def FnTurnedUptoSaid : Prop := fnTurnedUptoRow.holds Try.pinned (OpenSpec.upto fnTurnedSpec)

/-- 'laws.FnPackages', WHERE WHAT IT READS IS OF BULK AT MOST 1048576: true; the input reads as it did. -/
def fnPackagesUptoRow : OpenClaim := { program := "ytbcgokpamhgabaa", sum := "b41a484a6f37d644f4e55222eeb30bbac9e5609633868145da2154c75debe197", func := "loop.example/g03302/laws.FnPackages", spec := "fnPackages", apart := false, narrowed := true }
def FnPackagesUptoSaid : Prop := fnPackagesUptoRow.holds Try.pinned (OpenSpec.upto fnPackagesSpec)

/-- 'laws.FnStuck', WHERE WHAT IT READS IS OF BULK AT MOST 1048576: true; the input reads as it did. -/
def fnStuckUptoRow : OpenClaim := { program := "ytbcgokpamhgabaa", sum := "b41a484a6f37d644f4e55222eeb30bbac9e5609633868145da2154c75debe197", func := "loop.example/g03302/laws.FnStuck", spec := "fnStuck", apart := false, narrowed := true }
def FnStuckUptoSaid : Prop := fnStuckUptoRow.holds Try.pinned (OpenSpec.upto fnStuckSpec)

/-- 'laws.FnBackwards', WHERE WHAT IT READS IS OF BULK AT MOST 1048576: true; the input reads as it did. -/
def fnBackwardsUptoRow : OpenClaim := { program := "ytbcgokpamhgabaa", sum := "b41a484a6f37d644f4e55222eeb30bbac9e5609633868145da2154c75debe197", func := "loop.example/g03302/laws.FnBackwards", spec := "fnBackwards", apart := false, narrowed := true }
def FnBackwardsUptoSaid : Prop := fnBackwardsUptoRow.holds Try.pinned (OpenSpec.upto fnBackwardsSpec)

/-- 'laws.FnMeetings', WHERE WHAT IT READS IS OF BULK AT MOST 1048576: true; the input reads as it did. -/
def fnMeetingsUptoRow : OpenClaim := { program := "ytbcgokpamhgabaa", sum := "b41a484a6f37d644f4e55222eeb30bbac9e5609633868145da2154c75debe197", func := "loop.example/g03302/laws.FnMeetings", spec := "fnMeetings", recurses := true, apart := false, narrowed := true }
def FnMeetingsUptoSaid : Prop := fnMeetingsUptoRow.holds Try.pinned (OpenSpec.upto fnMeetingsSpec)

/-- 'laws.FnCounts', WHERE WHAT IT READS IS OF BULK AT MOST 1048576: true; the input reads as it did. -/
def fnCountsUptoRow : OpenClaim := { program := "ytbcgokpamhgabaa", sum := "b41a484a6f37d644f4e55222eeb30bbac9e5609633868145da2154c75debe197", func := "loop.example/g03302/laws.FnCounts", spec := "fnCounts", recurses := true, apart := false, narrowed := true }
def FnCountsUptoSaid : Prop := fnCountsUptoRow.holds Try.pinned (OpenSpec.upto fnCountsSpec)

end Rows
end Go.Proofs.Ytbcgokpamhgabaa

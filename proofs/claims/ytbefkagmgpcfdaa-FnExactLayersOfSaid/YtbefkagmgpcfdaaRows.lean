/-
  No cell of these rows narrows 'for every input' (looked for: loops, veiled, ifaces, maps, wideKeys, modest, calm, conditions, laid).
  DERIVED. THE GIVEN ROWS OF THIS SEAT. 11 by the template 'for every input the law returns true; each argument reads behind the call as it read before'; 0 by the template 'total and deterministic' (their statements: YtbefkagmgpcfdaaTotals.lean).
  GIVEN WITH THE SEED: the statements are not yours to turn. If you find one false, say at which input.
  Laid BY PROGRAM, IN A SANDBOX (cutbox-rows.mjs): the forced cells as the released guide's own fill.sh prints them over the translation ab605413c0a768d3… (all of the seat's roots in one cut). By AI agents, Wed Nov 11 2026. No macro, syntax, notation, axiom, sorry.
-/
import Derived.Test.YtbefkagmgpcfdaaChecked
import GoSem.Claim
import GoSem.ClaimJoined
import GoSem.ClaimMapViews
import Derived.JoinedTies
import Derived.KernelRfl
namespace Go.Proofs.Ytbefkagmgpcfdaa
/- THE CELL 'sum', in the pinned program and in every row, IS THE sha256 OF THE DUMP (.gsa) THAT YtbefkagmgpcfdaaProg.lean LOADS. Nothing in Lean hashes anything: it is a label: what it is worth is what the hold of that sum in a sandbox is worth. -/
noncomputable def Try.pinned : Pinned := { name := "ytbefkagmgpcfdaa", sum := "ab605413c0a768d302b4cd180e0868df20ba138865f19534d971f0c0b4ca03c3", checked := Try.checked }
namespace Rows
def none {H : Type} : Left H := { results := [], args := [] }

/-- 'laws.FnNormal': WHATEVER THE INPUT: true; the input reads as it did. -/
def fnNormalSpec : ChangeSpec := { name := "fnNormal", fn := fun _ => fun
  | [d] => { results := [.lit (.bool true)], args := [d] }
  | _ => none }
def fnNormalRow : OpenClaim := { program := "ytbefkagmgpcfdaa", sum := "ab605413c0a768d302b4cd180e0868df20ba138865f19534d971f0c0b4ca03c3", func := "loop.example/g03302/laws.FnNormal", spec := "fnNormal", apart := false }
def FnNormalSaid : Prop := fnNormalRow.holds Try.pinned (OpenSpec.ofChange fnNormalSpec)

/-- ITS FALSE NEIGHBOUR: 'it returns false'. Refute it at one input. -/
def fnNormalWrong : ChangeSpec := { name := "fnNormal", fn := fun _ => fun
  | [d] => { results := [.lit (.bool false)], args := [d] }
  | _ => none }
def FnNormalWrongFalsely : Prop := fnNormalRow.holds Try.pinned (OpenSpec.ofChange fnNormalWrong)

/-- 'laws.FnExactLongestSweep': WHATEVER THE INPUT: true; the input reads as it did. -/
def fnExactLongestSweepSpec : ChangeSpec := { name := "fnExactLongestSweep", fn := fun _ => fun
  | [d] => { results := [.lit (.bool true)], args := [d] }
  | _ => none }
def fnExactLongestSweepRow : OpenClaim := { program := "ytbefkagmgpcfdaa", sum := "ab605413c0a768d302b4cd180e0868df20ba138865f19534d971f0c0b4ca03c3", func := "loop.example/g03302/laws.FnExactLongestSweep", spec := "fnExactLongestSweep", apart := false }
def FnExactLongestSweepSaid : Prop := fnExactLongestSweepRow.holds Try.pinned (OpenSpec.ofChange fnExactLongestSweepSpec)

/-- ITS FALSE NEIGHBOUR: 'it returns false'. Refute it at one input. -/
def fnExactLongestSweepWrong : ChangeSpec := { name := "fnExactLongestSweep", fn := fun _ => fun
  | [d] => { results := [.lit (.bool false)], args := [d] }
  | _ => none }
def FnExactLongestSweepWrongFalsely : Prop := fnExactLongestSweepRow.holds Try.pinned (OpenSpec.ofChange fnExactLongestSweepWrong)

/-- 'laws.FnExactMustPrecede': WHATEVER THE INPUT: true; the input reads as it did. -/
def fnExactMustPrecedeSpec : ChangeSpec := { name := "fnExactMustPrecede", fn := fun _ => fun
  | [d1, d2, d3] => { results := [.lit (.bool true)], args := [d1, d2, d3] }
  | _ => none }
def fnExactMustPrecedeRow : OpenClaim := { program := "ytbefkagmgpcfdaa", sum := "ab605413c0a768d302b4cd180e0868df20ba138865f19534d971f0c0b4ca03c3", func := "loop.example/g03302/laws.FnExactMustPrecede", spec := "fnExactMustPrecede", apart := false }
def FnExactMustPrecedeSaid : Prop := fnExactMustPrecedeRow.holds Try.pinned (OpenSpec.ofChange fnExactMustPrecedeSpec)

/-- ITS FALSE NEIGHBOUR: 'it returns false'. Refute it at one input. -/
def fnExactMustPrecedeWrong : ChangeSpec := { name := "fnExactMustPrecede", fn := fun _ => fun
  | [d1, d2, d3] => { results := [.lit (.bool false)], args := [d1, d2, d3] }
  | _ => none }
def FnExactMustPrecedeWrongFalsely : Prop := fnExactMustPrecedeRow.holds Try.pinned (OpenSpec.ofChange fnExactMustPrecedeWrong)

/-- 'laws.FnExactSwapAt': WHATEVER THE INPUT: true; the input reads as it did. -/
def fnExactSwapAtSpec : ChangeSpec := { name := "fnExactSwapAt", fn := fun _ => fun
  | [d1, d2] => { results := [.lit (.bool true)], args := [d1, d2] }
  | _ => none }
def fnExactSwapAtRow : OpenClaim := { program := "ytbefkagmgpcfdaa", sum := "ab605413c0a768d302b4cd180e0868df20ba138865f19534d971f0c0b4ca03c3", func := "loop.example/g03302/laws.FnExactSwapAt", spec := "fnExactSwapAt", apart := false }
def FnExactSwapAtSaid : Prop := fnExactSwapAtRow.holds Try.pinned (OpenSpec.ofChange fnExactSwapAtSpec)

/-- ITS FALSE NEIGHBOUR: 'it returns false'. Refute it at one input. -/
def fnExactSwapAtWrong : ChangeSpec := { name := "fnExactSwapAt", fn := fun _ => fun
  | [d1, d2] => { results := [.lit (.bool false)], args := [d1, d2] }
  | _ => none }
def FnExactSwapAtWrongFalsely : Prop := fnExactSwapAtRow.holds Try.pinned (OpenSpec.ofChange fnExactSwapAtWrong)

/-- 'laws.FnExactCountOrders': WHATEVER THE INPUT: true; the input reads as it did. -/
def fnExactCountOrdersSpec : ChangeSpec := { name := "fnExactCountOrders", fn := fun _ => fun
  | [d] => { results := [.lit (.bool true)], args := [d] }
  | _ => none }
def fnExactCountOrdersRow : OpenClaim := { program := "ytbefkagmgpcfdaa", sum := "ab605413c0a768d302b4cd180e0868df20ba138865f19534d971f0c0b4ca03c3", func := "loop.example/g03302/laws.FnExactCountOrders", spec := "fnExactCountOrders", apart := false }
def FnExactCountOrdersSaid : Prop := fnExactCountOrdersRow.holds Try.pinned (OpenSpec.ofChange fnExactCountOrdersSpec)

/-- ITS FALSE NEIGHBOUR: 'it returns false'. Refute it at one input. -/
def fnExactCountOrdersWrong : ChangeSpec := { name := "fnExactCountOrders", fn := fun _ => fun
  | [d] => { results := [.lit (.bool false)], args := [d] }
  | _ => none }
def FnExactCountOrdersWrongFalsely : Prop := fnExactCountOrdersRow.holds Try.pinned (OpenSpec.ofChange fnExactCountOrdersWrong)

/-- 'laws.FnExactSplitSweeps': WHATEVER THE INPUT: true; the input reads as it did. -/
def fnExactSplitSweepsSpec : ChangeSpec := { name := "fnExactSplitSweeps", fn := fun _ => fun
  | [d] => { results := [.lit (.bool true)], args := [d] }
  | _ => none }
def fnExactSplitSweepsRow : OpenClaim := { program := "ytbefkagmgpcfdaa", sum := "ab605413c0a768d302b4cd180e0868df20ba138865f19534d971f0c0b4ca03c3", func := "loop.example/g03302/laws.FnExactSplitSweeps", spec := "fnExactSplitSweeps", apart := false }
def FnExactSplitSweepsSaid : Prop := fnExactSplitSweepsRow.holds Try.pinned (OpenSpec.ofChange fnExactSplitSweepsSpec)

/-- ITS FALSE NEIGHBOUR: 'it returns false'. Refute it at one input. -/
def fnExactSplitSweepsWrong : ChangeSpec := { name := "fnExactSplitSweeps", fn := fun _ => fun
  | [d] => { results := [.lit (.bool false)], args := [d] }
  | _ => none }
def FnExactSplitSweepsWrongFalsely : Prop := fnExactSplitSweepsRow.holds Try.pinned (OpenSpec.ofChange fnExactSplitSweepsWrong)

/-- 'laws.FnExactAreSameUpToOrder': WHATEVER THE INPUT: true; the input reads as it did. -/
def fnExactAreSameUpToOrderSpec : ChangeSpec := { name := "fnExactAreSameUpToOrder", fn := fun _ => fun
  | [d1, d2] => { results := [.lit (.bool true)], args := [d1, d2] }
  | _ => none }
def fnExactAreSameUpToOrderRow : OpenClaim := { program := "ytbefkagmgpcfdaa", sum := "ab605413c0a768d302b4cd180e0868df20ba138865f19534d971f0c0b4ca03c3", func := "loop.example/g03302/laws.FnExactAreSameUpToOrder", spec := "fnExactAreSameUpToOrder", apart := false }
def FnExactAreSameUpToOrderSaid : Prop := fnExactAreSameUpToOrderRow.holds Try.pinned (OpenSpec.ofChange fnExactAreSameUpToOrderSpec)

/-- ITS FALSE NEIGHBOUR: 'it returns false'. Refute it at one input. -/
def fnExactAreSameUpToOrderWrong : ChangeSpec := { name := "fnExactAreSameUpToOrder", fn := fun _ => fun
  | [d1, d2] => { results := [.lit (.bool false)], args := [d1, d2] }
  | _ => none }
def FnExactAreSameUpToOrderWrongFalsely : Prop := fnExactAreSameUpToOrderRow.holds Try.pinned (OpenSpec.ofChange fnExactAreSameUpToOrderWrong)

/-- 'laws.FnExactLayersOf': WHATEVER THE INPUT: true; the input reads as it did. -/
def fnExactLayersOfSpec : ChangeSpec := { name := "fnExactLayersOf", fn := fun _ => fun
  | [d] => { results := [.lit (.bool true)], args := [d] }
  | _ => none }
def fnExactLayersOfRow : OpenClaim := { program := "ytbefkagmgpcfdaa", sum := "ab605413c0a768d302b4cd180e0868df20ba138865f19534d971f0c0b4ca03c3", func := "loop.example/g03302/laws.FnExactLayersOf", spec := "fnExactLayersOf", apart := false }
def FnExactLayersOfSaid : Prop := fnExactLayersOfRow.holds Try.pinned (OpenSpec.ofChange fnExactLayersOfSpec)

/-- ITS FALSE NEIGHBOUR: 'it returns false'. Refute it at one input. -/
def fnExactLayersOfWrong : ChangeSpec := { name := "fnExactLayersOf", fn := fun _ => fun
  | [d] => { results := [.lit (.bool false)], args := [d] }
  | _ => none }
def FnExactLayersOfWrongFalsely : Prop := fnExactLayersOfRow.holds Try.pinned (OpenSpec.ofChange fnExactLayersOfWrong)

/-- 'laws.FnExactNormalForm': WHATEVER THE INPUT: true; the input reads as it did. -/
def fnExactNormalFormSpec : ChangeSpec := { name := "fnExactNormalForm", fn := fun _ => fun
  | [d] => { results := [.lit (.bool true)], args := [d] }
  | _ => none }
def fnExactNormalFormRow : OpenClaim := { program := "ytbefkagmgpcfdaa", sum := "ab605413c0a768d302b4cd180e0868df20ba138865f19534d971f0c0b4ca03c3", func := "loop.example/g03302/laws.FnExactNormalForm", spec := "fnExactNormalForm", apart := false }
def FnExactNormalFormSaid : Prop := fnExactNormalFormRow.holds Try.pinned (OpenSpec.ofChange fnExactNormalFormSpec)

/-- ITS FALSE NEIGHBOUR: 'it returns false'. Refute it at one input. -/
def fnExactNormalFormWrong : ChangeSpec := { name := "fnExactNormalForm", fn := fun _ => fun
  | [d] => { results := [.lit (.bool false)], args := [d] }
  | _ => none }
def FnExactNormalFormWrongFalsely : Prop := fnExactNormalFormRow.holds Try.pinned (OpenSpec.ofChange fnExactNormalFormWrong)

/-- 'laws.FnExactIsNormal': WHATEVER THE INPUT: true; the input reads as it did. -/
def fnExactIsNormalSpec : ChangeSpec := { name := "fnExactIsNormal", fn := fun _ => fun
  | [d] => { results := [.lit (.bool true)], args := [d] }
  | _ => none }
def fnExactIsNormalRow : OpenClaim := { program := "ytbefkagmgpcfdaa", sum := "ab605413c0a768d302b4cd180e0868df20ba138865f19534d971f0c0b4ca03c3", func := "loop.example/g03302/laws.FnExactIsNormal", spec := "fnExactIsNormal", apart := false }
def FnExactIsNormalSaid : Prop := fnExactIsNormalRow.holds Try.pinned (OpenSpec.ofChange fnExactIsNormalSpec)

/-- ITS FALSE NEIGHBOUR: 'it returns false'. Refute it at one input. -/
def fnExactIsNormalWrong : ChangeSpec := { name := "fnExactIsNormal", fn := fun _ => fun
  | [d] => { results := [.lit (.bool false)], args := [d] }
  | _ => none }
def FnExactIsNormalWrongFalsely : Prop := fnExactIsNormalRow.holds Try.pinned (OpenSpec.ofChange fnExactIsNormalWrong)

/-- 'laws.FnOrders': WHATEVER THE INPUT: true; the input reads as it did. -/
def fnOrdersSpec : ChangeSpec := { name := "fnOrders", fn := fun _ => fun
  | [d] => { results := [.lit (.bool true)], args := [d] }
  | _ => none }
def fnOrdersRow : OpenClaim := { program := "ytbefkagmgpcfdaa", sum := "ab605413c0a768d302b4cd180e0868df20ba138865f19534d971f0c0b4ca03c3", func := "loop.example/g03302/laws.FnOrders", spec := "fnOrders", apart := false }
def FnOrdersSaid : Prop := fnOrdersRow.holds Try.pinned (OpenSpec.ofChange fnOrdersSpec)

/-- ITS FALSE NEIGHBOUR: 'it returns false'. Refute it at one input. -/
def fnOrdersWrong : ChangeSpec := { name := "fnOrders", fn := fun _ => fun
  | [d] => { results := [.lit (.bool false)], args := [d] }
  | _ => none }
def FnOrdersWrongFalsely : Prop := fnOrdersRow.holds Try.pinned (OpenSpec.ofChange fnOrdersWrong)

/- THE SECOND FORM. 'bulk': how many values and letters a reading holds, each counted each time it is reached (what is shared counts as often as it is met; a slice's spare places count too). A statement '..UptoSaid' is the law's where the arguments, and the package variables that the reading takes, are together of bulk at most 1048576: NARROWER than '..Said'. Prove '..Said' where nothing that the law and all that it calls make is longer than what came in: it says more and counts as full. Else prove '..UptoSaid'. A law counts once. -/
mutual
def uptoBulk {H : Type} : DataW H → Nat
  | .lit (.string bytes) => bytes.length + 1
  | .lit _ => 1
  | .nil => 1
  | .ptr d => uptoBulk d + 1
  | .slice elems spare => uptoBulkAll elems + uptoBulkAll spare + 1
  | .agg parts => uptoBulkAll parts + 1
  | .iface _ d => uptoBulk d + 1
  | .map entries => uptoBulkEntries entries + 1
  | .held _ => 1
def uptoBulkAll {H : Type} : List (DataW H) → Nat
  | [] => 0
  | d :: r => uptoBulk d + uptoBulkAll r
def uptoBulkEntries {H : Type} : List (Lit × DataW H) → Nat
  | [] => 0
  | x :: r => uptoBulkEntry x + uptoBulkEntries r
def uptoBulkEntry {H : Type} : Lit × DataW H → Nat
  | (.string bytes, d) => bytes.length + uptoBulk d + 1
  | (_, d) => uptoBulk d + 1
 end
def uptoSmall : (H : Type) → List (DataW H) → Bool := fun _ ds => decide (uptoBulkAll ds ≤ 1048576)
def OpenSpec.upto (s : _root_.Go.ChangeSpec) : _root_.Go.OpenSpec := { _root_.Go.OpenSpec.ofChange s with cond := some uptoSmall }

/-- 'laws.FnNormal', WHERE WHAT IT READS IS OF BULK AT MOST 1048576: true; the input reads as it did. -/
def fnNormalUptoRow : OpenClaim := { program := "ytbefkagmgpcfdaa", sum := "ab605413c0a768d302b4cd180e0868df20ba138865f19534d971f0c0b4ca03c3", func := "loop.example/g03302/laws.FnNormal", spec := "fnNormal", apart := false, narrowed := true }
def FnNormalUptoSaid : Prop := fnNormalUptoRow.holds Try.pinned (OpenSpec.upto fnNormalSpec)

/-- 'laws.FnExactLongestSweep', WHERE WHAT IT READS IS OF BULK AT MOST 1048576: true; the input reads as it did. -/
def fnExactLongestSweepUptoRow : OpenClaim := { program := "ytbefkagmgpcfdaa", sum := "ab605413c0a768d302b4cd180e0868df20ba138865f19534d971f0c0b4ca03c3", func := "loop.example/g03302/laws.FnExactLongestSweep", spec := "fnExactLongestSweep", apart := false, narrowed := true }
def FnExactLongestSweepUptoSaid : Prop := fnExactLongestSweepUptoRow.holds Try.pinned (OpenSpec.upto fnExactLongestSweepSpec)

/-- 'laws.FnExactMustPrecede', WHERE WHAT IT READS IS OF BULK AT MOST 1048576: true; the input reads as it did. -/
def fnExactMustPrecedeUptoRow : OpenClaim := { program := "ytbefkagmgpcfdaa", sum := "ab605413c0a768d302b4cd180e0868df20ba138865f19534d971f0c0b4ca03c3", func := "loop.example/g03302/laws.FnExactMustPrecede", spec := "fnExactMustPrecede", apart := false, narrowed := true }
def FnExactMustPrecedeUptoSaid : Prop := fnExactMustPrecedeUptoRow.holds Try.pinned (OpenSpec.upto fnExactMustPrecedeSpec)

/-- 'laws.FnExactSwapAt', WHERE WHAT IT READS IS OF BULK AT MOST 1048576: true; the input reads as it did. -/
def fnExactSwapAtUptoRow : OpenClaim := { program := "ytbefkagmgpcfdaa", sum := "ab605413c0a768d302b4cd180e0868df20ba138865f19534d971f0c0b4ca03c3", func := "loop.example/g03302/laws.FnExactSwapAt", spec := "fnExactSwapAt", apart := false, narrowed := true }
def FnExactSwapAtUptoSaid : Prop := fnExactSwapAtUptoRow.holds Try.pinned (OpenSpec.upto fnExactSwapAtSpec)

/-- 'laws.FnExactCountOrders', WHERE WHAT IT READS IS OF BULK AT MOST 1048576: true; the input reads as it did. -/
def fnExactCountOrdersUptoRow : OpenClaim := { program := "ytbefkagmgpcfdaa", sum := "ab605413c0a768d302b4cd180e0868df20ba138865f19534d971f0c0b4ca03c3", func := "loop.example/g03302/laws.FnExactCountOrders", spec := "fnExactCountOrders", apart := false, narrowed := true }
def FnExactCountOrdersUptoSaid : Prop := fnExactCountOrdersUptoRow.holds Try.pinned (OpenSpec.upto fnExactCountOrdersSpec)

/-- 'laws.FnExactSplitSweeps', WHERE WHAT IT READS IS OF BULK AT MOST 1048576: true; the input reads as it did. -/
def fnExactSplitSweepsUptoRow : OpenClaim := { program := "ytbefkagmgpcfdaa", sum := "ab605413c0a768d302b4cd180e0868df20ba138865f19534d971f0c0b4ca03c3", func := "loop.example/g03302/laws.FnExactSplitSweeps", spec := "fnExactSplitSweeps", apart := false, narrowed := true }
def FnExactSplitSweepsUptoSaid : Prop := fnExactSplitSweepsUptoRow.holds Try.pinned (OpenSpec.upto fnExactSplitSweepsSpec)

/-- 'laws.FnExactAreSameUpToOrder', WHERE WHAT IT READS IS OF BULK AT MOST 1048576: true; the input reads as it did. -/
def fnExactAreSameUpToOrderUptoRow : OpenClaim := { program := "ytbefkagmgpcfdaa", sum := "ab605413c0a768d302b4cd180e0868df20ba138865f19534d971f0c0b4ca03c3", func := "loop.example/g03302/laws.FnExactAreSameUpToOrder", spec := "fnExactAreSameUpToOrder", apart := false, narrowed := true }
def FnExactAreSameUpToOrderUptoSaid : Prop := fnExactAreSameUpToOrderUptoRow.holds Try.pinned (OpenSpec.upto fnExactAreSameUpToOrderSpec)

/-- 'laws.FnExactLayersOf', WHERE WHAT IT READS IS OF BULK AT MOST 1048576: true; the input reads as it did. -/
def fnExactLayersOfUptoRow : OpenClaim := { program := "ytbefkagmgpcfdaa", sum := "ab605413c0a768d302b4cd180e0868df20ba138865f19534d971f0c0b4ca03c3", func := "loop.example/g03302/laws.FnExactLayersOf", spec := "fnExactLayersOf", apart := false, narrowed := true }
def FnExactLayersOfUptoSaid : Prop := fnExactLayersOfUptoRow.holds Try.pinned (OpenSpec.upto fnExactLayersOfSpec)

/-- 'laws.FnExactNormalForm', WHERE WHAT IT READS IS OF BULK AT MOST 1048576: true; the input reads as it did. -/
def fnExactNormalFormUptoRow : OpenClaim := { program := "ytbefkagmgpcfdaa", sum := "ab605413c0a768d302b4cd180e0868df20ba138865f19534d971f0c0b4ca03c3", func := "loop.example/g03302/laws.FnExactNormalForm", spec := "fnExactNormalForm", apart := false, narrowed := true }
def FnExactNormalFormUptoSaid : Prop := fnExactNormalFormUptoRow.holds Try.pinned (OpenSpec.upto fnExactNormalFormSpec)

/-- 'laws.FnExactIsNormal', WHERE WHAT IT READS IS OF BULK AT MOST 1048576: true; the input reads as it did. -/
def fnExactIsNormalUptoRow : OpenClaim := { program := "ytbefkagmgpcfdaa", sum := "ab605413c0a768d302b4cd180e0868df20ba138865f19534d971f0c0b4ca03c3", func := "loop.example/g03302/laws.FnExactIsNormal", spec := "fnExactIsNormal", apart := false, narrowed := true }
def FnExactIsNormalUptoSaid : Prop := fnExactIsNormalUptoRow.holds Try.pinned (OpenSpec.upto fnExactIsNormalSpec)

/-- 'laws.FnOrders', WHERE WHAT IT READS IS OF BULK AT MOST 1048576: true; the input reads as it did. -/
def fnOrdersUptoRow : OpenClaim := { program := "ytbefkagmgpcfdaa", sum := "ab605413c0a768d302b4cd180e0868df20ba138865f19534d971f0c0b4ca03c3", func := "loop.example/g03302/laws.FnOrders", spec := "fnOrders", apart := false, narrowed := true }
def FnOrdersUptoSaid : Prop := fnOrdersUptoRow.holds Try.pinned (OpenSpec.upto fnOrdersSpec)

end Rows
end Go.Proofs.Ytbefkagmgpcfdaa

/-
  No cell of these rows narrows 'for every input' (looked for: loops, veiled, ifaces, maps, wideKeys, modest, calm, conditions, laid).
  DERIVED. THE GIVEN ROWS OF THIS SEAT. 11 by the template 'for every input the law returns true; each argument reads behind the call as it read before'; 0 by the template 'total and deterministic' (their statements: YtbljoknlphaimaaTotals.lean).
  GIVEN WITH THE SEED: the statements are not yours to turn. If you find one false, say at which input.
  Laid BY PROGRAM, IN A SANDBOX (cutbox-rows.mjs): the forced cells as the released guide's own fill.sh prints them over the translation f397cea41d90acc5… (all of the seat's roots in one cut). By AI agents, Wed Nov 11 2026. No macro, syntax, notation, axiom, sorry.
-/
import Derived.Test.YtbljoknlphaimaaChecked
import GoSem.Claim
import GoSem.ClaimJoined
import GoSem.ClaimMapViews
import Derived.JoinedTies
import Derived.KernelRfl
namespace Go.Proofs.Ytbljoknlphaimaa
/- THE CELL 'sum', in the pinned program and in every row, IS THE sha256 OF THE DUMP (.gsa) THAT YtbljoknlphaimaaProg.lean LOADS. Nothing in Lean hashes anything: it is a label: what it is worth is what the hold of that sum in a sandbox is worth. -/
noncomputable def Try.pinned : Pinned := { name := "ytbljoknlphaimaa", sum := "f397cea41d90acc5089f9426d61e271ea81dd2518c95f2565b0b186f30846b06", checked := Try.checked }
namespace Rows
def none {H : Type} : Left H := { results := [], args := [] }

/-- 'laws.FnMeetings': WHATEVER THE INPUT: true; the input reads as it did. -/
def fnMeetingsSpec : ChangeSpec := { name := "fnMeetings", fn := fun _ => fun
  | [d] => { results := [.lit (.bool true)], args := [d] }
  | _ => none }
def fnMeetingsRow : OpenClaim := { program := "ytbljoknlphaimaa", sum := "f397cea41d90acc5089f9426d61e271ea81dd2518c95f2565b0b186f30846b06", func := "loop.example/g03302/laws.FnMeetings", spec := "fnMeetings", recurses := true, apart := false }
def FnMeetingsSaid : Prop := fnMeetingsRow.holds Try.pinned (OpenSpec.ofChange fnMeetingsSpec)

/-- ITS FALSE NEIGHBOUR: 'it returns false'. Refute it at one input. -/
def fnMeetingsWrong : ChangeSpec := { name := "fnMeetings", fn := fun _ => fun
  | [d] => { results := [.lit (.bool false)], args := [d] }
  | _ => none }
def FnMeetingsWrongFalsely : Prop := fnMeetingsRow.holds Try.pinned (OpenSpec.ofChange fnMeetingsWrong)

/-- 'laws.FnExactStuckOf': WHATEVER THE INPUT: true; the input reads as it did. -/
def fnExactStuckOfSpec : ChangeSpec := { name := "fnExactStuckOf", fn := fun _ => fun
  | [d1, d2] => { results := [.lit (.bool true)], args := [d1, d2] }
  | _ => none }
def fnExactStuckOfRow : OpenClaim := { program := "ytbljoknlphaimaa", sum := "f397cea41d90acc5089f9426d61e271ea81dd2518c95f2565b0b186f30846b06", func := "loop.example/g03302/laws.FnExactStuckOf", spec := "fnExactStuckOf", apart := false }
def FnExactStuckOfSaid : Prop := fnExactStuckOfRow.holds Try.pinned (OpenSpec.ofChange fnExactStuckOfSpec)

/-- ITS FALSE NEIGHBOUR: 'it returns false'. Refute it at one input. -/
def fnExactStuckOfWrong : ChangeSpec := { name := "fnExactStuckOf", fn := fun _ => fun
  | [d1, d2] => { results := [.lit (.bool false)], args := [d1, d2] }
  | _ => none }
def FnExactStuckOfWrongFalsely : Prop := fnExactStuckOfRow.holds Try.pinned (OpenSpec.ofChange fnExactStuckOfWrong)

/-- 'laws.FnExactLongestGame': WHATEVER THE INPUT: true; the input reads as it did. -/
def fnExactLongestGameSpec : ChangeSpec := { name := "fnExactLongestGame", fn := fun _ => fun
  | [d1, d2] => { results := [.lit (.bool true)], args := [d1, d2] }
  | _ => none }
def fnExactLongestGameRow : OpenClaim := { program := "ytbljoknlphaimaa", sum := "f397cea41d90acc5089f9426d61e271ea81dd2518c95f2565b0b186f30846b06", func := "loop.example/g03302/laws.FnExactLongestGame", spec := "fnExactLongestGame", apart := false }
def FnExactLongestGameSaid : Prop := fnExactLongestGameRow.holds Try.pinned (OpenSpec.ofChange fnExactLongestGameSpec)

/-- ITS FALSE NEIGHBOUR: 'it returns false'. Refute it at one input. -/
def fnExactLongestGameWrong : ChangeSpec := { name := "fnExactLongestGame", fn := fun _ => fun
  | [d1, d2] => { results := [.lit (.bool false)], args := [d1, d2] }
  | _ => none }
def FnExactLongestGameWrongFalsely : Prop := fnExactLongestGameRow.holds Try.pinned (OpenSpec.ofChange fnExactLongestGameWrong)

/-- 'laws.FnExactMostLeft': WHATEVER THE INPUT: true; the input reads as it did. -/
def fnExactMostLeftSpec : ChangeSpec := { name := "fnExactMostLeft", fn := fun _ => fun
  | [d1, d2] => { results := [.lit (.bool true)], args := [d1, d2] }
  | _ => none }
def fnExactMostLeftRow : OpenClaim := { program := "ytbljoknlphaimaa", sum := "f397cea41d90acc5089f9426d61e271ea81dd2518c95f2565b0b186f30846b06", func := "loop.example/g03302/laws.FnExactMostLeft", spec := "fnExactMostLeft", apart := false }
def FnExactMostLeftSaid : Prop := fnExactMostLeftRow.holds Try.pinned (OpenSpec.ofChange fnExactMostLeftSpec)

/-- ITS FALSE NEIGHBOUR: 'it returns false'. Refute it at one input. -/
def fnExactMostLeftWrong : ChangeSpec := { name := "fnExactMostLeft", fn := fun _ => fun
  | [d1, d2] => { results := [.lit (.bool false)], args := [d1, d2] }
  | _ => none }
def FnExactMostLeftWrongFalsely : Prop := fnExactMostLeftRow.holds Try.pinned (OpenSpec.ofChange fnExactMostLeftWrong)

/-- 'laws.FnExactShortestGame': WHATEVER THE INPUT: true; the input reads as it did. -/
def fnExactShortestGameSpec : ChangeSpec := { name := "fnExactShortestGame", fn := fun _ => fun
  | [d1, d2] => { results := [.lit (.bool true)], args := [d1, d2] }
  | _ => none }
def fnExactShortestGameRow : OpenClaim := { program := "ytbljoknlphaimaa", sum := "f397cea41d90acc5089f9426d61e271ea81dd2518c95f2565b0b186f30846b06", func := "loop.example/g03302/laws.FnExactShortestGame", spec := "fnExactShortestGame", apart := false }
def FnExactShortestGameSaid : Prop := fnExactShortestGameRow.holds Try.pinned (OpenSpec.ofChange fnExactShortestGameSpec)

/-- ITS FALSE NEIGHBOUR: 'it returns false'. Refute it at one input. -/
def fnExactShortestGameWrong : ChangeSpec := { name := "fnExactShortestGame", fn := fun _ => fun
  | [d1, d2] => { results := [.lit (.bool false)], args := [d1, d2] }
  | _ => none }
def FnExactShortestGameWrongFalsely : Prop := fnExactShortestGameRow.holds Try.pinned (OpenSpec.ofChange fnExactShortestGameWrong)

/-- 'laws.FnStuck': WHATEVER THE INPUT: true; the input reads as it did. -/
def fnStuckSpec : ChangeSpec := { name := "fnStuck", fn := fun _ => fun
  | [d] => { results := [.lit (.bool true)], args := [d] }
  | _ => none }
def fnStuckRow : OpenClaim := { program := "ytbljoknlphaimaa", sum := "f397cea41d90acc5089f9426d61e271ea81dd2518c95f2565b0b186f30846b06", func := "loop.example/g03302/laws.FnStuck", spec := "fnStuck", apart := false }
def FnStuckSaid : Prop := fnStuckRow.holds Try.pinned (OpenSpec.ofChange fnStuckSpec)

/-- ITS FALSE NEIGHBOUR: 'it returns false'. Refute it at one input. -/
def fnStuckWrong : ChangeSpec := { name := "fnStuck", fn := fun _ => fun
  | [d] => { results := [.lit (.bool false)], args := [d] }
  | _ => none }
def FnStuckWrongFalsely : Prop := fnStuckRow.holds Try.pinned (OpenSpec.ofChange fnStuckWrong)

/-- 'laws.FnBackwards': WHATEVER THE INPUT: true; the input reads as it did. -/
def fnBackwardsSpec : ChangeSpec := { name := "fnBackwards", fn := fun _ => fun
  | [d] => { results := [.lit (.bool true)], args := [d] }
  | _ => none }
def fnBackwardsRow : OpenClaim := { program := "ytbljoknlphaimaa", sum := "f397cea41d90acc5089f9426d61e271ea81dd2518c95f2565b0b186f30846b06", func := "loop.example/g03302/laws.FnBackwards", spec := "fnBackwards", apart := false }
def FnBackwardsSaid : Prop := fnBackwardsRow.holds Try.pinned (OpenSpec.ofChange fnBackwardsSpec)

/-- ITS FALSE NEIGHBOUR: 'it returns false'. Refute it at one input. -/
def fnBackwardsWrong : ChangeSpec := { name := "fnBackwards", fn := fun _ => fun
  | [d] => { results := [.lit (.bool false)], args := [d] }
  | _ => none }
def FnBackwardsWrongFalsely : Prop := fnBackwardsRow.holds Try.pinned (OpenSpec.ofChange fnBackwardsWrong)

/-- 'laws.FnExactBackLayer': WHATEVER THE INPUT: true; the input reads as it did. -/
def fnExactBackLayerSpec : ChangeSpec := { name := "fnExactBackLayer", fn := fun _ => fun
  | [d1, d2, d3] => { results := [.lit (.bool true)], args := [d1, d2, d3] }
  | _ => none }
def fnExactBackLayerRow : OpenClaim := { program := "ytbljoknlphaimaa", sum := "f397cea41d90acc5089f9426d61e271ea81dd2518c95f2565b0b186f30846b06", func := "loop.example/g03302/laws.FnExactBackLayer", spec := "fnExactBackLayer", recurses := true, apart := false }
def FnExactBackLayerSaid : Prop := fnExactBackLayerRow.holds Try.pinned (OpenSpec.ofChange fnExactBackLayerSpec)

/-- ITS FALSE NEIGHBOUR: 'it returns false'. Refute it at one input. -/
def fnExactBackLayerWrong : ChangeSpec := { name := "fnExactBackLayer", fn := fun _ => fun
  | [d1, d2, d3] => { results := [.lit (.bool false)], args := [d1, d2, d3] }
  | _ => none }
def FnExactBackLayerWrongFalsely : Prop := fnExactBackLayerRow.holds Try.pinned (OpenSpec.ofChange fnExactBackLayerWrong)

/-- 'laws.FnExactLayerOf': WHATEVER THE INPUT: true; the input reads as it did. -/
def fnExactLayerOfSpec : ChangeSpec := { name := "fnExactLayerOf", fn := fun _ => fun
  | [d1, d2, d3] => { results := [.lit (.bool true)], args := [d1, d2, d3] }
  | _ => none }
def fnExactLayerOfRow : OpenClaim := { program := "ytbljoknlphaimaa", sum := "f397cea41d90acc5089f9426d61e271ea81dd2518c95f2565b0b186f30846b06", func := "loop.example/g03302/laws.FnExactLayerOf", spec := "fnExactLayerOf", recurses := true, apart := false }
def FnExactLayerOfSaid : Prop := fnExactLayerOfRow.holds Try.pinned (OpenSpec.ofChange fnExactLayerOfSpec)

/-- ITS FALSE NEIGHBOUR: 'it returns false'. Refute it at one input. -/
def fnExactLayerOfWrong : ChangeSpec := { name := "fnExactLayerOf", fn := fun _ => fun
  | [d1, d2, d3] => { results := [.lit (.bool false)], args := [d1, d2, d3] }
  | _ => none }
def FnExactLayerOfWrongFalsely : Prop := fnExactLayerOfRow.holds Try.pinned (OpenSpec.ofChange fnExactLayerOfWrong)

/-- 'laws.FnExactWidestLayer': WHATEVER THE INPUT: true; the input reads as it did. -/
def fnExactWidestLayerSpec : ChangeSpec := { name := "fnExactWidestLayer", fn := fun _ => fun
  | [d1, d2] => { results := [.lit (.bool true)], args := [d1, d2] }
  | _ => none }
def fnExactWidestLayerRow : OpenClaim := { program := "ytbljoknlphaimaa", sum := "f397cea41d90acc5089f9426d61e271ea81dd2518c95f2565b0b186f30846b06", func := "loop.example/g03302/laws.FnExactWidestLayer", spec := "fnExactWidestLayer", recurses := true, apart := false }
def FnExactWidestLayerSaid : Prop := fnExactWidestLayerRow.holds Try.pinned (OpenSpec.ofChange fnExactWidestLayerSpec)

/-- ITS FALSE NEIGHBOUR: 'it returns false'. Refute it at one input. -/
def fnExactWidestLayerWrong : ChangeSpec := { name := "fnExactWidestLayer", fn := fun _ => fun
  | [d1, d2] => { results := [.lit (.bool false)], args := [d1, d2] }
  | _ => none }
def FnExactWidestLayerWrongFalsely : Prop := fnExactWidestLayerRow.holds Try.pinned (OpenSpec.ofChange fnExactWidestLayerWrong)

/-- 'laws.FnExactMeetingOf': WHATEVER THE INPUT: true; the input reads as it did. -/
def fnExactMeetingOfSpec : ChangeSpec := { name := "fnExactMeetingOf", fn := fun _ => fun
  | [d1, d2, d3, d4] => { results := [.lit (.bool true)], args := [d1, d2, d3, d4] }
  | _ => none }
def fnExactMeetingOfRow : OpenClaim := { program := "ytbljoknlphaimaa", sum := "f397cea41d90acc5089f9426d61e271ea81dd2518c95f2565b0b186f30846b06", func := "loop.example/g03302/laws.FnExactMeetingOf", spec := "fnExactMeetingOf", recurses := true, apart := false }
def FnExactMeetingOfSaid : Prop := fnExactMeetingOfRow.holds Try.pinned (OpenSpec.ofChange fnExactMeetingOfSpec)

/-- ITS FALSE NEIGHBOUR: 'it returns false'. Refute it at one input. -/
def fnExactMeetingOfWrong : ChangeSpec := { name := "fnExactMeetingOf", fn := fun _ => fun
  | [d1, d2, d3, d4] => { results := [.lit (.bool false)], args := [d1, d2, d3, d4] }
  | _ => none }
def FnExactMeetingOfWrongFalsely : Prop := fnExactMeetingOfRow.holds Try.pinned (OpenSpec.ofChange fnExactMeetingOfWrong)

/- THE SECOND FORM. 'bulk': how many values and letters a reading holds, each counted each time it is reached (what is shared counts as often as it is met; a slice's spare places count too). A statement '..UptoSaid' is the law's where the arguments, and the package variables that the reading takes, are together of bulk at most 1048576: NARROWER than '..Said'. Prove '..Said' where nothing that the law and all that it calls make is longer than what came in: it says more and counts as full. Else prove '..UptoSaid'. A law counts once. -/
mutual
def uptoBulk {H : Type} : DataW H → Nat
  | .lit (.string bytes) => bytes.length + 1
  | .lit _ => 1
  | .nil => 1
  | .ptr d => uptoBulk d + 1
  | .slice elems spare => uptoBulkAll elems + uptoBulkAll spare + 1
  | .agg parts => uptoBulkAll parts + 1
  | .iface _ d => uptoBulk d + 1
  | .map entries => uptoBulkEntries entries + 1
  | .held _ => 1
def uptoBulkAll {H : Type} : List (DataW H) → Nat
  | [] => 0
  | d :: r => uptoBulk d + uptoBulkAll r
def uptoBulkEntries {H : Type} : List (Lit × DataW H) → Nat
  | [] => 0
  | x :: r => uptoBulkEntry x + uptoBulkEntries r
def uptoBulkEntry {H : Type} : Lit × DataW H → Nat
  | (.string bytes, d) => bytes.length + uptoBulk d + 1
  | (_, d) => uptoBulk d + 1
 end
def uptoSmall : (H : Type) → List (DataW H) → Bool := fun _ ds => decide (uptoBulkAll ds ≤ 1048576)
def OpenSpec.upto (s : _root_.Go.ChangeSpec) : _root_.Go.OpenSpec := { _root_.Go.OpenSpec.ofChange s with cond := some uptoSmall }

/-- 'laws.FnMeetings', WHERE WHAT IT READS IS OF BULK AT MOST 1048576: true; the input reads as it did. -/
def fnMeetingsUptoRow : OpenClaim := { program := "ytbljoknlphaimaa", sum := "f397cea41d90acc5089f9426d61e271ea81dd2518c95f2565b0b186f30846b06", func := "loop.example/g03302/laws.FnMeetings", spec := "fnMeetings", recurses := true, apart := false, narrowed := true }
def FnMeetingsUptoSaid : Prop := fnMeetingsUptoRow.holds Try.pinned (OpenSpec.upto fnMeetingsSpec)

/-- 'laws.FnExactStuckOf', WHERE WHAT IT READS IS OF BULK AT MOST 1048576: true; the input reads as it did. -/
def fnExactStuckOfUptoRow : OpenClaim := { program := "ytbljoknlphaimaa", sum := "f397cea41d90acc5089f9426d61e271ea81dd2518c95f2565b0b186f30846b06", func := "loop.example/g03302/laws.FnExactStuckOf", spec := "fnExactStuckOf", apart := false, narrowed := true }
def FnExactStuckOfUptoSaid : Prop := fnExactStuckOfUptoRow.holds Try.pinned (OpenSpec.upto fnExactStuckOfSpec)

/-- 'laws.FnExactLongestGame', WHERE WHAT IT READS IS OF BULK AT MOST 1048576: true; the input reads as it did. -/
def fnExactLongestGameUptoRow : OpenClaim := { program := "ytbljoknlphaimaa", sum := "f397cea41d90acc5089f9426d61e271ea81dd2518c95f2565b0b186f30846b06", func := "loop.example/g03302/laws.FnExactLongestGame", spec := "fnExactLongestGame", apart := false, narrowed := true }
def FnExactLongestGameUptoSaid : Prop := fnExactLongestGameUptoRow.holds Try.pinned (OpenSpec.upto fnExactLongestGameSpec)

/-- 'laws.FnExactMostLeft', WHERE WHAT IT READS IS OF BULK AT MOST 1048576: true; the input reads as it did. -/
def fnExactMostLeftUptoRow : OpenClaim := { program := "ytbljoknlphaimaa", sum := "f397cea41d90acc5089f9426d61e271ea81dd2518c95f2565b0b186f30846b06", func := "loop.example/g03302/laws.FnExactMostLeft", spec := "fnExactMostLeft", apart := false, narrowed := true }
def FnExactMostLeftUptoSaid : Prop := fnExactMostLeftUptoRow.holds Try.pinned (OpenSpec.upto fnExactMostLeftSpec)

/-- 'laws.FnExactShortestGame', WHERE WHAT IT READS IS OF BULK AT MOST 1048576: true; the input reads as it did. -/
def fnExactShortestGameUptoRow : OpenClaim := { program := "ytbljoknlphaimaa", sum := "f397cea41d90acc5089f9426d61e271ea81dd2518c95f2565b0b186f30846b06", func := "loop.example/g03302/laws.FnExactShortestGame", spec := "fnExactShortestGame", apart := false, narrowed := true }
def FnExactShortestGameUptoSaid : Prop := fnExactShortestGameUptoRow.holds Try.pinned (OpenSpec.upto fnExactShortestGameSpec)

/-- 'laws.FnStuck', WHERE WHAT IT READS IS OF BULK AT MOST 1048576: true; the input reads as it did. -/
def fnStuckUptoRow : OpenClaim := { program := "ytbljoknlphaimaa", sum := "f397cea41d90acc5089f9426d61e271ea81dd2518c95f2565b0b186f30846b06", func := "loop.example/g03302/laws.FnStuck", spec := "fnStuck", apart := false, narrowed := true }
def FnStuckUptoSaid : Prop := fnStuckUptoRow.holds Try.pinned (OpenSpec.upto fnStuckSpec)

/-- 'laws.FnBackwards', WHERE WHAT IT READS IS OF BULK AT MOST 1048576: true; the input reads as it did. -/
def fnBackwardsUptoRow : OpenClaim := { program := "ytbljoknlphaimaa", sum := "f397cea41d90acc5089f9426d61e271ea81dd2518c95f2565b0b186f30846b06", func := "loop.example/g03302/laws.FnBackwards", spec := "fnBackwards", apart := false, narrowed := true }
def FnBackwardsUptoSaid : Prop := fnBackwardsUptoRow.holds Try.pinned (OpenSpec.upto fnBackwardsSpec)

/-- 'laws.FnExactBackLayer', WHERE WHAT IT READS IS OF BULK AT MOST 1048576: true; the input reads as it did. -/
def fnExactBackLayerUptoRow : OpenClaim := { program := "ytbljoknlphaimaa", sum := "f397cea41d90acc5089f9426d61e271ea81dd2518c95f2565b0b186f30846b06", func := "loop.example/g03302/laws.FnExactBackLayer", spec := "fnExactBackLayer", recurses := true, apart := false, narrowed := true }
def FnExactBackLayerUptoSaid : Prop := fnExactBackLayerUptoRow.holds Try.pinned (OpenSpec.upto fnExactBackLayerSpec)

/-- 'laws.FnExactLayerOf', WHERE WHAT IT READS IS OF BULK AT MOST 1048576: true; the input reads as it did. -/
def fnExactLayerOfUptoRow : OpenClaim := { program := "ytbljoknlphaimaa", sum := "f397cea41d90acc5089f9426d61e271ea81dd2518c95f2565b0b186f30846b06", func := "loop.example/g03302/laws.FnExactLayerOf", spec := "fnExactLayerOf", recurses := true, apart := false, narrowed := true }
def FnExactLayerOfUptoSaid : Prop := fnExactLayerOfUptoRow.holds Try.pinned (OpenSpec.upto fnExactLayerOfSpec)

/-- 'laws.FnExactWidestLayer', WHERE WHAT IT READS IS OF BULK AT MOST 1048576: true; the input reads as it did. -/
def fnExactWidestLayerUptoRow : OpenClaim := { program := "ytbljoknlphaimaa", sum := "f397cea41d90acc5089f9426d61e271ea81dd2518c95f2565b0b186f30846b06", func := "loop.example/g03302/laws.FnExactWidestLayer", spec := "fnExactWidestLayer", recurses := true, apart := false, narrowed := true }
def FnExactWidestLayerUptoSaid : Prop := fnExactWidestLayerUptoRow.holds Try.pinned (OpenSpec.upto fnExactWidestLayerSpec)

/-- 'laws.FnExactMeetingOf', WHERE WHAT IT READS IS OF BULK AT MOST 1048576: true; the input reads as it did. -/
def fnExactMeetingOfUptoRow : OpenClaim := { program := "ytbljoknlphaimaa", sum := "f397cea41d90acc5089f9426d61e271ea81dd2518c95f2565b0b186f30846b06", func := "loop.example/g03302/laws.FnExactMeetingOf", spec := "fnExactMeetingOf", recurses := true, apart := false, narrowed := true }
def FnExactMeetingOfUptoSaid : Prop := fnExactMeetingOfUptoRow.holds Try.pinned (OpenSpec.upto fnExactMeetingOfSpec)

end Rows
end Go.Proofs.Ytbljoknlphaimaa

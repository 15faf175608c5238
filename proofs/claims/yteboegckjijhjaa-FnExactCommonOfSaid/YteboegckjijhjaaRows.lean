/-
  No cell of these rows narrows 'for every input' (looked for: loops, veiled, ifaces, maps, wideKeys, modest, calm, conditions, laid).
  DERIVED. THE GIVEN ROWS OF THIS SEAT. 12 by the template 'for every input the law returns true; each argument reads behind the call as it read before'; 0 by the template 'total and deterministic' (their statements: YteboegckjijhjaaTotals.lean).
  GIVEN WITH THE SEED: the statements are not yours to turn. If you find one false, say at which input.
  Laid BY PROGRAM, IN A SANDBOX (cutbox-rows.mjs): the forced cells as the released guide's own fill.sh prints them over the translation 9ce6994ae46de295… (all of the seat's roots in one cut). By AI agents, Wed Nov 11 2026. No macro, syntax, notation, axiom, sorry.
-/
import Derived.Test.YteboegckjijhjaaChecked
import GoSem.Claim
import GoSem.ClaimJoined
import GoSem.ClaimMapViews
import Derived.JoinedTies
import Derived.KernelRfl
namespace Go.Proofs.Yteboegckjijhjaa
/- THE CELL 'sum', in the pinned program and in every row, IS THE sha256 OF THE DUMP (.gsa) THAT YteboegckjijhjaaProg.lean LOADS. Nothing in Lean hashes anything: it is a label: what it is worth is what the hold of that sum in a sandbox is worth. -/
noncomputable def Try.pinned : Pinned := { name := "yteboegckjijhjaa", sum := "9ce6994ae46de2959bf9c34048f8cc0cde27dba21ca9b6deaef497b4b8e5fcf2", checked := Try.checked }
namespace Rows
def none {H : Type} : Left H := { results := [], args := [] }

/-- 'laws.FnExactDoDisturb': WHATEVER THE INPUT: true; the input reads as it did. -/
def fnExactDoDisturbSpec : ChangeSpec := { name := "fnExactDoDisturb", fn := fun _ => fun
  | [d1, d2] => { results := [.lit (.bool true)], args := [d1, d2] }
  | _ => none }
def fnExactDoDisturbRow : OpenClaim := { program := "yteboegckjijhjaa", sum := "9ce6994ae46de2959bf9c34048f8cc0cde27dba21ca9b6deaef497b4b8e5fcf2", func := "loop.example/g03302/laws.FnExactDoDisturb", spec := "fnExactDoDisturb", apart := false }
def FnExactDoDisturbSaid : Prop := fnExactDoDisturbRow.holds Try.pinned (OpenSpec.ofChange fnExactDoDisturbSpec)

/-- ITS FALSE NEIGHBOUR: 'it returns false'. Refute it at one input. -/
def fnExactDoDisturbWrong : ChangeSpec := { name := "fnExactDoDisturb", fn := fun _ => fun
  | [d1, d2] => { results := [.lit (.bool false)], args := [d1, d2] }
  | _ => none }
def FnExactDoDisturbWrongFalsely : Prop := fnExactDoDisturbRow.holds Try.pinned (OpenSpec.ofChange fnExactDoDisturbWrong)

/-- 'laws.FnExactCompareJumps': WHATEVER THE INPUT: true; the input reads as it did. -/
def fnExactCompareJumpsSpec : ChangeSpec := { name := "fnExactCompareJumps", fn := fun _ => fun
  | [d1, d2] => { results := [.lit (.bool true)], args := [d1, d2] }
  | _ => none }
def fnExactCompareJumpsRow : OpenClaim := { program := "yteboegckjijhjaa", sum := "9ce6994ae46de2959bf9c34048f8cc0cde27dba21ca9b6deaef497b4b8e5fcf2", func := "loop.example/g03302/laws.FnExactCompareJumps", spec := "fnExactCompareJumps", apart := false }
def FnExactCompareJumpsSaid : Prop := fnExactCompareJumpsRow.holds Try.pinned (OpenSpec.ofChange fnExactCompareJumpsSpec)

/-- ITS FALSE NEIGHBOUR: 'it returns false'. Refute it at one input. -/
def fnExactCompareJumpsWrong : ChangeSpec := { name := "fnExactCompareJumps", fn := fun _ => fun
  | [d1, d2] => { results := [.lit (.bool false)], args := [d1, d2] }
  | _ => none }
def FnExactCompareJumpsWrongFalsely : Prop := fnExactCompareJumpsRow.holds Try.pinned (OpenSpec.ofChange fnExactCompareJumpsWrong)

/-- 'laws.FnExactIsMirrored': WHATEVER THE INPUT: true; the input reads as it did. -/
def fnExactIsMirroredSpec : ChangeSpec := { name := "fnExactIsMirrored", fn := fun _ => fun
  | [d] => { results := [.lit (.bool true)], args := [d] }
  | _ => none }
def fnExactIsMirroredRow : OpenClaim := { program := "yteboegckjijhjaa", sum := "9ce6994ae46de2959bf9c34048f8cc0cde27dba21ca9b6deaef497b4b8e5fcf2", func := "loop.example/g03302/laws.FnExactIsMirrored", spec := "fnExactIsMirrored", apart := false }
def FnExactIsMirroredSaid : Prop := fnExactIsMirroredRow.holds Try.pinned (OpenSpec.ofChange fnExactIsMirroredSpec)

/-- ITS FALSE NEIGHBOUR: 'it returns false'. Refute it at one input. -/
def fnExactIsMirroredWrong : ChangeSpec := { name := "fnExactIsMirrored", fn := fun _ => fun
  | [d] => { results := [.lit (.bool false)], args := [d] }
  | _ => none }
def FnExactIsMirroredWrongFalsely : Prop := fnExactIsMirroredRow.holds Try.pinned (OpenSpec.ofChange fnExactIsMirroredWrong)

/-- 'laws.FnExactMirrorPosition': WHATEVER THE INPUT: true; the input reads as it did. -/
def fnExactMirrorPositionSpec : ChangeSpec := { name := "fnExactMirrorPosition", fn := fun _ => fun
  | [d1, d2] => { results := [.lit (.bool true)], args := [d1, d2] }
  | _ => none }
def fnExactMirrorPositionRow : OpenClaim := { program := "yteboegckjijhjaa", sum := "9ce6994ae46de2959bf9c34048f8cc0cde27dba21ca9b6deaef497b4b8e5fcf2", func := "loop.example/g03302/laws.FnExactMirrorPosition", spec := "fnExactMirrorPosition", apart := false }
def FnExactMirrorPositionSaid : Prop := fnExactMirrorPositionRow.holds Try.pinned (OpenSpec.ofChange fnExactMirrorPositionSpec)

/-- ITS FALSE NEIGHBOUR: 'it returns false'. Refute it at one input. -/
def fnExactMirrorPositionWrong : ChangeSpec := { name := "fnExactMirrorPosition", fn := fun _ => fun
  | [d1, d2] => { results := [.lit (.bool false)], args := [d1, d2] }
  | _ => none }
def FnExactMirrorPositionWrongFalsely : Prop := fnExactMirrorPositionRow.holds Try.pinned (OpenSpec.ofChange fnExactMirrorPositionWrong)

/-- 'laws.FnExactIsTurned': WHATEVER THE INPUT: true; the input reads as it did. -/
def fnExactIsTurnedSpec : ChangeSpec := { name := "fnExactIsTurned", fn := fun _ => fun
  | [d] => { results := [.lit (.bool true)], args := [d] }
  | _ => none }
def fnExactIsTurnedRow : OpenClaim := { program := "yteboegckjijhjaa", sum := "9ce6994ae46de2959bf9c34048f8cc0cde27dba21ca9b6deaef497b4b8e5fcf2", func := "loop.example/g03302/laws.FnExactIsTurned", spec := "fnExactIsTurned", apart := false }
def FnExactIsTurnedSaid : Prop := fnExactIsTurnedRow.holds Try.pinned (OpenSpec.ofChange fnExactIsTurnedSpec)

/-- ITS FALSE NEIGHBOUR: 'it returns false'. Refute it at one input. -/
def fnExactIsTurnedWrong : ChangeSpec := { name := "fnExactIsTurned", fn := fun _ => fun
  | [d] => { results := [.lit (.bool false)], args := [d] }
  | _ => none }
def FnExactIsTurnedWrongFalsely : Prop := fnExactIsTurnedRow.holds Try.pinned (OpenSpec.ofChange fnExactIsTurnedWrong)

/-- 'laws.FnExactTurnPosition': WHATEVER THE INPUT: true; the input reads as it did. -/
def fnExactTurnPositionSpec : ChangeSpec := { name := "fnExactTurnPosition", fn := fun _ => fun
  | [d1, d2] => { results := [.lit (.bool true)], args := [d1, d2] }
  | _ => none }
def fnExactTurnPositionRow : OpenClaim := { program := "yteboegckjijhjaa", sum := "9ce6994ae46de2959bf9c34048f8cc0cde27dba21ca9b6deaef497b4b8e5fcf2", func := "loop.example/g03302/laws.FnExactTurnPosition", spec := "fnExactTurnPosition", apart := false }
def FnExactTurnPositionSaid : Prop := fnExactTurnPositionRow.holds Try.pinned (OpenSpec.ofChange fnExactTurnPositionSpec)

/-- ITS FALSE NEIGHBOUR: 'it returns false'. Refute it at one input. -/
def fnExactTurnPositionWrong : ChangeSpec := { name := "fnExactTurnPosition", fn := fun _ => fun
  | [d1, d2] => { results := [.lit (.bool false)], args := [d1, d2] }
  | _ => none }
def FnExactTurnPositionWrongFalsely : Prop := fnExactTurnPositionRow.holds Try.pinned (OpenSpec.ofChange fnExactTurnPositionWrong)

/-- 'laws.FnExactIsOneSweep': WHATEVER THE INPUT: true; the input reads as it did. -/
def fnExactIsOneSweepSpec : ChangeSpec := { name := "fnExactIsOneSweep", fn := fun _ => fun
  | [d] => { results := [.lit (.bool true)], args := [d] }
  | _ => none }
def fnExactIsOneSweepRow : OpenClaim := { program := "yteboegckjijhjaa", sum := "9ce6994ae46de2959bf9c34048f8cc0cde27dba21ca9b6deaef497b4b8e5fcf2", func := "loop.example/g03302/laws.FnExactIsOneSweep", spec := "fnExactIsOneSweep", apart := false }
def FnExactIsOneSweepSaid : Prop := fnExactIsOneSweepRow.holds Try.pinned (OpenSpec.ofChange fnExactIsOneSweepSpec)

/-- ITS FALSE NEIGHBOUR: 'it returns false'. Refute it at one input. -/
def fnExactIsOneSweepWrong : ChangeSpec := { name := "fnExactIsOneSweep", fn := fun _ => fun
  | [d] => { results := [.lit (.bool false)], args := [d] }
  | _ => none }
def FnExactIsOneSweepWrongFalsely : Prop := fnExactIsOneSweepRow.holds Try.pinned (OpenSpec.ofChange fnExactIsOneSweepWrong)

/-- 'laws.FnExactCanSwap': WHATEVER THE INPUT: true; the input reads as it did. -/
def fnExactCanSwapSpec : ChangeSpec := { name := "fnExactCanSwap", fn := fun _ => fun
  | [d1, d2] => { results := [.lit (.bool true)], args := [d1, d2] }
  | _ => none }
def fnExactCanSwapRow : OpenClaim := { program := "yteboegckjijhjaa", sum := "9ce6994ae46de2959bf9c34048f8cc0cde27dba21ca9b6deaef497b4b8e5fcf2", func := "loop.example/g03302/laws.FnExactCanSwap", spec := "fnExactCanSwap", apart := false }
def FnExactCanSwapSaid : Prop := fnExactCanSwapRow.holds Try.pinned (OpenSpec.ofChange fnExactCanSwapSpec)

/-- ITS FALSE NEIGHBOUR: 'it returns false'. Refute it at one input. -/
def fnExactCanSwapWrong : ChangeSpec := { name := "fnExactCanSwap", fn := fun _ => fun
  | [d1, d2] => { results := [.lit (.bool false)], args := [d1, d2] }
  | _ => none }
def FnExactCanSwapWrongFalsely : Prop := fnExactCanSwapRow.holds Try.pinned (OpenSpec.ofChange fnExactCanSwapWrong)

/-- 'laws.FnExactSameJumps': WHATEVER THE INPUT: true; the input reads as it did. -/
def fnExactSameJumpsSpec : ChangeSpec := { name := "fnExactSameJumps", fn := fun _ => fun
  | [d1, d2] => { results := [.lit (.bool true)], args := [d1, d2] }
  | _ => none }
def fnExactSameJumpsRow : OpenClaim := { program := "yteboegckjijhjaa", sum := "9ce6994ae46de2959bf9c34048f8cc0cde27dba21ca9b6deaef497b4b8e5fcf2", func := "loop.example/g03302/laws.FnExactSameJumps", spec := "fnExactSameJumps", apart := false }
def FnExactSameJumpsSaid : Prop := fnExactSameJumpsRow.holds Try.pinned (OpenSpec.ofChange fnExactSameJumpsSpec)

/-- ITS FALSE NEIGHBOUR: 'it returns false'. Refute it at one input. -/
def fnExactSameJumpsWrong : ChangeSpec := { name := "fnExactSameJumps", fn := fun _ => fun
  | [d1, d2] => { results := [.lit (.bool false)], args := [d1, d2] }
  | _ => none }
def FnExactSameJumpsWrongFalsely : Prop := fnExactSameJumpsRow.holds Try.pinned (OpenSpec.ofChange fnExactSameJumpsWrong)

/-- 'laws.FnExactMirrorBoard': WHATEVER THE INPUT: true; the input reads as it did. -/
def fnExactMirrorBoardSpec : ChangeSpec := { name := "fnExactMirrorBoard", fn := fun _ => fun
  | [d] => { results := [.lit (.bool true)], args := [d] }
  | _ => none }
def fnExactMirrorBoardRow : OpenClaim := { program := "yteboegckjijhjaa", sum := "9ce6994ae46de2959bf9c34048f8cc0cde27dba21ca9b6deaef497b4b8e5fcf2", func := "loop.example/g03302/laws.FnExactMirrorBoard", spec := "fnExactMirrorBoard", apart := false }
def FnExactMirrorBoardSaid : Prop := fnExactMirrorBoardRow.holds Try.pinned (OpenSpec.ofChange fnExactMirrorBoardSpec)

/-- ITS FALSE NEIGHBOUR: 'it returns false'. Refute it at one input. -/
def fnExactMirrorBoardWrong : ChangeSpec := { name := "fnExactMirrorBoard", fn := fun _ => fun
  | [d] => { results := [.lit (.bool false)], args := [d] }
  | _ => none }
def FnExactMirrorBoardWrongFalsely : Prop := fnExactMirrorBoardRow.holds Try.pinned (OpenSpec.ofChange fnExactMirrorBoardWrong)

/-- 'laws.FnExactTurnBoard': WHATEVER THE INPUT: true; the input reads as it did. -/
def fnExactTurnBoardSpec : ChangeSpec := { name := "fnExactTurnBoard", fn := fun _ => fun
  | [d] => { results := [.lit (.bool true)], args := [d] }
  | _ => none }
def fnExactTurnBoardRow : OpenClaim := { program := "yteboegckjijhjaa", sum := "9ce6994ae46de2959bf9c34048f8cc0cde27dba21ca9b6deaef497b4b8e5fcf2", func := "loop.example/g03302/laws.FnExactTurnBoard", spec := "fnExactTurnBoard", apart := false }
def FnExactTurnBoardSaid : Prop := fnExactTurnBoardRow.holds Try.pinned (OpenSpec.ofChange fnExactTurnBoardSpec)

/-- ITS FALSE NEIGHBOUR: 'it returns false'. Refute it at one input. -/
def fnExactTurnBoardWrong : ChangeSpec := { name := "fnExactTurnBoard", fn := fun _ => fun
  | [d] => { results := [.lit (.bool false)], args := [d] }
  | _ => none }
def FnExactTurnBoardWrongFalsely : Prop := fnExactTurnBoardRow.holds Try.pinned (OpenSpec.ofChange fnExactTurnBoardWrong)

/-- 'laws.FnExactCommonOf': WHATEVER THE INPUT: true; the input reads as it did. -/
def fnExactCommonOfSpec : ChangeSpec := { name := "fnExactCommonOf", fn := fun _ => fun
  | [d1, d2] => { results := [.lit (.bool true)], args := [d1, d2] }
  | _ => none }
def fnExactCommonOfRow : OpenClaim := { program := "yteboegckjijhjaa", sum := "9ce6994ae46de2959bf9c34048f8cc0cde27dba21ca9b6deaef497b4b8e5fcf2", func := "loop.example/g03302/laws.FnExactCommonOf", spec := "fnExactCommonOf", apart := false }
def FnExactCommonOfSaid : Prop := fnExactCommonOfRow.holds Try.pinned (OpenSpec.ofChange fnExactCommonOfSpec)

/-- ITS FALSE NEIGHBOUR: 'it returns false'. Refute it at one input. -/
def fnExactCommonOfWrong : ChangeSpec := { name := "fnExactCommonOf", fn := fun _ => fun
  | [d1, d2] => { results := [.lit (.bool false)], args := [d1, d2] }
  | _ => none }
def FnExactCommonOfWrongFalsely : Prop := fnExactCommonOfRow.holds Try.pinned (OpenSpec.ofChange fnExactCommonOfWrong)

/- THE SECOND FORM. 'bulk': how many values and letters a reading holds, each counted each time it is reached (what is shared counts as often as it is met; a slice's spare places count too). A statement '..UptoSaid' is the law's where the arguments, and the package variables that the reading takes, are together of bulk at most 1048576: NARROWER than '..Said'. Prove '..Said' where nothing that the law and all that it calls make is longer than what came in: it says more and counts as full. Else prove '..UptoSaid'. A law counts once. -/
mutual
def uptoBulk {H : Type} : DataW H → Nat
  | .lit (.string bytes) => bytes.length + 1
  | .lit _ => 1
  | .nil => 1
  | .ptr d => uptoBulk d + 1
  | .slice elems spare => uptoBulkAll elems + uptoBulkAll spare + 1
  | .agg parts => uptoBulkAll parts + 1
  | .iface _ d => uptoBulk d + 1
  | .map entries => uptoBulkEntries entries + 1
  | .held _ => 1
def uptoBulkAll {H : Type} : List (DataW H) → Nat
  | [] => 0
  | d :: r => uptoBulk d + uptoBulkAll r
def uptoBulkEntries {H : Type} : List (Lit × DataW H) → Nat
  | [] => 0
  | x :: r => uptoBulkEntry x + uptoBulkEntries r
def uptoBulkEntry {H : Type} : Lit × DataW H → Nat
  | (.string bytes, d) => bytes.length + uptoBulk d + 1
  | (_, d) => uptoBulk d + 1
 end
def uptoSmall : (H : Type) → List (DataW H) → Bool := fun _ ds => decide (uptoBulkAll ds ≤ 1048576)
def OpenSpec.upto (s : _root_.Go.ChangeSpec) : _root_.Go.OpenSpec := { _root_.Go.OpenSpec.ofChange s with cond := some uptoSmall }

/-- 'laws.FnExactDoDisturb', WHERE WHAT IT READS IS OF BULK AT MOST 1048576: true; the input reads as it did. -/
def fnExactDoDisturbUptoRow : OpenClaim := { program := "yteboegckjijhjaa", sum := "9ce6994ae46de2959bf9c34048f8cc0cde27dba21ca9b6deaef497b4b8e5fcf2", func := "loop.example/g03302/laws.FnExactDoDisturb", spec := "fnExactDoDisturb", apart := false, narrowed := true }
def FnExactDoDisturbUptoSaid : Prop := fnExactDoDisturbUptoRow.holds Try.pinned (OpenSpec.upto fnExactDoDisturbSpec)

/-- 'laws.FnExactCompareJumps', WHERE WHAT IT READS IS OF BULK AT MOST 1048576: true; the input reads as it did. -/
def fnExactCompareJumpsUptoRow : OpenClaim := { program := "yteboegckjijhjaa", sum := "9ce6994ae46de2959bf9c34048f8cc0cde27dba21ca9b6deaef497b4b8e5fcf2", func := "loop.example/g03302/laws.FnExactCompareJumps", spec := "fnExactCompareJumps", apart := false, narrowed := true }
def FnExactCompareJumpsUptoSaid : Prop := fnExactCompareJumpsUptoRow.holds Try.pinned (OpenSpec.upto fnExactCompareJumpsSpec)

/-- 'laws.FnExactIsMirrored', WHERE WHAT IT READS IS OF BULK AT MOST 1048576: true; the input reads as it did. -/
def fnExactIsMirroredUptoRow : OpenClaim := { program := "yteboegckjijhjaa", sum := "9ce6994ae46de2959bf9c34048f8cc0cde27dba21ca9b6deaef497b4b8e5fcf2", func := "loop.example/g03302/laws.FnExactIsMirrored", spec := "fnExactIsMirrored", apart := false, narrowed := true }
def FnExactIsMirroredUptoSaid : Prop := fnExactIsMirroredUptoRow.holds Try.pinned (OpenSpec.upto fnExactIsMirroredSpec)

/-- 'laws.FnExactMirrorPosition', WHERE WHAT IT READS IS OF BULK AT MOST 1048576: true; the input reads as it did. -/
def fnExactMirrorPositionUptoRow : OpenClaim := { program := "yteboegckjijhjaa", sum := "9ce6994ae46de2959bf9c34048f8cc0cde27dba21ca9b6deaef497b4b8e5fcf2", func := "loop.example/g03302/laws.FnExactMirrorPosition", spec := "fnExactMirrorPosition", apart := false, narrowed := true }
def FnExactMirrorPositionUptoSaid : Prop := fnExactMirrorPositionUptoRow.holds Try.pinned (OpenSpec.upto fnExactMirrorPositionSpec)

/-- 'laws.FnExactIsTurned', WHERE WHAT IT READS IS OF BULK AT MOST 1048576: true; the input reads as it did. -/
def fnExactIsTurnedUptoRow : OpenClaim := { program := "yteboegckjijhjaa", sum := "9ce6994ae46de2959bf9c34048f8cc0cde27dba21ca9b6deaef497b4b8e5fcf2", func := "loop.example/g03302/laws.FnExactIsTurned", spec := "fnExactIsTurned", apart := false, narrowed := true }
def FnExactIsTurnedUptoSaid : Prop := fnExactIsTurnedUptoRow.holds Try.pinned (OpenSpec.upto fnExactIsTurnedSpec)

/-- 'laws.FnExactTurnPosition', WHERE WHAT IT READS IS OF BULK AT MOST 1048576: true; the input reads as it did. -/
def fnExactTurnPositionUptoRow : OpenClaim := { program := "yteboegckjijhjaa", sum := "9ce6994ae46de2959bf9c34048f8cc0cde27dba21ca9b6deaef497b4b8e5fcf2", func := "loop.example/g03302/laws.FnExactTurnPosition", spec := "fnExactTurnPosition", apart := false, narrowed := true }
def FnExactTurnPositionUptoSaid : Prop := fnExactTurnPositionUptoRow.holds Try.pinned (OpenSpec.upto fnExactTurnPositionSpec)

/-- 'laws.FnExactIsOneSweep', WHERE WHAT IT READS IS OF BULK AT MOST 1048576: true; the input reads as it did. -/
def fnExactIsOneSweepUptoRow : OpenClaim := { program := "yteboegckjijhjaa", sum := "9ce6994ae46de2959bf9c34048f8cc0cde27dba21ca9b6deaef497b4b8e5fcf2", func := "loop.example/g03302/laws.FnExactIsOneSweep", spec := "fnExactIsOneSweep", apart := false, narrowed := true }
def FnExactIsOneSweepUptoSaid : Prop := fnExactIsOneSweepUptoRow.holds Try.pinned (OpenSpec.upto fnExactIsOneSweepSpec)

/-- 'laws.FnExactCanSwap', WHERE WHAT IT READS IS OF BULK AT MOST 1048576: true; the input reads as it did. -/
def fnExactCanSwapUptoRow : OpenClaim := { program := "yteboegckjijhjaa", sum := "9ce6994ae46de2959bf9c34048f8cc0cde27dba21ca9b6deaef497b4b8e5fcf2", func := "loop.example/g03302/laws.FnExactCanSwap", spec := "fnExactCanSwap", apart := false, narrowed := true }
def FnExactCanSwapUptoSaid : Prop := fnExactCanSwapUptoRow.holds Try.pinned (OpenSpec.upto fnExactCanSwapSpec)

/-- 'laws.FnExactSameJumps', WHERE WHAT IT READS IS OF BULK AT MOST 1048576: true; the input reads as it did. -/
def fnExactSameJumpsUptoRow : OpenClaim := { program := "yteboegckjijhjaa", sum := "9ce6994ae46de2959bf9c34048f8cc0cde27dba21ca9b6deaef497b4b8e5fcf2", func := "loop.example/g03302/laws.FnExactSameJumps", spec := "fnExactSameJumps", apart := false, narrowed := true }
def FnExactSameJumpsUptoSaid : Prop := fnExactSameJumpsUptoRow.holds Try.pinned (OpenSpec.upto fnExactSameJumpsSpec)

/-- 'laws.FnExactMirrorBoard', WHERE WHAT IT READS IS OF BULK AT MOST 1048576: true; the input reads as it did. -/
def fnExactMirrorBoardUptoRow : OpenClaim := { program := "yteboegckjijhjaa", sum := "9ce6994ae46de2959bf9c34048f8cc0cde27dba21ca9b6deaef497b4b8e5fcf2", func := "loop.example/g03302/laws.FnExactMirrorBoard", spec := "fnExactMirrorBoard", apart := false, narrowed := true }
def FnExactMirrorBoardUptoSaid : Prop := fnExactMirrorBoardUptoRow.holds Try.pinned (OpenSpec.upto fnExactMirrorBoardSpec)

/-- 'laws.FnExactTurnBoard', WHERE WHAT IT READS IS OF BULK AT MOST 1048576: true; the input reads as it did. -/
def fnExactTurnBoardUptoRow : OpenClaim := { program := "yteboegckjijhjaa", sum := "9ce6994ae46de2959bf9c34048f8cc0cde27dba21ca9b6deaef497b4b8e5fcf2", func := "loop.example/g03302/laws.FnExactTurnBoard", spec := "fnExactTurnBoard", apart := false, narrowed := true }
def FnExactTurnBoardUptoSaid : Prop := fnExactTurnBoardUptoRow.holds Try.pinned (OpenSpec.upto fnExactTurnBoardSpec)

/-- 'laws.FnExactCommonOf', WHERE WHAT IT READS IS OF BULK AT MOST 1048576: true; the input reads as it did. -/
def fnExactCommonOfUptoRow : OpenClaim := { program := "yteboegckjijhjaa", sum := "9ce6994ae46de2959bf9c34048f8cc0cde27dba21ca9b6deaef497b4b8e5fcf2", func := "loop.example/g03302/laws.FnExactCommonOf", spec := "fnExactCommonOf", apart := false, narrowed := true }
def FnExactCommonOfUptoSaid : Prop := fnExactCommonOfUptoRow.holds Try.pinned (OpenSpec.upto fnExactCommonOfSpec)

end Rows
end Go.Proofs.Yteboegckjijhjaa

/-
  No cell of these rows narrows 'for every input' (looked for: loops, veiled, ifaces, maps, wideKeys, modest, calm, conditions, laid).
  DERIVED. THE GIVEN ROWS OF THIS SEAT. 8 by the template 'for every input the law returns true; each argument reads behind the call as it read before'; 0 by the template 'total and deterministic' (their statements: YtliljgmpdfdakaaTotals.lean).
  GIVEN WITH THE SEED: the statements are not yours to turn. If you find one false, say at which input.
  Laid BY PROGRAM, IN A SANDBOX (cutbox-rows.mjs): the forced cells as the released guide's own fill.sh prints them over the translation 28028c71d7876bb8… (all of the seat's roots in one cut). By AI agents, Wed Nov 11 2026. No macro, syntax, notation, axiom, sorry.
-/
import Derived.Test.YtliljgmpdfdakaaChecked
import GoSem.Claim
import GoSem.ClaimJoined
import GoSem.ClaimMapViews
import Derived.JoinedTies
import Derived.KernelRfl
namespace Go.Proofs.Ytliljgmpdfdakaa
/- THE CELL 'sum', in the pinned program and in every row, IS THE sha256 OF THE DUMP (.gsa) THAT YtliljgmpdfdakaaProg.lean LOADS. Nothing in Lean hashes anything: it is a label: what it is worth is what the hold of that sum in a sandbox is worth. -/
noncomputable def Try.pinned : Pinned := { name := "ytliljgmpdfdakaa", sum := "28028c71d7876bb8250b75da9f87a017e5feb6827fdf7074484e0da0adcb48ec", checked := Try.checked }
namespace Rows
def none {H : Type} : Left H := { results := [], args := [] }

/-- 'laws.FnExactCountAllGames': WHATEVER THE INPUT: true; the input reads as it did. -/
def fnExactCountAllGamesSpec : ChangeSpec := { name := "fnExactCountAllGames", fn := fun _ => fun
  | [d1, d2] => { results := [.lit (.bool true)], args := [d1, d2] }
  | _ => none }
def fnExactCountAllGamesRow : OpenClaim := { program := "ytliljgmpdfdakaa", sum := "28028c71d7876bb8250b75da9f87a017e5feb6827fdf7074484e0da0adcb48ec", func := "loop.example/g03302/laws.FnExactCountAllGames", spec := "fnExactCountAllGames", recurses := true, plainKeys := false, apart := false }
def FnExactCountAllGamesSaid : Prop := fnExactCountAllGamesRow.holds Try.pinned (OpenSpec.ofChange fnExactCountAllGamesSpec)

/-- ITS FALSE NEIGHBOUR: 'it returns false'. Refute it at one input. -/
def fnExactCountAllGamesWrong : ChangeSpec := { name := "fnExactCountAllGames", fn := fun _ => fun
  | [d1, d2] => { results := [.lit (.bool false)], args := [d1, d2] }
  | _ => none }
def FnExactCountAllGamesWrongFalsely : Prop := fnExactCountAllGamesRow.holds Try.pinned (OpenSpec.ofChange fnExactCountAllGamesWrong)

/-- 'laws.FnExactCountGames': WHATEVER THE INPUT: true; the input reads as it did. -/
def fnExactCountGamesSpec : ChangeSpec := { name := "fnExactCountGames", fn := fun _ => fun
  | [d1, d2, d3] => { results := [.lit (.bool true)], args := [d1, d2, d3] }
  | _ => none }
def fnExactCountGamesRow : OpenClaim := { program := "ytliljgmpdfdakaa", sum := "28028c71d7876bb8250b75da9f87a017e5feb6827fdf7074484e0da0adcb48ec", func := "loop.example/g03302/laws.FnExactCountGames", spec := "fnExactCountGames", recurses := true, plainKeys := false, apart := false }
def FnExactCountGamesSaid : Prop := fnExactCountGamesRow.holds Try.pinned (OpenSpec.ofChange fnExactCountGamesSpec)

/-- ITS FALSE NEIGHBOUR: 'it returns false'. Refute it at one input. -/
def fnExactCountGamesWrong : ChangeSpec := { name := "fnExactCountGames", fn := fun _ => fun
  | [d1, d2, d3] => { results := [.lit (.bool false)], args := [d1, d2, d3] }
  | _ => none }
def FnExactCountGamesWrongFalsely : Prop := fnExactCountGamesRow.holds Try.pinned (OpenSpec.ofChange fnExactCountGamesWrong)

/-- 'laws.FnExactHoleUse': WHATEVER THE INPUT: true; the input reads as it did. -/
def fnExactHoleUseSpec : ChangeSpec := { name := "fnExactHoleUse", fn := fun _ => fun
  | [d1, d2, d3, d4] => { results := [.lit (.bool true)], args := [d1, d2, d3, d4] }
  | _ => none }
def fnExactHoleUseRow : OpenClaim := { program := "ytliljgmpdfdakaa", sum := "28028c71d7876bb8250b75da9f87a017e5feb6827fdf7074484e0da0adcb48ec", func := "loop.example/g03302/laws.FnExactHoleUse", spec := "fnExactHoleUse", recurses := true, plainKeys := false, apart := false }
def FnExactHoleUseSaid : Prop := fnExactHoleUseRow.holds Try.pinned (OpenSpec.ofChange fnExactHoleUseSpec)

/-- ITS FALSE NEIGHBOUR: 'it returns false'. Refute it at one input. -/
def fnExactHoleUseWrong : ChangeSpec := { name := "fnExactHoleUse", fn := fun _ => fun
  | [d1, d2, d3, d4] => { results := [.lit (.bool false)], args := [d1, d2, d3, d4] }
  | _ => none }
def FnExactHoleUseWrongFalsely : Prop := fnExactHoleUseRow.holds Try.pinned (OpenSpec.ofChange fnExactHoleUseWrong)

/-- 'laws.FnExactFewestSweeps': WHATEVER THE INPUT: true; the input reads as it did. -/
def fnExactFewestSweepsSpec : ChangeSpec := { name := "fnExactFewestSweeps", fn := fun _ => fun
  | [d1, d2, d3] => { results := [.lit (.bool true)], args := [d1, d2, d3] }
  | _ => none }
def fnExactFewestSweepsRow : OpenClaim := { program := "ytliljgmpdfdakaa", sum := "28028c71d7876bb8250b75da9f87a017e5feb6827fdf7074484e0da0adcb48ec", func := "loop.example/g03302/laws.FnExactFewestSweeps", spec := "fnExactFewestSweeps", recurses := true, plainKeys := false, apart := false }
def FnExactFewestSweepsSaid : Prop := fnExactFewestSweepsRow.holds Try.pinned (OpenSpec.ofChange fnExactFewestSweepsSpec)

/-- ITS FALSE NEIGHBOUR: 'it returns false'. Refute it at one input. -/
def fnExactFewestSweepsWrong : ChangeSpec := { name := "fnExactFewestSweeps", fn := fun _ => fun
  | [d1, d2, d3] => { results := [.lit (.bool false)], args := [d1, d2, d3] }
  | _ => none }
def FnExactFewestSweepsWrongFalsely : Prop := fnExactFewestSweepsRow.holds Try.pinned (OpenSpec.ofChange fnExactFewestSweepsWrong)

/-- 'laws.FnExactGameAt': WHATEVER THE INPUT: true; the input reads as it did. -/
def fnExactGameAtSpec : ChangeSpec := { name := "fnExactGameAt", fn := fun _ => fun
  | [d1, d2, d3, d4] => { results := [.lit (.bool true)], args := [d1, d2, d3, d4] }
  | _ => none }
def fnExactGameAtRow : OpenClaim := { program := "ytliljgmpdfdakaa", sum := "28028c71d7876bb8250b75da9f87a017e5feb6827fdf7074484e0da0adcb48ec", func := "loop.example/g03302/laws.FnExactGameAt", spec := "fnExactGameAt", recurses := true, plainKeys := false, apart := false }
def FnExactGameAtSaid : Prop := fnExactGameAtRow.holds Try.pinned (OpenSpec.ofChange fnExactGameAtSpec)

/-- ITS FALSE NEIGHBOUR: 'it returns false'. Refute it at one input. -/
def fnExactGameAtWrong : ChangeSpec := { name := "fnExactGameAt", fn := fun _ => fun
  | [d1, d2, d3, d4] => { results := [.lit (.bool false)], args := [d1, d2, d3, d4] }
  | _ => none }
def FnExactGameAtWrongFalsely : Prop := fnExactGameAtRow.holds Try.pinned (OpenSpec.ofChange fnExactGameAtWrong)

/-- 'laws.FnExactSweepGame': WHATEVER THE INPUT: true; the input reads as it did. -/
def fnExactSweepGameSpec : ChangeSpec := { name := "fnExactSweepGame", fn := fun _ => fun
  | [d1, d2, d3] => { results := [.lit (.bool true)], args := [d1, d2, d3] }
  | _ => none }
def fnExactSweepGameRow : OpenClaim := { program := "ytliljgmpdfdakaa", sum := "28028c71d7876bb8250b75da9f87a017e5feb6827fdf7074484e0da0adcb48ec", func := "loop.example/g03302/laws.FnExactSweepGame", spec := "fnExactSweepGame", recurses := true, plainKeys := false, apart := false }
def FnExactSweepGameSaid : Prop := fnExactSweepGameRow.holds Try.pinned (OpenSpec.ofChange fnExactSweepGameSpec)

/-- ITS FALSE NEIGHBOUR: 'it returns false'. Refute it at one input. -/
def fnExactSweepGameWrong : ChangeSpec := { name := "fnExactSweepGame", fn := fun _ => fun
  | [d1, d2, d3] => { results := [.lit (.bool false)], args := [d1, d2, d3] }
  | _ => none }
def FnExactSweepGameWrongFalsely : Prop := fnExactSweepGameRow.holds Try.pinned (OpenSpec.ofChange fnExactSweepGameWrong)

/-- 'laws.FnExactIndexOfGame': WHATEVER THE INPUT: true; the input reads as it did. -/
def fnExactIndexOfGameSpec : ChangeSpec := { name := "fnExactIndexOfGame", fn := fun _ => fun
  | [d1, d2, d3, d4] => { results := [.lit (.bool true)], args := [d1, d2, d3, d4] }
  | _ => none }
def fnExactIndexOfGameRow : OpenClaim := { program := "ytliljgmpdfdakaa", sum := "28028c71d7876bb8250b75da9f87a017e5feb6827fdf7074484e0da0adcb48ec", func := "loop.example/g03302/laws.FnExactIndexOfGame", spec := "fnExactIndexOfGame", recurses := true, plainKeys := false, apart := false }
def FnExactIndexOfGameSaid : Prop := fnExactIndexOfGameRow.holds Try.pinned (OpenSpec.ofChange fnExactIndexOfGameSpec)

/-- ITS FALSE NEIGHBOUR: 'it returns false'. Refute it at one input. -/
def fnExactIndexOfGameWrong : ChangeSpec := { name := "fnExactIndexOfGame", fn := fun _ => fun
  | [d1, d2, d3, d4] => { results := [.lit (.bool false)], args := [d1, d2, d3, d4] }
  | _ => none }
def FnExactIndexOfGameWrongFalsely : Prop := fnExactIndexOfGameRow.holds Try.pinned (OpenSpec.ofChange fnExactIndexOfGameWrong)

/-- 'laws.FnCounts': WHATEVER THE INPUT: true; the input reads as it did. -/
def fnCountsSpec : ChangeSpec := { name := "fnCounts", fn := fun _ => fun
  | [d] => { results := [.lit (.bool true)], args := [d] }
  | _ => none }
def fnCountsRow : OpenClaim := { program := "ytliljgmpdfdakaa", sum := "28028c71d7876bb8250b75da9f87a017e5feb6827fdf7074484e0da0adcb48ec", func := "loop.example/g03302/laws.FnCounts", spec := "fnCounts", recurses := true, plainKeys := false, apart := false }
def FnCountsSaid : Prop := fnCountsRow.holds Try.pinned (OpenSpec.ofChange fnCountsSpec)

/-- ITS FALSE NEIGHBOUR: 'it returns false'. Refute it at one input. -/
def fnCountsWrong : ChangeSpec := { name := "fnCounts", fn := fun _ => fun
  | [d] => { results := [.lit (.bool false)], args := [d] }
  | _ => none }
def FnCountsWrongFalsely : Prop := fnCountsRow.holds Try.pinned (OpenSpec.ofChange fnCountsWrong)

/- THE SECOND FORM. 'bulk': how many values and letters a reading holds, each counted each time it is reached (what is shared counts as often as it is met; a slice's spare places count too). A statement '..UptoSaid' is the law's where the arguments, and the package variables that the reading takes, are together of bulk at most 1048576: NARROWER than '..Said'. Prove '..Said' where nothing that the law and all that it calls make is longer than what came in: it says more and counts as full. Else prove '..UptoSaid'. A law counts once. -/
mutual
def uptoBulk {H : Type} : DataW H → Nat
  | .lit (.string bytes) => bytes.length + 1
  | .lit _ => 1
  | .nil => 1
  | .ptr d => uptoBulk d + 1
  | .slice elems spare => uptoBulkAll elems + uptoBulkAll spare + 1
  | .agg parts => uptoBulkAll parts + 1
  | .iface _ d => uptoBulk d + 1
  | .map entries => uptoBulkEntries entries + 1
  | .held _ => 1
def uptoBulkAll {H : Type} : List (DataW H) → Nat
  | [] => 0
  | d :: r => uptoBulk d + uptoBulkAll r
def uptoBulkEntries {H : Type} : List (Lit × DataW H) → Nat
  | [] => 0
  | x :: r => uptoBulkEntry x + uptoBulkEntries r
def uptoBulkEntry {H : Type} : Lit × DataW H → Nat
  | (.string bytes, d) => bytes.length + uptoBulk d + 1
  | (_, d) => uptoBulk d + 1
 end
def uptoSmall : (H : Type) → List (DataW H) → Bool := fun _ ds => decide (uptoBulkAll ds ≤ 1048576)
def OpenSpec.upto (s : _root_.Go.ChangeSpec) : _root_.Go.OpenSpec := { _root_.Go.OpenSpec.ofChange s with cond := some uptoSmall }

/-- 'laws.FnExactCountAllGames', WHERE WHAT IT READS IS OF BULK AT MOST 1048576: true; the input reads as it did. -/
def fnExactCountAllGamesUptoRow : OpenClaim := { program := "ytliljgmpdfdakaa", sum := "28028c71d7876bb8250b75da9f87a017e5feb6827fdf7074484e0da0adcb48ec", func := "loop.example/g03302/laws.FnExactCountAllGames", spec := "fnExactCountAllGames", recurses := true, plainKeys := false, apart := false, narrowed := true }
def FnExactCountAllGamesUptoSaid : Prop := fnExactCountAllGamesUptoRow.holds Try.pinned (OpenSpec.upto fnExactCountAllGamesSpec)

/-- 'laws.FnExactCountGames', WHERE WHAT IT READS IS OF BULK AT MOST 1048576: true; the input reads as it did. -/
def fnExactCountGamesUptoRow : OpenClaim := { program := "ytliljgmpdfdakaa", sum := "28028c71d7876bb8250b75da9f87a017e5feb6827fdf7074484e0da0adcb48ec", func := "loop.example/g03302/laws.FnExactCountGames", spec := "fnExactCountGames", recurses := true, plainKeys := false, apart := false, narrowed := true }
def FnExactCountGamesUptoSaid : Prop := fnExactCountGamesUptoRow.holds Try.pinned (OpenSpec.upto fnExactCountGamesSpec)

/-- 'laws.FnExactHoleUse', WHERE WHAT IT READS IS OF BULK AT MOST 1048576: true; the input reads as it did. -/
def fnExactHoleUseUptoRow : OpenClaim := { program := "ytliljgmpdfdakaa", sum := "28028c71d7876bb8250b75da9f87a017e5feb6827fdf7074484e0da0adcb48ec", func := "loop.example/g03302/laws.FnExactHoleUse", spec := "fnExactHoleUse", recurses := true, plainKeys := false, apart := false, narrowed := true }
def FnExactHoleUseUptoSaid : Prop := fnExactHoleUseUptoRow.holds Try.pinned (OpenSpec.upto fnExactHoleUseSpec)

/-- 'laws.FnExactFewestSweeps', WHERE WHAT IT READS IS OF BULK AT MOST 1048576: true; the input reads as it did. -/
def fnExactFewestSweepsUptoRow : OpenClaim := { program := "ytliljgmpdfdakaa", sum := "28028c71d7876bb8250b75da9f87a017e5feb6827fdf7074484e0da0adcb48ec", func := "loop.example/g03302/laws.FnExactFewestSweeps", spec := "fnExactFewestSweeps", recurses := true, plainKeys := false, apart := false, narrowed := true }
def FnExactFewestSweepsUptoSaid : Prop := fnExactFewestSweepsUptoRow.holds Try.pinned (OpenSpec.upto fnExactFewestSweepsSpec)

/-- 'laws.FnExactGameAt', WHERE WHAT IT READS IS OF BULK AT MOST 1048576: true; the input reads as it did. -/
def fnExactGameAtUptoRow : OpenClaim := { program := "ytliljgmpdfdakaa", sum := "28028c71d7876bb8250b75da9f87a017e5feb6827fdf7074484e0da0adcb48ec", func := "loop.example/g03302/laws.FnExactGameAt", spec := "fnExactGameAt", recurses := true, plainKeys := false, apart := false, narrowed := true }
def FnExactGameAtUptoSaid : Prop := fnExactGameAtUptoRow.holds Try.pinned (OpenSpec.upto fnExactGameAtSpec)

/-- 'laws.FnExactSweepGame', WHERE WHAT IT READS IS OF BULK AT MOST 1048576: true; the input reads as it did. -/
def fnExactSweepGameUptoRow : OpenClaim := { program := "ytliljgmpdfdakaa", sum := "28028c71d7876bb8250b75da9f87a017e5feb6827fdf7074484e0da0adcb48ec", func := "loop.example/g03302/laws.FnExactSweepGame", spec := "fnExactSweepGame", recurses := true, plainKeys := false, apart := false, narrowed := true }
def FnExactSweepGameUptoSaid : Prop := fnExactSweepGameUptoRow.holds Try.pinned (OpenSpec.upto fnExactSweepGameSpec)

/-- 'laws.FnExactIndexOfGame', WHERE WHAT IT READS IS OF BULK AT MOST 1048576: true; the input reads as it did. -/
def fnExactIndexOfGameUptoRow : OpenClaim := { program := "ytliljgmpdfdakaa", sum := "28028c71d7876bb8250b75da9f87a017e5feb6827fdf7074484e0da0adcb48ec", func := "loop.example/g03302/laws.FnExactIndexOfGame", spec := "fnExactIndexOfGame", recurses := true, plainKeys := false, apart := false, narrowed := true }
def FnExactIndexOfGameUptoSaid : Prop := fnExactIndexOfGameUptoRow.holds Try.pinned (OpenSpec.upto fnExactIndexOfGameSpec)

/-- 'laws.FnCounts', WHERE WHAT IT READS IS OF BULK AT MOST 1048576: true; the input reads as it did. -/
def fnCountsUptoRow : OpenClaim := { program := "ytliljgmpdfdakaa", sum := "28028c71d7876bb8250b75da9f87a017e5feb6827fdf7074484e0da0adcb48ec", func := "loop.example/g03302/laws.FnCounts", spec := "fnCounts", recurses := true, plainKeys := false, apart := false, narrowed := true }
def FnCountsUptoSaid : Prop := fnCountsUptoRow.holds Try.pinned (OpenSpec.upto fnCountsSpec)

end Rows
end Go.Proofs.Ytliljgmpdfdakaa

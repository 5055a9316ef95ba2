/-
  No cell of these rows narrows 'for every input' (looked for: loops, veiled, ifaces, maps, wideKeys, modest, calm, conditions, laid).
  DERIVED. THE GIVEN ROWS OF THIS SEAT. 12 by the template 'for every input the law returns true; each argument reads behind the call as it read before'; 0 by the template 'total and deterministic' (their statements: YahagwTotals.lean).
  GIVEN WITH THE SEED: the statements are not yours to turn. If you find one false, say at which input.
  Laid BY PROGRAM, IN A SANDBOX (cutbox-rows.mjs): the forced cells as the released guide's own fill.sh prints them over the translation 490ff4516a6158cd… (all of the seat's roots in one cut). By AI agents, Wed Nov 11 2026. No macro, syntax, notation, axiom, sorry.
-/
import Derived.Test.YahagwChecked
import GoSem.Claim
import GoSem.ClaimJoined
import GoSem.ClaimMapViews
import Derived.JoinedTies
import Derived.KernelRfl
namespace Go.Proofs.Yahagw
/- THE CELL 'sum', in the pinned program and in every row, IS THE sha256 OF THE DUMP (.gsa) THAT YahagwProg.lean LOADS. Nothing in Lean hashes anything: it is a label: what it is worth is what the hold of that sum in a sandbox is worth. -/
noncomputable def Yagv.pinned : Pinned := { name := "yahagw", sum := "490ff4516a6158cd8b52331d71022e5d439e071b8af6916413993d6e9fa776ce", checked := Yagv.checked }
namespace Rows
def none {H : Type} : Left H := { results := [], args := [] }

/-- 'laws.FnTop': WHATEVER THE INPUT: true; the input reads as it did. -/
def fnTopSpec : ChangeSpec := { name := "fnTop", fn := fun _ => fun
  | [d] => { results := [.lit (.bool true)], args := [d] }
  | _ => none }
def fnTopRow : OpenClaim := { program := "yahagw", sum := "490ff4516a6158cd8b52331d71022e5d439e071b8af6916413993d6e9fa776ce", func := "loop.example/b16/laws.FnTop", spec := "fnTop", recurses := true, apart := false }
def FnTopSaid : Prop := fnTopRow.holds Yagv.pinned (OpenSpec.ofChange fnTopSpec)

/-- ITS FALSE NEIGHBOUR: 'it returns false'. Refute it at one input. -/
def fnTopWrong : ChangeSpec := { name := "fnTop", fn := fun _ => fun
  | [d] => { results := [.lit (.bool false)], args := [d] }
  | _ => none }
def FnTopWrongFalsely : Prop := fnTopRow.holds Yagv.pinned (OpenSpec.ofChange fnTopWrong)

/-- 'laws.FnMalformed': WHATEVER THE INPUT: true; the input reads as it did. -/
def fnMalformedSpec : ChangeSpec := { name := "fnMalformed", fn := fun _ => fun
  | [d] => { results := [.lit (.bool true)], args := [d] }
  | _ => none }
def fnMalformedRow : OpenClaim := { program := "yahagw", sum := "490ff4516a6158cd8b52331d71022e5d439e071b8af6916413993d6e9fa776ce", func := "loop.example/b16/laws.FnMalformed", spec := "fnMalformed", recurses := true, apart := false }
def FnMalformedSaid : Prop := fnMalformedRow.holds Yagv.pinned (OpenSpec.ofChange fnMalformedSpec)

/-- ITS FALSE NEIGHBOUR: 'it returns false'. Refute it at one input. -/
def fnMalformedWrong : ChangeSpec := { name := "fnMalformed", fn := fun _ => fun
  | [d] => { results := [.lit (.bool false)], args := [d] }
  | _ => none }
def FnMalformedWrongFalsely : Prop := fnMalformedRow.holds Yagv.pinned (OpenSpec.ofChange fnMalformedWrong)

/-- 'laws.FnPaths': WHATEVER THE INPUT: true; the input reads as it did. -/
def fnPathsSpec : ChangeSpec := { name := "fnPaths", fn := fun _ => fun
  | [d] => { results := [.lit (.bool true)], args := [d] }
  | _ => none }
def fnPathsRow : OpenClaim := { program := "yahagw", sum := "490ff4516a6158cd8b52331d71022e5d439e071b8af6916413993d6e9fa776ce", func := "loop.example/b16/laws.FnPaths", spec := "fnPaths", recurses := true, apart := false }
def FnPathsSaid : Prop := fnPathsRow.holds Yagv.pinned (OpenSpec.ofChange fnPathsSpec)

/-- ITS FALSE NEIGHBOUR: 'it returns false'. Refute it at one input. -/
def fnPathsWrong : ChangeSpec := { name := "fnPaths", fn := fun _ => fun
  | [d] => { results := [.lit (.bool false)], args := [d] }
  | _ => none }
def FnPathsWrongFalsely : Prop := fnPathsRow.holds Yagv.pinned (OpenSpec.ofChange fnPathsWrong)

/-- 'laws.FnStrict': WHATEVER THE INPUT: true; the input reads as it did. -/
def fnStrictSpec : ChangeSpec := { name := "fnStrict", fn := fun _ => fun
  | [d] => { results := [.lit (.bool true)], args := [d] }
  | _ => none }
def fnStrictRow : OpenClaim := { program := "yahagw", sum := "490ff4516a6158cd8b52331d71022e5d439e071b8af6916413993d6e9fa776ce", func := "loop.example/b16/laws.FnStrict", spec := "fnStrict", recurses := true, apart := false }
def FnStrictSaid : Prop := fnStrictRow.holds Yagv.pinned (OpenSpec.ofChange fnStrictSpec)

/-- ITS FALSE NEIGHBOUR: 'it returns false'. Refute it at one input. -/
def fnStrictWrong : ChangeSpec := { name := "fnStrict", fn := fun _ => fun
  | [d] => { results := [.lit (.bool false)], args := [d] }
  | _ => none }
def FnStrictWrongFalsely : Prop := fnStrictRow.holds Yagv.pinned (OpenSpec.ofChange fnStrictWrong)

/-- 'laws.FnShape': WHATEVER THE INPUT: true; the input reads as it did. -/
def fnShapeSpec : ChangeSpec := { name := "fnShape", fn := fun _ => fun
  | [d] => { results := [.lit (.bool true)], args := [d] }
  | _ => none }
def fnShapeRow : OpenClaim := { program := "yahagw", sum := "490ff4516a6158cd8b52331d71022e5d439e071b8af6916413993d6e9fa776ce", func := "loop.example/b16/laws.FnShape", spec := "fnShape", recurses := true, apart := false }
def FnShapeSaid : Prop := fnShapeRow.holds Yagv.pinned (OpenSpec.ofChange fnShapeSpec)

/-- ITS FALSE NEIGHBOUR: 'it returns false'. Refute it at one input. -/
def fnShapeWrong : ChangeSpec := { name := "fnShape", fn := fun _ => fun
  | [d] => { results := [.lit (.bool false)], args := [d] }
  | _ => none }
def FnShapeWrongFalsely : Prop := fnShapeRow.holds Yagv.pinned (OpenSpec.ofChange fnShapeWrong)

/-- 'laws.FnMirror': WHATEVER THE INPUT: true; the input reads as it did. -/
def fnMirrorSpec : ChangeSpec := { name := "fnMirror", fn := fun _ => fun
  | [d] => { results := [.lit (.bool true)], args := [d] }
  | _ => none }
def fnMirrorRow : OpenClaim := { program := "yahagw", sum := "490ff4516a6158cd8b52331d71022e5d439e071b8af6916413993d6e9fa776ce", func := "loop.example/b16/laws.FnMirror", spec := "fnMirror", recurses := true, apart := false }
def FnMirrorSaid : Prop := fnMirrorRow.holds Yagv.pinned (OpenSpec.ofChange fnMirrorSpec)

/-- ITS FALSE NEIGHBOUR: 'it returns false'. Refute it at one input. -/
def fnMirrorWrong : ChangeSpec := { name := "fnMirror", fn := fun _ => fun
  | [d] => { results := [.lit (.bool false)], args := [d] }
  | _ => none }
def FnMirrorWrongFalsely : Prop := fnMirrorRow.holds Yagv.pinned (OpenSpec.ofChange fnMirrorWrong)

/-- 'laws.FnPad': WHATEVER THE INPUT: true; the input reads as it did. -/
def fnPadSpec : ChangeSpec := { name := "fnPad", fn := fun _ => fun
  | [d] => { results := [.lit (.bool true)], args := [d] }
  | _ => none }
def fnPadRow : OpenClaim := { program := "yahagw", sum := "490ff4516a6158cd8b52331d71022e5d439e071b8af6916413993d6e9fa776ce", func := "loop.example/b16/laws.FnPad", spec := "fnPad", recurses := true, apart := false }
def FnPadSaid : Prop := fnPadRow.holds Yagv.pinned (OpenSpec.ofChange fnPadSpec)

/-- ITS FALSE NEIGHBOUR: 'it returns false'. Refute it at one input. -/
def fnPadWrong : ChangeSpec := { name := "fnPad", fn := fun _ => fun
  | [d] => { results := [.lit (.bool false)], args := [d] }
  | _ => none }
def FnPadWrongFalsely : Prop := fnPadRow.holds Yagv.pinned (OpenSpec.ofChange fnPadWrong)

/-- 'laws.FnRename': WHATEVER THE INPUT: true; the input reads as it did. -/
def fnRenameSpec : ChangeSpec := { name := "fnRename", fn := fun _ => fun
  | [d] => { results := [.lit (.bool true)], args := [d] }
  | _ => none }
def fnRenameRow : OpenClaim := { program := "yahagw", sum := "490ff4516a6158cd8b52331d71022e5d439e071b8af6916413993d6e9fa776ce", func := "loop.example/b16/laws.FnRename", spec := "fnRename", recurses := true, apart := false }
def FnRenameSaid : Prop := fnRenameRow.holds Yagv.pinned (OpenSpec.ofChange fnRenameSpec)

/-- ITS FALSE NEIGHBOUR: 'it returns false'. Refute it at one input. -/
def fnRenameWrong : ChangeSpec := { name := "fnRename", fn := fun _ => fun
  | [d] => { results := [.lit (.bool false)], args := [d] }
  | _ => none }
def FnRenameWrongFalsely : Prop := fnRenameRow.holds Yagv.pinned (OpenSpec.ofChange fnRenameWrong)

/-- 'laws.FnRobust': WHATEVER THE INPUT: true; the input reads as it did. -/
def fnRobustSpec : ChangeSpec := { name := "fnRobust", fn := fun _ => fun
  | [d] => { results := [.lit (.bool true)], args := [d] }
  | _ => none }
def fnRobustRow : OpenClaim := { program := "yahagw", sum := "490ff4516a6158cd8b52331d71022e5d439e071b8af6916413993d6e9fa776ce", func := "loop.example/b16/laws.FnRobust", spec := "fnRobust", recurses := true, apart := false }
def FnRobustSaid : Prop := fnRobustRow.holds Yagv.pinned (OpenSpec.ofChange fnRobustSpec)

/-- ITS FALSE NEIGHBOUR: 'it returns false'. Refute it at one input. -/
def fnRobustWrong : ChangeSpec := { name := "fnRobust", fn := fun _ => fun
  | [d] => { results := [.lit (.bool false)], args := [d] }
  | _ => none }
def FnRobustWrongFalsely : Prop := fnRobustRow.holds Yagv.pinned (OpenSpec.ofChange fnRobustWrong)

/-- 'laws.FnExactConstants': WHATEVER THE INPUT: true; the input reads as it did. -/
def fnExactConstantsSpec : ChangeSpec := { name := "fnExactConstants", fn := fun _ => fun
  | [] => { results := [.lit (.bool true)], args := [] }
  | _ => none }
def fnExactConstantsRow : OpenClaim := { program := "yahagw", sum := "490ff4516a6158cd8b52331d71022e5d439e071b8af6916413993d6e9fa776ce", func := "loop.example/b16/laws.FnExactConstants", spec := "fnExactConstants", apart := false }
def FnExactConstantsSaid : Prop := fnExactConstantsRow.holds Yagv.pinned (OpenSpec.ofChange fnExactConstantsSpec)

/-- ITS FALSE NEIGHBOUR: 'it returns false'. Refute it at one input. -/
def fnExactConstantsWrong : ChangeSpec := { name := "fnExactConstants", fn := fun _ => fun
  | [] => { results := [.lit (.bool false)], args := [] }
  | _ => none }
def FnExactConstantsWrongFalsely : Prop := fnExactConstantsRow.holds Yagv.pinned (OpenSpec.ofChange fnExactConstantsWrong)

/-- 'laws.FnExactAnalyze': WHATEVER THE INPUT: true; the input reads as it did. -/
def fnExactAnalyzeSpec : ChangeSpec := { name := "fnExactAnalyze", fn := fun _ => fun
  | [d] => { results := [.lit (.bool true)], args := [d] }
  | _ => none }
def fnExactAnalyzeRow : OpenClaim := { program := "yahagw", sum := "490ff4516a6158cd8b52331d71022e5d439e071b8af6916413993d6e9fa776ce", func := "loop.example/b16/laws.FnExactAnalyze", spec := "fnExactAnalyze", recurses := true, apart := false }
def FnExactAnalyzeSaid : Prop := fnExactAnalyzeRow.holds Yagv.pinned (OpenSpec.ofChange fnExactAnalyzeSpec)

/-- ITS FALSE NEIGHBOUR: 'it returns false'. Refute it at one input. -/
def fnExactAnalyzeWrong : ChangeSpec := { name := "fnExactAnalyze", fn := fun _ => fun
  | [d] => { results := [.lit (.bool false)], args := [d] }
  | _ => none }
def FnExactAnalyzeWrongFalsely : Prop := fnExactAnalyzeRow.holds Yagv.pinned (OpenSpec.ofChange fnExactAnalyzeWrong)

/-- 'laws.FnExactStrict': WHATEVER THE INPUT: true; the input reads as it did. -/
def fnExactStrictSpec : ChangeSpec := { name := "fnExactStrict", fn := fun _ => fun
  | [d] => { results := [.lit (.bool true)], args := [d] }
  | _ => none }
def fnExactStrictRow : OpenClaim := { program := "yahagw", sum := "490ff4516a6158cd8b52331d71022e5d439e071b8af6916413993d6e9fa776ce", func := "loop.example/b16/laws.FnExactStrict", spec := "fnExactStrict", recurses := true, apart := false }
def FnExactStrictSaid : Prop := fnExactStrictRow.holds Yagv.pinned (OpenSpec.ofChange fnExactStrictSpec)

/-- ITS FALSE NEIGHBOUR: 'it returns false'. Refute it at one input. -/
def fnExactStrictWrong : ChangeSpec := { name := "fnExactStrict", fn := fun _ => fun
  | [d] => { results := [.lit (.bool false)], args := [d] }
  | _ => none }
def FnExactStrictWrongFalsely : Prop := fnExactStrictRow.holds Yagv.pinned (OpenSpec.ofChange fnExactStrictWrong)

end Rows
end Go.Proofs.Yahagw

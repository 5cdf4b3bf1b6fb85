/-
  No cell of these rows narrows 'for every input' (looked for: loops, veiled, ifaces, maps, wideKeys, modest, calm, conditions, laid).
  DERIVED. THE GIVEN ROWS OF THIS SEAT. 21 by the template 'for every input the law returns true; each argument reads behind the call as it read before'; 0 by the template 'total and deterministic' (their statements: YteebobbhhgmeiaaTotals.lean).
  GIVEN WITH THE SEED: the statements are not yours to turn. If you find one false, say at which input.
  Laid BY PROGRAM, IN A SANDBOX (cutbox-rows.mjs): the forced cells as the released guide's own fill.sh prints them over the translation 9d1f42f3eaed38d8… (all of the seat's roots in one cut). By AI agents, Wed Nov 11 2026. No macro, syntax, notation, axiom, sorry.
-/
import Derived.Test.YteebobbhhgmeiaaChecked
import GoSem.Claim
import GoSem.ClaimJoined
import GoSem.ClaimMapViews
import Derived.JoinedTies
import Derived.KernelRfl
namespace Go.Proofs.Yteebobbhhgmeiaa
/- THE CELL 'sum', in the pinned program and in every row, IS THE sha256 OF THE DUMP (.gsa) THAT YteebobbhhgmeiaaProg.lean LOADS. Nothing in Lean hashes anything: it is a label: what it is worth is what the hold of that sum in a sandbox is worth. -/
noncomputable def Try.pinned : Pinned := { name := "yteebobbhhgmeiaa", sum := "9d1f42f3eaed38d8472dd41395cccd7462bc9faadf802d9f38368b78c57a9b27", checked := Try.checked }
namespace Rows
def none {H : Type} : Left H := { results := [], args := [] }

/-- 'gemellaw23.FrontierGrows': WHATEVER THE INPUT: true; the input reads as it did. -/
def frontierGrowsSpec : ChangeSpec := { name := "frontierGrows", fn := fun _ => fun
  | [d1, d2] => { results := [.lit (.bool true)], args := [d1, d2] }
  | _ => none }
def frontierGrowsRow : OpenClaim := { program := "yteebobbhhgmeiaa", sum := "9d1f42f3eaed38d8472dd41395cccd7462bc9faadf802d9f38368b78c57a9b27", func := "gemel/gemellaw23.FrontierGrows", spec := "frontierGrows", unfollowed := true, recurses := true, apart := false }
def FrontierGrowsSaid : Prop := frontierGrowsRow.holds Try.pinned (OpenSpec.ofChange frontierGrowsSpec)

/-- ITS FALSE NEIGHBOUR: 'it returns false'. Refute it at one input. -/
def frontierGrowsWrong : ChangeSpec := { name := "frontierGrows", fn := fun _ => fun
  | [d1, d2] => { results := [.lit (.bool false)], args := [d1, d2] }
  | _ => none }
def FrontierGrowsWrongFalsely : Prop := frontierGrowsRow.holds Try.pinned (OpenSpec.ofChange frontierGrowsWrong)

/-- 'gemellaw23.FrontierLearns': WHATEVER THE INPUT: true; the input reads as it did. -/
def frontierLearnsSpec : ChangeSpec := { name := "frontierLearns", fn := fun _ => fun
  | [d1, d2, d3] => { results := [.lit (.bool true)], args := [d1, d2, d3] }
  | _ => none }
def frontierLearnsRow : OpenClaim := { program := "yteebobbhhgmeiaa", sum := "9d1f42f3eaed38d8472dd41395cccd7462bc9faadf802d9f38368b78c57a9b27", func := "gemel/gemellaw23.FrontierLearns", spec := "frontierLearns", unfollowed := true, recurses := true, apart := false }
def FrontierLearnsSaid : Prop := frontierLearnsRow.holds Try.pinned (OpenSpec.ofChange frontierLearnsSpec)

/-- ITS FALSE NEIGHBOUR: 'it returns false'. Refute it at one input. -/
def frontierLearnsWrong : ChangeSpec := { name := "frontierLearns", fn := fun _ => fun
  | [d1, d2, d3] => { results := [.lit (.bool false)], args := [d1, d2, d3] }
  | _ => none }
def FrontierLearnsWrongFalsely : Prop := frontierLearnsRow.holds Try.pinned (OpenSpec.ofChange frontierLearnsWrong)

/-- 'gemellaw08.CellWrites': WHATEVER THE INPUT: true; the input reads as it did. -/
def cellWritesSpec : ChangeSpec := { name := "cellWrites", fn := fun _ => fun
  | [d1, d2] => { results := [.lit (.bool true)], args := [d1, d2] }
  | _ => none }
def cellWritesRow : OpenClaim := { program := "yteebobbhhgmeiaa", sum := "9d1f42f3eaed38d8472dd41395cccd7462bc9faadf802d9f38368b78c57a9b27", func := "gemel/gemellaw08.CellWrites", spec := "cellWrites", unfollowed := true, recurses := true, apart := false }
def CellWritesSaid : Prop := cellWritesRow.holds Try.pinned (OpenSpec.ofChange cellWritesSpec)

/-- ITS FALSE NEIGHBOUR: 'it returns false'. Refute it at one input. -/
def cellWritesWrong : ChangeSpec := { name := "cellWrites", fn := fun _ => fun
  | [d1, d2] => { results := [.lit (.bool false)], args := [d1, d2] }
  | _ => none }
def CellWritesWrongFalsely : Prop := cellWritesRow.holds Try.pinned (OpenSpec.ofChange cellWritesWrong)

/-- 'gemellaw08.CellSeen': WHATEVER THE INPUT: true; the input reads as it did. -/
def cellSeenSpec : ChangeSpec := { name := "cellSeen", fn := fun _ => fun
  | [d1, d2, d3] => { results := [.lit (.bool true)], args := [d1, d2, d3] }
  | _ => none }
def cellSeenRow : OpenClaim := { program := "yteebobbhhgmeiaa", sum := "9d1f42f3eaed38d8472dd41395cccd7462bc9faadf802d9f38368b78c57a9b27", func := "gemel/gemellaw08.CellSeen", spec := "cellSeen", unfollowed := true, recurses := true, apart := false }
def CellSeenSaid : Prop := cellSeenRow.holds Try.pinned (OpenSpec.ofChange cellSeenSpec)

/-- ITS FALSE NEIGHBOUR: 'it returns false'. Refute it at one input. -/
def cellSeenWrong : ChangeSpec := { name := "cellSeen", fn := fun _ => fun
  | [d1, d2, d3] => { results := [.lit (.bool false)], args := [d1, d2, d3] }
  | _ => none }
def CellSeenWrongFalsely : Prop := cellSeenRow.holds Try.pinned (OpenSpec.ofChange cellSeenWrong)

/-- 'gemellaw08.CellChecks': WHATEVER THE INPUT: true; the input reads as it did. -/
def cellChecksSpec : ChangeSpec := { name := "cellChecks", fn := fun _ => fun
  | [d1, d2] => { results := [.lit (.bool true)], args := [d1, d2] }
  | _ => none }
def cellChecksRow : OpenClaim := { program := "yteebobbhhgmeiaa", sum := "9d1f42f3eaed38d8472dd41395cccd7462bc9faadf802d9f38368b78c57a9b27", func := "gemel/gemellaw08.CellChecks", spec := "cellChecks", unfollowed := true, recurses := true, apart := false }
def CellChecksSaid : Prop := cellChecksRow.holds Try.pinned (OpenSpec.ofChange cellChecksSpec)

/-- ITS FALSE NEIGHBOUR: 'it returns false'. Refute it at one input. -/
def cellChecksWrong : ChangeSpec := { name := "cellChecks", fn := fun _ => fun
  | [d1, d2] => { results := [.lit (.bool false)], args := [d1, d2] }
  | _ => none }
def CellChecksWrongFalsely : Prop := cellChecksRow.holds Try.pinned (OpenSpec.ofChange cellChecksWrong)

/-- 'gemellaw23.FrontierSweeps': WHATEVER THE INPUT: true; the input reads as it did. -/
def frontierSweepsSpec : ChangeSpec := { name := "frontierSweeps", fn := fun _ => fun
  | [d1, d2, d3] => { results := [.lit (.bool true)], args := [d1, d2, d3] }
  | _ => none }
def frontierSweepsRow : OpenClaim := { program := "yteebobbhhgmeiaa", sum := "9d1f42f3eaed38d8472dd41395cccd7462bc9faadf802d9f38368b78c57a9b27", func := "gemel/gemellaw23.FrontierSweeps", spec := "frontierSweeps", unfollowed := true, recurses := true, apart := false }
def FrontierSweepsSaid : Prop := frontierSweepsRow.holds Try.pinned (OpenSpec.ofChange frontierSweepsSpec)

/-- ITS FALSE NEIGHBOUR: 'it returns false'. Refute it at one input. -/
def frontierSweepsWrong : ChangeSpec := { name := "frontierSweeps", fn := fun _ => fun
  | [d1, d2, d3] => { results := [.lit (.bool false)], args := [d1, d2, d3] }
  | _ => none }
def FrontierSweepsWrongFalsely : Prop := frontierSweepsRow.holds Try.pinned (OpenSpec.ofChange frontierSweepsWrong)

/-- 'gemellaw23.FrontierRest': WHATEVER THE INPUT: true; the input reads as it did. -/
def frontierRestSpec : ChangeSpec := { name := "frontierRest", fn := fun _ => fun
  | [d1, d2, d3] => { results := [.lit (.bool true)], args := [d1, d2, d3] }
  | _ => none }
def frontierRestRow : OpenClaim := { program := "yteebobbhhgmeiaa", sum := "9d1f42f3eaed38d8472dd41395cccd7462bc9faadf802d9f38368b78c57a9b27", func := "gemel/gemellaw23.FrontierRest", spec := "frontierRest", unfollowed := true, recurses := true, apart := false }
def FrontierRestSaid : Prop := frontierRestRow.holds Try.pinned (OpenSpec.ofChange frontierRestSpec)

/-- ITS FALSE NEIGHBOUR: 'it returns false'. Refute it at one input. -/
def frontierRestWrong : ChangeSpec := { name := "frontierRest", fn := fun _ => fun
  | [d1, d2, d3] => { results := [.lit (.bool false)], args := [d1, d2, d3] }
  | _ => none }
def FrontierRestWrongFalsely : Prop := frontierRestRow.holds Try.pinned (OpenSpec.ofChange frontierRestWrong)

/-- 'gemellaw08.CellBytes': WHATEVER THE INPUT: true; the input reads as it did. -/
def cellBytesSpec : ChangeSpec := { name := "cellBytes", fn := fun _ => fun
  | [d1, d2, d3] => { results := [.lit (.bool true)], args := [d1, d2, d3] }
  | _ => none }
def cellBytesRow : OpenClaim := { program := "yteebobbhhgmeiaa", sum := "9d1f42f3eaed38d8472dd41395cccd7462bc9faadf802d9f38368b78c57a9b27", func := "gemel/gemellaw08.CellBytes", spec := "cellBytes", unfollowed := true, recurses := true, apart := false }
def CellBytesSaid : Prop := cellBytesRow.holds Try.pinned (OpenSpec.ofChange cellBytesSpec)

/-- ITS FALSE NEIGHBOUR: 'it returns false'. Refute it at one input. -/
def cellBytesWrong : ChangeSpec := { name := "cellBytes", fn := fun _ => fun
  | [d1, d2, d3] => { results := [.lit (.bool false)], args := [d1, d2, d3] }
  | _ => none }
def CellBytesWrongFalsely : Prop := cellBytesRow.holds Try.pinned (OpenSpec.ofChange cellBytesWrong)

/-- 'gemellaw08.CellBack': WHATEVER THE INPUT: true; the input reads as it did. -/
def cellBackSpec : ChangeSpec := { name := "cellBack", fn := fun _ => fun
  | [d1, d2, d3] => { results := [.lit (.bool true)], args := [d1, d2, d3] }
  | _ => none }
def cellBackRow : OpenClaim := { program := "yteebobbhhgmeiaa", sum := "9d1f42f3eaed38d8472dd41395cccd7462bc9faadf802d9f38368b78c57a9b27", func := "gemel/gemellaw08.CellBack", spec := "cellBack", unfollowed := true, recurses := true, apart := false }
def CellBackSaid : Prop := cellBackRow.holds Try.pinned (OpenSpec.ofChange cellBackSpec)

/-- ITS FALSE NEIGHBOUR: 'it returns false'. Refute it at one input. -/
def cellBackWrong : ChangeSpec := { name := "cellBack", fn := fun _ => fun
  | [d1, d2, d3] => { results := [.lit (.bool false)], args := [d1, d2, d3] }
  | _ => none }
def CellBackWrongFalsely : Prop := cellBackRow.holds Try.pinned (OpenSpec.ofChange cellBackWrong)

/-- 'gemellaw23.FrontierSeen': WHATEVER THE INPUT: true; the input reads as it did. -/
def frontierSeenSpec : ChangeSpec := { name := "frontierSeen", fn := fun _ => fun
  | [d1, d2, d3] => { results := [.lit (.bool true)], args := [d1, d2, d3] }
  | _ => none }
def frontierSeenRow : OpenClaim := { program := "yteebobbhhgmeiaa", sum := "9d1f42f3eaed38d8472dd41395cccd7462bc9faadf802d9f38368b78c57a9b27", func := "gemel/gemellaw23.FrontierSeen", spec := "frontierSeen", unfollowed := true, recurses := true, apart := false }
def FrontierSeenSaid : Prop := frontierSeenRow.holds Try.pinned (OpenSpec.ofChange frontierSeenSpec)

/-- ITS FALSE NEIGHBOUR: 'it returns false'. Refute it at one input. -/
def frontierSeenWrong : ChangeSpec := { name := "frontierSeen", fn := fun _ => fun
  | [d1, d2, d3] => { results := [.lit (.bool false)], args := [d1, d2, d3] }
  | _ => none }
def FrontierSeenWrongFalsely : Prop := frontierSeenRow.holds Try.pinned (OpenSpec.ofChange frontierSeenWrong)

/-- 'gemellaw10.RowChecks': WHATEVER THE INPUT: true; the input reads as it did. -/
def rowChecksSpec : ChangeSpec := { name := "rowChecks", fn := fun _ => fun
  | [d1, d2, d3] => { results := [.lit (.bool true)], args := [d1, d2, d3] }
  | _ => none }
def rowChecksRow : OpenClaim := { program := "yteebobbhhgmeiaa", sum := "9d1f42f3eaed38d8472dd41395cccd7462bc9faadf802d9f38368b78c57a9b27", func := "gemel/gemellaw10.RowChecks", spec := "rowChecks", unfollowed := true, recurses := true, apart := false }
def RowChecksSaid : Prop := rowChecksRow.holds Try.pinned (OpenSpec.ofChange rowChecksSpec)

/-- ITS FALSE NEIGHBOUR: 'it returns false'. Refute it at one input. -/
def rowChecksWrong : ChangeSpec := { name := "rowChecks", fn := fun _ => fun
  | [d1, d2, d3] => { results := [.lit (.bool false)], args := [d1, d2, d3] }
  | _ => none }
def RowChecksWrongFalsely : Prop := rowChecksRow.holds Try.pinned (OpenSpec.ofChange rowChecksWrong)

/-- 'gemellaw10.RowLattice': WHATEVER THE INPUT: true; the input reads as it did. -/
def rowLatticeSpec : ChangeSpec := { name := "rowLattice", fn := fun _ => fun
  | [d1, d2, d3] => { results := [.lit (.bool true)], args := [d1, d2, d3] }
  | _ => none }
def rowLatticeRow : OpenClaim := { program := "yteebobbhhgmeiaa", sum := "9d1f42f3eaed38d8472dd41395cccd7462bc9faadf802d9f38368b78c57a9b27", func := "gemel/gemellaw10.RowLattice", spec := "rowLattice", unfollowed := true, recurses := true, apart := false }
def RowLatticeSaid : Prop := rowLatticeRow.holds Try.pinned (OpenSpec.ofChange rowLatticeSpec)

/-- ITS FALSE NEIGHBOUR: 'it returns false'. Refute it at one input. -/
def rowLatticeWrong : ChangeSpec := { name := "rowLattice", fn := fun _ => fun
  | [d1, d2, d3] => { results := [.lit (.bool false)], args := [d1, d2, d3] }
  | _ => none }
def RowLatticeWrongFalsely : Prop := rowLatticeRow.holds Try.pinned (OpenSpec.ofChange rowLatticeWrong)

/-- 'gemellaw10.RowWrites': WHATEVER THE INPUT: true; the input reads as it did. -/
def rowWritesSpec : ChangeSpec := { name := "rowWrites", fn := fun _ => fun
  | [d1, d2, d3] => { results := [.lit (.bool true)], args := [d1, d2, d3] }
  | _ => none }
def rowWritesRow : OpenClaim := { program := "yteebobbhhgmeiaa", sum := "9d1f42f3eaed38d8472dd41395cccd7462bc9faadf802d9f38368b78c57a9b27", func := "gemel/gemellaw10.RowWrites", spec := "rowWrites", unfollowed := true, recurses := true, apart := false }
def RowWritesSaid : Prop := rowWritesRow.holds Try.pinned (OpenSpec.ofChange rowWritesSpec)

/-- ITS FALSE NEIGHBOUR: 'it returns false'. Refute it at one input. -/
def rowWritesWrong : ChangeSpec := { name := "rowWrites", fn := fun _ => fun
  | [d1, d2, d3] => { results := [.lit (.bool false)], args := [d1, d2, d3] }
  | _ => none }
def RowWritesWrongFalsely : Prop := rowWritesRow.holds Try.pinned (OpenSpec.ofChange rowWritesWrong)

/-- 'gemellaw10.RowApart': WHATEVER THE INPUT: true; the input reads as it did. -/
def rowApartSpec : ChangeSpec := { name := "rowApart", fn := fun _ => fun
  | [d1, d2] => { results := [.lit (.bool true)], args := [d1, d2] }
  | _ => none }
def rowApartRow : OpenClaim := { program := "yteebobbhhgmeiaa", sum := "9d1f42f3eaed38d8472dd41395cccd7462bc9faadf802d9f38368b78c57a9b27", func := "gemel/gemellaw10.RowApart", spec := "rowApart", unfollowed := true, recurses := true, apart := false }
def RowApartSaid : Prop := rowApartRow.holds Try.pinned (OpenSpec.ofChange rowApartSpec)

/-- ITS FALSE NEIGHBOUR: 'it returns false'. Refute it at one input. -/
def rowApartWrong : ChangeSpec := { name := "rowApart", fn := fun _ => fun
  | [d1, d2] => { results := [.lit (.bool false)], args := [d1, d2] }
  | _ => none }
def RowApartWrongFalsely : Prop := rowApartRow.holds Try.pinned (OpenSpec.ofChange rowApartWrong)

/-- 'gemellaw10.RowBytes': WHATEVER THE INPUT: true; the input reads as it did. -/
def rowBytesSpec : ChangeSpec := { name := "rowBytes", fn := fun _ => fun
  | [d1, d2, d3] => { results := [.lit (.bool true)], args := [d1, d2, d3] }
  | _ => none }
def rowBytesRow : OpenClaim := { program := "yteebobbhhgmeiaa", sum := "9d1f42f3eaed38d8472dd41395cccd7462bc9faadf802d9f38368b78c57a9b27", func := "gemel/gemellaw10.RowBytes", spec := "rowBytes", unfollowed := true, recurses := true, apart := false }
def RowBytesSaid : Prop := rowBytesRow.holds Try.pinned (OpenSpec.ofChange rowBytesSpec)

/-- ITS FALSE NEIGHBOUR: 'it returns false'. Refute it at one input. -/
def rowBytesWrong : ChangeSpec := { name := "rowBytes", fn := fun _ => fun
  | [d1, d2, d3] => { results := [.lit (.bool false)], args := [d1, d2, d3] }
  | _ => none }
def RowBytesWrongFalsely : Prop := rowBytesRow.holds Try.pinned (OpenSpec.ofChange rowBytesWrong)

/-- 'gemellaw13.ModelStates': WHATEVER THE INPUT: true; the input reads as it did. -/
def modelStatesSpec : ChangeSpec := { name := "modelStates", fn := fun _ => fun
  | [d1, d2] => { results := [.lit (.bool true)], args := [d1, d2] }
  | _ => none }
def modelStatesRow : OpenClaim := { program := "yteebobbhhgmeiaa", sum := "9d1f42f3eaed38d8472dd41395cccd7462bc9faadf802d9f38368b78c57a9b27", func := "gemel/gemellaw13.ModelStates", spec := "modelStates", unfollowed := true, recurses := true, apart := false }
def ModelStatesSaid : Prop := modelStatesRow.holds Try.pinned (OpenSpec.ofChange modelStatesSpec)

/-- ITS FALSE NEIGHBOUR: 'it returns false'. Refute it at one input. -/
def modelStatesWrong : ChangeSpec := { name := "modelStates", fn := fun _ => fun
  | [d1, d2] => { results := [.lit (.bool false)], args := [d1, d2] }
  | _ => none }
def ModelStatesWrongFalsely : Prop := modelStatesRow.holds Try.pinned (OpenSpec.ofChange modelStatesWrong)

/-- 'gemellaw13.ModelOrder': WHATEVER THE INPUT: true; the input reads as it did. -/
def modelOrderSpec : ChangeSpec := { name := "modelOrder", fn := fun _ => fun
  | [d1, d2, d3] => { results := [.lit (.bool true)], args := [d1, d2, d3] }
  | _ => none }
def modelOrderRow : OpenClaim := { program := "yteebobbhhgmeiaa", sum := "9d1f42f3eaed38d8472dd41395cccd7462bc9faadf802d9f38368b78c57a9b27", func := "gemel/gemellaw13.ModelOrder", spec := "modelOrder", unfollowed := true, recurses := true, apart := false }
def ModelOrderSaid : Prop := modelOrderRow.holds Try.pinned (OpenSpec.ofChange modelOrderSpec)

/-- ITS FALSE NEIGHBOUR: 'it returns false'. Refute it at one input. -/
def modelOrderWrong : ChangeSpec := { name := "modelOrder", fn := fun _ => fun
  | [d1, d2, d3] => { results := [.lit (.bool false)], args := [d1, d2, d3] }
  | _ => none }
def ModelOrderWrongFalsely : Prop := modelOrderRow.holds Try.pinned (OpenSpec.ofChange modelOrderWrong)

/-- 'gemellaw13.ModelKnows': WHATEVER THE INPUT: true; the input reads as it did. -/
def modelKnowsSpec : ChangeSpec := { name := "modelKnows", fn := fun _ => fun
  | [d1, d2, d3] => { results := [.lit (.bool true)], args := [d1, d2, d3] }
  | _ => none }
def modelKnowsRow : OpenClaim := { program := "yteebobbhhgmeiaa", sum := "9d1f42f3eaed38d8472dd41395cccd7462bc9faadf802d9f38368b78c57a9b27", func := "gemel/gemellaw13.ModelKnows", spec := "modelKnows", unfollowed := true, recurses := true, apart := false }
def ModelKnowsSaid : Prop := modelKnowsRow.holds Try.pinned (OpenSpec.ofChange modelKnowsSpec)

/-- ITS FALSE NEIGHBOUR: 'it returns false'. Refute it at one input. -/
def modelKnowsWrong : ChangeSpec := { name := "modelKnows", fn := fun _ => fun
  | [d1, d2, d3] => { results := [.lit (.bool false)], args := [d1, d2, d3] }
  | _ => none }
def ModelKnowsWrongFalsely : Prop := modelKnowsRow.holds Try.pinned (OpenSpec.ofChange modelKnowsWrong)

/-- 'gemellaw13.ModelAsks': WHATEVER THE INPUT: true; the input reads as it did. -/
def modelAsksSpec : ChangeSpec := { name := "modelAsks", fn := fun _ => fun
  | [d1, d2, d3] => { results := [.lit (.bool true)], args := [d1, d2, d3] }
  | _ => none }
def modelAsksRow : OpenClaim := { program := "yteebobbhhgmeiaa", sum := "9d1f42f3eaed38d8472dd41395cccd7462bc9faadf802d9f38368b78c57a9b27", func := "gemel/gemellaw13.ModelAsks", spec := "modelAsks", unfollowed := true, recurses := true, apart := false }
def ModelAsksSaid : Prop := modelAsksRow.holds Try.pinned (OpenSpec.ofChange modelAsksSpec)

/-- ITS FALSE NEIGHBOUR: 'it returns false'. Refute it at one input. -/
def modelAsksWrong : ChangeSpec := { name := "modelAsks", fn := fun _ => fun
  | [d1, d2, d3] => { results := [.lit (.bool false)], args := [d1, d2, d3] }
  | _ => none }
def ModelAsksWrongFalsely : Prop := modelAsksRow.holds Try.pinned (OpenSpec.ofChange modelAsksWrong)

/-- 'gemellaw13.ModelMerges': WHATEVER THE INPUT: true; the input reads as it did. -/
def modelMergesSpec : ChangeSpec := { name := "modelMerges", fn := fun _ => fun
  | [d1, d2, d3] => { results := [.lit (.bool true)], args := [d1, d2, d3] }
  | _ => none }
def modelMergesRow : OpenClaim := { program := "yteebobbhhgmeiaa", sum := "9d1f42f3eaed38d8472dd41395cccd7462bc9faadf802d9f38368b78c57a9b27", func := "gemel/gemellaw13.ModelMerges", spec := "modelMerges", unfollowed := true, recurses := true, apart := false }
def ModelMergesSaid : Prop := modelMergesRow.holds Try.pinned (OpenSpec.ofChange modelMergesSpec)

/-- ITS FALSE NEIGHBOUR: 'it returns false'. Refute it at one input. -/
def modelMergesWrong : ChangeSpec := { name := "modelMerges", fn := fun _ => fun
  | [d1, d2, d3] => { results := [.lit (.bool false)], args := [d1, d2, d3] }
  | _ => none }
def ModelMergesWrongFalsely : Prop := modelMergesRow.holds Try.pinned (OpenSpec.ofChange modelMergesWrong)

/-- 'gemellaw13.ModelParts': WHATEVER THE INPUT: true; the input reads as it did. -/
def modelPartsSpec : ChangeSpec := { name := "modelParts", fn := fun _ => fun
  | [d1, d2, d3] => { results := [.lit (.bool true)], args := [d1, d2, d3] }
  | _ => none }
def modelPartsRow : OpenClaim := { program := "yteebobbhhgmeiaa", sum := "9d1f42f3eaed38d8472dd41395cccd7462bc9faadf802d9f38368b78c57a9b27", func := "gemel/gemellaw13.ModelParts", spec := "modelParts", unfollowed := true, recurses := true, apart := false }
def ModelPartsSaid : Prop := modelPartsRow.holds Try.pinned (OpenSpec.ofChange modelPartsSpec)

/-- ITS FALSE NEIGHBOUR: 'it returns false'. Refute it at one input. -/
def modelPartsWrong : ChangeSpec := { name := "modelParts", fn := fun _ => fun
  | [d1, d2, d3] => { results := [.lit (.bool false)], args := [d1, d2, d3] }
  | _ => none }
def ModelPartsWrongFalsely : Prop := modelPartsRow.holds Try.pinned (OpenSpec.ofChange modelPartsWrong)

/- THE SECOND FORM. 'bulk': how many values and letters a reading holds, each counted each time it is reached (what is shared counts as often as it is met; a slice's spare places count too). A statement '..UptoSaid' is the law's where the arguments, and the package variables that the reading takes, are together of bulk at most 1048576: NARROWER than '..Said'. Prove '..Said' where nothing that the law and all that it calls make is longer than what came in: it says more and counts as full. Else prove '..UptoSaid'. A law counts once. -/
mutual
def uptoBulk {H : Type} : DataW H → Nat
  | .lit (.string bytes) => bytes.length + 1
  | .lit _ => 1
  | .nil => 1
  | .ptr d => uptoBulk d + 1
  | .slice elems spare => uptoBulkAll elems + uptoBulkAll spare + 1
  | .agg parts => uptoBulkAll parts + 1
  | .iface _ d => uptoBulk d + 1
  | .map entries => uptoBulkEntries entries + 1
  | .held _ => 1
def uptoBulkAll {H : Type} : List (DataW H) → Nat
  | [] => 0
  | d :: r => uptoBulk d + uptoBulkAll r
def uptoBulkEntries {H : Type} : List (Lit × DataW H) → Nat
  | [] => 0
  | x :: r => uptoBulkEntry x + uptoBulkEntries r
def uptoBulkEntry {H : Type} : Lit × DataW H → Nat
  | (.string bytes, d) => bytes.length + uptoBulk d + 1
  | (_, d) => uptoBulk d + 1
 end
def uptoSmall : (H : Type) → List (DataW H) → Bool := fun _ ds => decide (uptoBulkAll ds ≤ 1048576)
def OpenSpec.upto (s : _root_.Go.ChangeSpec) : _root_.Go.OpenSpec := { _root_.Go.OpenSpec.ofChange s with cond := some uptoSmall }

/-- 'gemellaw23.FrontierGrows', WHERE WHAT IT READS IS OF BULK AT MOST 1048576: true; the input reads as it did. -/
def frontierGrowsUptoRow : OpenClaim := { program := "yteebobbhhgmeiaa", sum := "9d1f42f3eaed38d8472dd41395cccd7462bc9faadf802d9f38368b78c57a9b27", func := "gemel/gemellaw23.FrontierGrows", spec := "frontierGrows", unfollowed := true, recurses := true, apart := false, narrowed := true }
def FrontierGrowsUptoSaid : Prop := frontierGrowsUptoRow.holds Try.pinned (OpenSpec.upto frontierGrowsSpec)

/-- 'gemellaw23.FrontierLearns', WHERE WHAT IT READS IS OF BULK AT MOST 1048576: true; the input reads as it did. -/
def frontierLearnsUptoRow : OpenClaim := { program := "yteebobbhhgmeiaa", sum := "9d1f42f3eaed38d8472dd41395cccd7462bc9faadf802d9f38368b78c57a9b27", func := "gemel/gemellaw23.FrontierLearns", spec := "frontierLearns", unfollowed := true, recurses := true, apart := false, narrowed := true }
def FrontierLearnsUptoSaid : Prop := frontierLearnsUptoRow.holds Try.pinned (OpenSpec.upto frontierLearnsSpec)

/-- 'gemellaw08.CellWrites', WHERE WHAT IT READS IS OF BULK AT MOST 1048576: true; the input reads as it did. -/
def cellWritesUptoRow : OpenClaim := { program := "yteebobbhhgmeiaa", sum := "9d1f42f3eaed38d8472dd41395cccd7462bc9faadf802d9f38368b78c57a9b27", func := "gemel/gemellaw08.CellWrites", spec := "cellWrites", unfollowed := true, recurses := true, apart := false, narrowed := true }
def CellWritesUptoSaid : Prop := cellWritesUptoRow.holds Try.pinned (OpenSpec.upto cellWritesSpec)

/-- 'gemellaw08.CellSeen', WHERE WHAT IT READS IS OF BULK AT MOST 1048576: true; the input reads as it did. -/
def cellSeenUptoRow : OpenClaim := { program := "yteebobbhhgmeiaa", sum := "9d1f42f3eaed38d8472dd41395cccd7462bc9faadf802d9f38368b78c57a9b27", func := "gemel/gemellaw08.CellSeen", spec := "cellSeen", unfollowed := true, recurses := true, apart := false, narrowed := true }
def CellSeenUptoSaid : Prop := cellSeenUptoRow.holds Try.pinned (OpenSpec.upto cellSeenSpec)

/-- 'gemellaw08.CellChecks', WHERE WHAT IT READS IS OF BULK AT MOST 1048576: true; the input reads as it did. -/
def cellChecksUptoRow : OpenClaim := { program := "yteebobbhhgmeiaa", sum := "9d1f42f3eaed38d8472dd41395cccd7462bc9faadf802d9f38368b78c57a9b27", func := "gemel/gemellaw08.CellChecks", spec := "cellChecks", unfollowed := true, recurses := true, apart := false, narrowed := true }
def CellChecksUptoSaid : Prop := cellChecksUptoRow.holds Try.pinned (OpenSpec.upto cellChecksSpec)

/-- 'gemellaw23.FrontierSweeps', WHERE WHAT IT READS IS OF BULK AT MOST 1048576: true; the input reads as it did. -/
def frontierSweepsUptoRow : OpenClaim := { program := "yteebobbhhgmeiaa", sum := "9d1f42f3eaed38d8472dd41395cccd7462bc9faadf802d9f38368b78c57a9b27", func := "gemel/gemellaw23.FrontierSweeps", spec := "frontierSweeps", unfollowed := true, recurses := true, apart := false, narrowed := true }
def FrontierSweepsUptoSaid : Prop := frontierSweepsUptoRow.holds Try.pinned (OpenSpec.upto frontierSweepsSpec)

/-- 'gemellaw23.FrontierRest', WHERE WHAT IT READS IS OF BULK AT MOST 1048576: true; the input reads as it did. -/
def frontierRestUptoRow : OpenClaim := { program := "yteebobbhhgmeiaa", sum := "9d1f42f3eaed38d8472dd41395cccd7462bc9faadf802d9f38368b78c57a9b27", func := "gemel/gemellaw23.FrontierRest", spec := "frontierRest", unfollowed := true, recurses := true, apart := false, narrowed := true }
def FrontierRestUptoSaid : Prop := frontierRestUptoRow.holds Try.pinned (OpenSpec.upto frontierRestSpec)

/-- 'gemellaw08.CellBytes', WHERE WHAT IT READS IS OF BULK AT MOST 1048576: true; the input reads as it did. -/
def cellBytesUptoRow : OpenClaim := { program := "yteebobbhhgmeiaa", sum := "9d1f42f3eaed38d8472dd41395cccd7462bc9faadf802d9f38368b78c57a9b27", func := "gemel/gemellaw08.CellBytes", spec := "cellBytes", unfollowed := true, recurses := true, apart := false, narrowed := true }
def CellBytesUptoSaid : Prop := cellBytesUptoRow.holds Try.pinned (OpenSpec.upto cellBytesSpec)

/-- 'gemellaw08.CellBack', WHERE WHAT IT READS IS OF BULK AT MOST 1048576: true; the input reads as it did. -/
def cellBackUptoRow : OpenClaim := { program := "yteebobbhhgmeiaa", sum := "9d1f42f3eaed38d8472dd41395cccd7462bc9faadf802d9f38368b78c57a9b27", func := "gemel/gemellaw08.CellBack", spec := "cellBack", unfollowed := true, recurses := true, apart := false, narrowed := true }
def CellBackUptoSaid : Prop := cellBackUptoRow.holds Try.pinned (OpenSpec.upto cellBackSpec)

/-- 'gemellaw23.FrontierSeen', WHERE WHAT IT READS IS OF BULK AT MOST 1048576: true; the input reads as it did. -/
def frontierSeenUptoRow : OpenClaim := { program := "yteebobbhhgmeiaa", sum := "9d1f42f3eaed38d8472dd41395cccd7462bc9faadf802d9f38368b78c57a9b27", func := "gemel/gemellaw23.FrontierSeen", spec := "frontierSeen", unfollowed := true, recurses := true, apart := false, narrowed := true }
def FrontierSeenUptoSaid : Prop := frontierSeenUptoRow.holds Try.pinned (OpenSpec.upto frontierSeenSpec)

/-- 'gemellaw10.RowChecks', WHERE WHAT IT READS IS OF BULK AT MOST 1048576: true; the input reads as it did. -/
def rowChecksUptoRow : OpenClaim := { program := "yteebobbhhgmeiaa", sum := "9d1f42f3eaed38d8472dd41395cccd7462bc9faadf802d9f38368b78c57a9b27", func := "gemel/gemellaw10.RowChecks", spec := "rowChecks", unfollowed := true, recurses := true, apart := false, narrowed := true }
def RowChecksUptoSaid : Prop := rowChecksUptoRow.holds Try.pinned (OpenSpec.upto rowChecksSpec)

/-- 'gemellaw10.RowLattice', WHERE WHAT IT READS IS OF BULK AT MOST 1048576: true; the input reads as it did. -/
def rowLatticeUptoRow : OpenClaim := { program := "yteebobbhhgmeiaa", sum := "9d1f42f3eaed38d8472dd41395cccd7462bc9faadf802d9f38368b78c57a9b27", func := "gemel/gemellaw10.RowLattice", spec := "rowLattice", unfollowed := true, recurses := true, apart := false, narrowed := true }
def RowLatticeUptoSaid : Prop := rowLatticeUptoRow.holds Try.pinned (OpenSpec.upto rowLatticeSpec)

/-- 'gemellaw10.RowWrites', WHERE WHAT IT READS IS OF BULK AT MOST 1048576: true; the input reads as it did. -/
def rowWritesUptoRow : OpenClaim := { program := "yteebobbhhgmeiaa", sum := "9d1f42f3eaed38d8472dd41395cccd7462bc9faadf802d9f38368b78c57a9b27", func := "gemel/gemellaw10.RowWrites", spec := "rowWrites", unfollowed := true, recurses := true, apart := false, narrowed := true }
def RowWritesUptoSaid : Prop := rowWritesUptoRow.holds Try.pinned (OpenSpec.upto rowWritesSpec)

/-- 'gemellaw10.RowApart', WHERE WHAT IT READS IS OF BULK AT MOST 1048576: true; the input reads as it did. -/
def rowApartUptoRow : OpenClaim := { program := "yteebobbhhgmeiaa", sum := "9d1f42f3eaed38d8472dd41395cccd7462bc9faadf802d9f38368b78c57a9b27", func := "gemel/gemellaw10.RowApart", spec := "rowApart", unfollowed := true, recurses := true, apart := false, narrowed := true }
def RowApartUptoSaid : Prop := rowApartUptoRow.holds Try.pinned (OpenSpec.upto rowApartSpec)

/-- 'gemellaw10.RowBytes', WHERE WHAT IT READS IS OF BULK AT MOST 1048576: true; the input reads as it did. -/
def rowBytesUptoRow : OpenClaim := { program := "yteebobbhhgmeiaa", sum := "9d1f42f3eaed38d8472dd41395cccd7462bc9faadf802d9f38368b78c57a9b27", func := "gemel/gemellaw10.RowBytes", spec := "rowBytes", unfollowed := true, recurses := true, apart := false, narrowed := true }
def RowBytesUptoSaid : Prop := rowBytesUptoRow.holds Try.pinned (OpenSpec.upto rowBytesSpec)

/-- 'gemellaw13.ModelStates', WHERE WHAT IT READS IS OF BULK AT MOST 1048576: true; the input reads as it did. -/
def modelStatesUptoRow : OpenClaim := { program := "yteebobbhhgmeiaa", sum := "9d1f42f3eaed38d8472dd41395cccd7462bc9faadf802d9f38368b78c57a9b27", func := "gemel/gemellaw13.ModelStates", spec := "modelStates", unfollowed := true, recurses := true, apart := false, narrowed := true }
def ModelStatesUptoSaid : Prop := modelStatesUptoRow.holds Try.pinned (OpenSpec.upto modelStatesSpec)

/-- 'gemellaw13.ModelOrder', WHERE WHAT IT READS IS OF BULK AT MOST 1048576: true; the input reads as it did. -/
def modelOrderUptoRow : OpenClaim := { program := "yteebobbhhgmeiaa", sum := "9d1f42f3eaed38d8472dd41395cccd7462bc9faadf802d9f38368b78c57a9b27", func := "gemel/gemellaw13.ModelOrder", spec := "modelOrder", unfollowed := true, recurses := true, apart := false, narrowed := true }
def ModelOrderUptoSaid : Prop := modelOrderUptoRow.holds Try.pinned (OpenSpec.upto modelOrderSpec)

/-- 'gemellaw13.ModelKnows', WHERE WHAT IT READS IS OF BULK AT MOST 1048576: true; the input reads as it did. -/
def modelKnowsUptoRow : OpenClaim := { program := "yteebobbhhgmeiaa", sum := "9d1f42f3eaed38d8472dd41395cccd7462bc9faadf802d9f38368b78c57a9b27", func := "gemel/gemellaw13.ModelKnows", spec := "modelKnows", unfollowed := true, recurses := true, apart := false, narrowed := true }
def ModelKnowsUptoSaid : Prop := modelKnowsUptoRow.holds Try.pinned (OpenSpec.upto modelKnowsSpec)

/-- 'gemellaw13.ModelAsks', WHERE WHAT IT READS IS OF BULK AT MOST 1048576: true; the input reads as it did. -/
def modelAsksUptoRow : OpenClaim := { program := "yteebobbhhgmeiaa", sum := "9d1f42f3eaed38d8472dd41395cccd7462bc9faadf802d9f38368b78c57a9b27", func := "gemel/gemellaw13.ModelAsks", spec := "modelAsks", unfollowed := true, recurses := true, apart := false, narrowed := true }
def ModelAsksUptoSaid : Prop := modelAsksUptoRow.holds Try.pinned (OpenSpec.upto modelAsksSpec)

/-- 'gemellaw13.ModelMerges', WHERE WHAT IT READS IS OF BULK AT MOST 1048576: true; the input reads as it did. -/
def modelMergesUptoRow : OpenClaim := { program := "yteebobbhhgmeiaa", sum := "9d1f42f3eaed38d8472dd41395cccd7462bc9faadf802d9f38368b78c57a9b27", func := "gemel/gemellaw13.ModelMerges", spec := "modelMerges", unfollowed := true, recurses := true, apart := false, narrowed := true }
def ModelMergesUptoSaid : Prop := modelMergesUptoRow.holds Try.pinned (OpenSpec.upto modelMergesSpec)

/-- 'gemellaw13.ModelParts', WHERE WHAT IT READS IS OF BULK AT MOST 1048576: true; the input reads as it did. -/
def modelPartsUptoRow : OpenClaim := { program := "yteebobbhhgmeiaa", sum := "9d1f42f3eaed38d8472dd41395cccd7462bc9faadf802d9f38368b78c57a9b27", func := "gemel/gemellaw13.ModelParts", spec := "modelParts", unfollowed := true, recurses := true, apart := false, narrowed := true }
def ModelPartsUptoSaid : Prop := modelPartsUptoRow.holds Try.pinned (OpenSpec.upto modelPartsSpec)

end Rows
end Go.Proofs.Yteebobbhhgmeiaa

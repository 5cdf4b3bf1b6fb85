/-
  NARROWER THAN 'FOR EVERY INPUT', by the rows' own cells (each row's printed sentence says how): WireEncodes: laid · WireDecodes: laid.
  DERIVED. THE GIVEN ROWS OF THIS SEAT. 2 by the template 'for every input the law returns true; each argument reads behind the call as it read before'; 0 by the template 'total and deterministic' (their statements: YtifkbgkbajncjaaGreatDoorTotals.lean).
  GIVEN WITH THE SEED: the statements are not yours to turn. If you find one false, say at which input.
  Laid BY PROGRAM, IN A SANDBOX (cutbox-rows.mjs): the forced cells as the released guide's own fill.sh prints them over the translation 464560f002da5115… (all of the seat's roots in one cut). By AI agents, Wed Nov 11 2026. No macro, syntax, notation, axiom, sorry.
-/
import Derived.Test.YtifkbgkbajncjaaGreatDoorChecked
import GoSem.Claim
import GoSem.ClaimJoined
import GoSem.ClaimMapViews
import Derived.JoinedTies
import Derived.KernelRfl
namespace Go.Proofs.YtifkbgkbajncjaaGreatDoor
/- THE CELL 'sum', in the pinned program and in every row, IS THE sha256 OF THE DUMP (.gsa) THAT YtifkbgkbajncjaaGreatDoorProg.lean LOADS. Nothing in Lean hashes anything: it is a label: what it is worth is what the hold of that sum in a sandbox is worth. -/
noncomputable def Tryz.pinned : Pinned := { name := "ytifkbgkbajncjaagreatdoor", sum := "464560f002da5115fd71b36c5090927e0a8e8881756283b5e242ccc2595da15c", checked := Tryz.checked }
namespace Rows
def none {H : Type} : Left H := { results := [], args := [] }

/- WHAT THE LISTED PACKAGE-LEVEL VARIABLES READ AS WHEN THE CALL BEGINS. Each datum BY PROGRAM (the guide's laid-datum.mjs) off the statement by which the dump's own 'gosem.cut.vars' lays the variable. In a bare row this is a premise. The card (YtifkbgkbajncjaaGreatDoorCards.lean) ties it to the program's text. -/
def laid_gemel_wire_names {H : Type} : DataW H := .agg [.lit (.string []), .lit (.string [100, 97, 116, 97]), .lit (.string [97, 99, 107]), .lit (.string [97, 115, 107]), .lit (.string [116, 101, 108, 108]), .lit (.string [108, 101, 97, 102])]

/-- 'gemellaw14.WireEncodes': WHATEVER THE INPUT: true; the input reads as it did. -/
def wireEncodesSpec : ChangeSpec := { name := "wireEncodes", fn := fun _ => fun
  | [d1, d2] => { results := [.lit (.bool true)], args := [d1, d2] }
  | _ => none }
def wireEncodesRow : OpenClaim := { program := "ytifkbgkbajncjaagreatdoor", sum := "464560f002da5115fd71b36c5090927e0a8e8881756283b5e242ccc2595da15c", func := "gemel/gemellaw14.WireEncodes", spec := "wireEncodes", unfollowed := true, recurses := true, named := ["gemel/wire.names"], apart := false, laid := [("gemel/wire.names", laid_gemel_wire_names)] }
def WireEncodesSaid : Prop := wireEncodesRow.holds Tryz.pinned (OpenSpec.ofChange wireEncodesSpec)

/-- ITS FALSE NEIGHBOUR: 'it returns false'. Refute it at one input. -/
def wireEncodesWrong : ChangeSpec := { name := "wireEncodes", fn := fun _ => fun
  | [d1, d2] => { results := [.lit (.bool false)], args := [d1, d2] }
  | _ => none }
def WireEncodesWrongFalsely : Prop := wireEncodesRow.holds Tryz.pinned (OpenSpec.ofChange wireEncodesWrong)

/-- 'gemellaw14.WireDecodes': WHATEVER THE INPUT: true; the input reads as it did. -/
def wireDecodesSpec : ChangeSpec := { name := "wireDecodes", fn := fun _ => fun
  | [d1, d2] => { results := [.lit (.bool true)], args := [d1, d2] }
  | _ => none }
def wireDecodesRow : OpenClaim := { program := "ytifkbgkbajncjaagreatdoor", sum := "464560f002da5115fd71b36c5090927e0a8e8881756283b5e242ccc2595da15c", func := "gemel/gemellaw14.WireDecodes", spec := "wireDecodes", unfollowed := true, recurses := true, named := ["gemel/wire.names"], apart := false, laid := [("gemel/wire.names", laid_gemel_wire_names)] }
def WireDecodesSaid : Prop := wireDecodesRow.holds Tryz.pinned (OpenSpec.ofChange wireDecodesSpec)

/-- ITS FALSE NEIGHBOUR: 'it returns false'. Refute it at one input. -/
def wireDecodesWrong : ChangeSpec := { name := "wireDecodes", fn := fun _ => fun
  | [d1, d2] => { results := [.lit (.bool false)], args := [d1, d2] }
  | _ => none }
def WireDecodesWrongFalsely : Prop := wireDecodesRow.holds Tryz.pinned (OpenSpec.ofChange wireDecodesWrong)

/- THE SECOND FORM. 'bulk': how many values and letters a reading holds, each counted each time it is reached (what is shared counts as often as it is met; a slice's spare places count too). A statement '..UptoSaid' is the law's where the arguments, and the package variables that the reading takes, are together of bulk at most 1048576: NARROWER than '..Said'. Prove '..Said' where nothing that the law and all that it calls make is longer than what came in: it says more and counts as full. Else prove '..UptoSaid'. A law counts once. -/
mutual
def uptoBulk {H : Type} : DataW H → Nat
  | .lit (.string bytes) => bytes.length + 1
  | .lit _ => 1
  | .nil => 1
  | .ptr d => uptoBulk d + 1
  | .slice elems spare => uptoBulkAll elems + uptoBulkAll spare + 1
  | .agg parts => uptoBulkAll parts + 1
  | .iface _ d => uptoBulk d + 1
  | .map entries => uptoBulkEntries entries + 1
  | .held _ => 1
def uptoBulkAll {H : Type} : List (DataW H) → Nat
  | [] => 0
  | d :: r => uptoBulk d + uptoBulkAll r
def uptoBulkEntries {H : Type} : List (Lit × DataW H) → Nat
  | [] => 0
  | x :: r => uptoBulkEntry x + uptoBulkEntries r
def uptoBulkEntry {H : Type} : Lit × DataW H → Nat
  | (.string bytes, d) => bytes.length + uptoBulk d + 1
  | (_, d) => uptoBulk d + 1
 end
def uptoSmall : (H : Type) → List (DataW H) → Bool := fun _ ds => decide (uptoBulkAll ds ≤ 1048576)
def OpenSpec.upto (s : _root_.Go.ChangeSpec) : _root_.Go.OpenSpec := { _root_.Go.OpenSpec.ofChange s with cond := some uptoSmall }

/-- 'gemellaw14.WireEncodes', WHERE WHAT IT READS IS OF BULK AT MOST 1048576: true; the input reads as it did. -/
def wireEncodesUptoRow : OpenClaim := { program := "ytifkbgkbajncjaagreatdoor", sum := "464560f002da5115fd71b36c5090927e0a8e8881756283b5e242ccc2595da15c", func := "gemel/gemellaw14.WireEncodes", spec := "wireEncodes", unfollowed := true, recurses := true, named := ["gemel/wire.names"], apart := false, laid := [("gemel/wire.names", laid_gemel_wire_names)], narrowed := true }
def WireEncodesUptoSaid : Prop := wireEncodesUptoRow.holds Tryz.pinned (OpenSpec.upto wireEncodesSpec)

/-- 'gemellaw14.WireDecodes', WHERE WHAT IT READS IS OF BULK AT MOST 1048576: true; the input reads as it did. -/
def wireDecodesUptoRow : OpenClaim := { program := "ytifkbgkbajncjaagreatdoor", sum := "464560f002da5115fd71b36c5090927e0a8e8881756283b5e242ccc2595da15c", func := "gemel/gemellaw14.WireDecodes", spec := "wireDecodes", unfollowed := true, recurses := true, named := ["gemel/wire.names"], apart := false, laid := [("gemel/wire.names", laid_gemel_wire_names)], narrowed := true }
def WireDecodesUptoSaid : Prop := wireDecodesUptoRow.holds Tryz.pinned (OpenSpec.upto wireDecodesSpec)

end Rows
end Go.Proofs.YtifkbgkbajncjaaGreatDoor

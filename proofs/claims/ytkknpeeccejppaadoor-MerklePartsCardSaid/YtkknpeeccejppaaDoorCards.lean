/-
  DERIVED. GIVEN WITH THE SEED: THE CARDS: each row of YtkknpeeccejppaaDoorRows.lean that lists a variable, with what it lists TIED to the program's text (the seventh form; the later family's looks); each row that meets fmt, with fmt's text TOLD by the authors' own Lean function (tested against real Go, not proved from fmt's source: count such statements apart). THE CARD IS WHAT COUNTS. Prove the row's statement (the work); the ties are given (YtkknpeeccejppaaDoorTie.lean); close each card by the builder's one call (the guide's Derived/Test/ToyasCard.lean, 'card_holds'). Laid BY PROGRAM, IN A SANDBOX (cutbox-door.mjs). By AI agents, Wed Nov 11 2026. No macro, syntax, notation, axiom, sorry.
-/
import Derived.Test.YtkknpeeccejppaaDoorRows
import GoSem.ClaimSeven
namespace Go.Proofs.YtkknpeeccejppaaDoor
namespace Rows

/-- THE TIED CARD OF 'gemellaw24.MerklePaths'. -/
def merklePathsCard : Claim7 := { stood := { row := merklePathsRow, standIns := [], harness := (true, "072e1f491989b42311508017d6b2e2f88728a093cb25e5e986a8992b5e14597a"), looks := false }, kinds := [], alts := [], laidByText := true, laidKinds := [.data], laidTests := true, laidLooks := .later }
def MerklePathsCardSaid : Prop := Claim7.holds Tryd.pinned (.plain (OpenSpec.ofChange merklePathsSpec)) merklePathsCard

/-- THE TIED CARD OF 'gemellaw24.MerkleParts'. -/
def merklePartsCard : Claim7 := { stood := { row := merklePartsRow, standIns := [], harness := (true, "072e1f491989b42311508017d6b2e2f88728a093cb25e5e986a8992b5e14597a"), looks := false }, kinds := [], alts := [], laidByText := true, laidKinds := [.data], laidTests := true, laidLooks := .later }
def MerklePartsCardSaid : Prop := Claim7.holds Tryd.pinned (.plain (OpenSpec.ofChange merklePartsSpec)) merklePartsCard

/-- THE SECOND FORM's CARD OF 'gemellaw24.MerklePaths'. -/
def merklePathsUptoCard : Claim7 := { stood := { row := merklePathsUptoRow, standIns := [], harness := (true, "072e1f491989b42311508017d6b2e2f88728a093cb25e5e986a8992b5e14597a"), looks := false }, kinds := [], alts := [], laidByText := true, laidKinds := [.data], laidTests := true, laidLooks := .later }
def MerklePathsUptoCardSaid : Prop := Claim7.holds Tryd.pinned (.plain (OpenSpec.upto merklePathsSpec)) merklePathsUptoCard

/-- THE SECOND FORM's CARD OF 'gemellaw24.MerkleParts'. -/
def merklePartsUptoCard : Claim7 := { stood := { row := merklePartsUptoRow, standIns := [], harness := (true, "072e1f491989b42311508017d6b2e2f88728a093cb25e5e986a8992b5e14597a"), looks := false }, kinds := [], alts := [], laidByText := true, laidKinds := [.data], laidTests := true, laidLooks := .later }
def MerklePartsUptoCardSaid : Prop := Claim7.holds Tryd.pinned (.plain (OpenSpec.upto merklePartsSpec)) merklePartsUptoCard
end Rows
end Go.Proofs.YtkknpeeccejppaaDoor

/-
  DERIVED. GIVEN WITH THE SEED: THE CARDS: each row of YtbhonfgbmkppiaaDoorRows.lean that lists a variable, with what it lists TIED to the program's text (the seventh form; the later family's looks); each row that meets fmt, with fmt's text TOLD by the authors' own Lean function (tested against real Go, not proved from fmt's source: count such statements apart). THE CARD IS WHAT COUNTS. Prove the row's statement (the work); the ties are given (YtbhonfgbmkppiaaDoorTie.lean); close each card by the builder's one call (the guide's Derived/Test/ToyasCard.lean, 'card_holds'). Laid BY PROGRAM, IN A SANDBOX (cutbox-door.mjs). By AI agents, Wed Nov 11 2026. No macro, syntax, notation, axiom, sorry.
-/
import Derived.Test.YtbhonfgbmkppiaaDoorRows
import GoSem.ClaimSeven
namespace Go.Proofs.YtbhonfgbmkppiaaDoor
namespace Rows

/-- THE TIED CARD OF 'gemellaw24.MerklePaths'. -/
def merklePathsCard : Claim7 := { stood := { row := merklePathsRow, standIns := [], harness := (true, "151aec75842b894e24bb842f406e569667afacfae4aeadc36fe74b46fdae8ba7"), looks := false }, kinds := [], alts := [], laidByText := true, laidKinds := [.data], laidTests := true, laidLooks := .later }
def MerklePathsCardSaid : Prop := Claim7.holds Tryd.pinned (.plain (OpenSpec.ofChange merklePathsSpec)) merklePathsCard

/-- THE TIED CARD OF 'gemellaw24.MerkleParts'. -/
def merklePartsCard : Claim7 := { stood := { row := merklePartsRow, standIns := [], harness := (true, "151aec75842b894e24bb842f406e569667afacfae4aeadc36fe74b46fdae8ba7"), looks := false }, kinds := [], alts := [], laidByText := true, laidKinds := [.data], laidTests := true, laidLooks := .later }
def MerklePartsCardSaid : Prop := Claim7.holds Tryd.pinned (.plain (OpenSpec.ofChange merklePartsSpec)) merklePartsCard

/-- THE TIED CARD OF 'gemellaw24.MerkleNobody'. -/
def merkleNobodyCard : Claim7 := { stood := { row := merkleNobodyRow, standIns := [], harness := (true, "151aec75842b894e24bb842f406e569667afacfae4aeadc36fe74b46fdae8ba7"), looks := false }, kinds := [], alts := [], laidByText := true, laidKinds := [.data], laidTests := true, laidLooks := .later }
def MerkleNobodyCardSaid : Prop := Claim7.holds Tryd.pinned (.plain (OpenSpec.ofChange merkleNobodySpec)) merkleNobodyCard

/-- THE TIED CARD OF 'gemellaw14.WireBack'. -/
def wireBackCard : Claim7 := { stood := { row := wireBackRow, standIns := [], harness := (true, "151aec75842b894e24bb842f406e569667afacfae4aeadc36fe74b46fdae8ba7"), looks := false }, kinds := [], alts := [], laidByText := true, laidKinds := [.data], laidTests := true, laidLooks := .later }
def WireBackCardSaid : Prop := Claim7.holds Tryd.pinned (.plain (OpenSpec.ofChange wireBackSpec)) wireBackCard

/-- THE TIED CARD OF 'gemellaw14.WireTurned'. -/
def wireTurnedCard : Claim7 := { stood := { row := wireTurnedRow, standIns := [], harness := (true, "151aec75842b894e24bb842f406e569667afacfae4aeadc36fe74b46fdae8ba7"), looks := false }, kinds := [], alts := [], laidByText := true, laidKinds := [.data], laidTests := true, laidLooks := .later }
def WireTurnedCardSaid : Prop := Claim7.holds Tryd.pinned (.plain (OpenSpec.ofChange wireTurnedSpec)) wireTurnedCard

/-- THE TIED CARD OF 'gemellaw25.ResyncSame'. -/
def resyncSameCard : Claim7 := { stood := { row := resyncSameRow, standIns := [], harness := (true, "151aec75842b894e24bb842f406e569667afacfae4aeadc36fe74b46fdae8ba7"), looks := false }, kinds := [], alts := [], laidByText := true, laidKinds := [.data], laidTests := true, laidLooks := .later }
def ResyncSameCardSaid : Prop := Claim7.holds Tryd.pinned (.plain (OpenSpec.ofChange resyncSameSpec)) resyncSameCard

/-- THE SECOND FORM's CARD OF 'gemellaw24.MerklePaths'. -/
def merklePathsUptoCard : Claim7 := { stood := { row := merklePathsUptoRow, standIns := [], harness := (true, "151aec75842b894e24bb842f406e569667afacfae4aeadc36fe74b46fdae8ba7"), looks := false }, kinds := [], alts := [], laidByText := true, laidKinds := [.data], laidTests := true, laidLooks := .later }
def MerklePathsUptoCardSaid : Prop := Claim7.holds Tryd.pinned (.plain (OpenSpec.upto merklePathsSpec)) merklePathsUptoCard

/-- THE SECOND FORM's CARD OF 'gemellaw24.MerkleParts'. -/
def merklePartsUptoCard : Claim7 := { stood := { row := merklePartsUptoRow, standIns := [], harness := (true, "151aec75842b894e24bb842f406e569667afacfae4aeadc36fe74b46fdae8ba7"), looks := false }, kinds := [], alts := [], laidByText := true, laidKinds := [.data], laidTests := true, laidLooks := .later }
def MerklePartsUptoCardSaid : Prop := Claim7.holds Tryd.pinned (.plain (OpenSpec.upto merklePartsSpec)) merklePartsUptoCard

/-- THE SECOND FORM's CARD OF 'gemellaw24.MerkleNobody'. -/
def merkleNobodyUptoCard : Claim7 := { stood := { row := merkleNobodyUptoRow, standIns := [], harness := (true, "151aec75842b894e24bb842f406e569667afacfae4aeadc36fe74b46fdae8ba7"), looks := false }, kinds := [], alts := [], laidByText := true, laidKinds := [.data], laidTests := true, laidLooks := .later }
def MerkleNobodyUptoCardSaid : Prop := Claim7.holds Tryd.pinned (.plain (OpenSpec.upto merkleNobodySpec)) merkleNobodyUptoCard

/-- THE SECOND FORM's CARD OF 'gemellaw14.WireBack'. -/
def wireBackUptoCard : Claim7 := { stood := { row := wireBackUptoRow, standIns := [], harness := (true, "151aec75842b894e24bb842f406e569667afacfae4aeadc36fe74b46fdae8ba7"), looks := false }, kinds := [], alts := [], laidByText := true, laidKinds := [.data], laidTests := true, laidLooks := .later }
def WireBackUptoCardSaid : Prop := Claim7.holds Tryd.pinned (.plain (OpenSpec.upto wireBackSpec)) wireBackUptoCard

/-- THE SECOND FORM's CARD OF 'gemellaw14.WireTurned'. -/
def wireTurnedUptoCard : Claim7 := { stood := { row := wireTurnedUptoRow, standIns := [], harness := (true, "151aec75842b894e24bb842f406e569667afacfae4aeadc36fe74b46fdae8ba7"), looks := false }, kinds := [], alts := [], laidByText := true, laidKinds := [.data], laidTests := true, laidLooks := .later }
def WireTurnedUptoCardSaid : Prop := Claim7.holds Tryd.pinned (.plain (OpenSpec.upto wireTurnedSpec)) wireTurnedUptoCard

/-- THE SECOND FORM's CARD OF 'gemellaw25.ResyncSame'. -/
def resyncSameUptoCard : Claim7 := { stood := { row := resyncSameUptoRow, standIns := [], harness := (true, "151aec75842b894e24bb842f406e569667afacfae4aeadc36fe74b46fdae8ba7"), looks := false }, kinds := [], alts := [], laidByText := true, laidKinds := [.data], laidTests := true, laidLooks := .later }
def ResyncSameUptoCardSaid : Prop := Claim7.holds Tryd.pinned (.plain (OpenSpec.upto resyncSameSpec)) resyncSameUptoCard
end Rows
end Go.Proofs.YtbhonfgbmkppiaaDoor

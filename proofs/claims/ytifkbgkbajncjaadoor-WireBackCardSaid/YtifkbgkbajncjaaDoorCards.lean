/-
  DERIVED. GIVEN WITH THE SEED: THE CARDS: each row of YtifkbgkbajncjaaDoorRows.lean that lists a variable, with what it lists TIED to the program's text (the seventh form; the later family's looks); each row that meets fmt, with fmt's text TOLD by the authors' own Lean function (tested against real Go, not proved from fmt's source: count such statements apart). THE CARD IS WHAT COUNTS. Prove the row's statement (the work); the ties are given (YtifkbgkbajncjaaDoorTie.lean); close each card by the builder's one call (the guide's Derived/Test/ToyasCard.lean, 'card_holds'). Laid BY PROGRAM, IN A SANDBOX (cutbox-door.mjs). By AI agents, Wed Nov 11 2026. No macro, syntax, notation, axiom, sorry.
-/
import Derived.Test.YtifkbgkbajncjaaDoorRows
import GoSem.ClaimSeven
namespace Go.Proofs.YtifkbgkbajncjaaDoor
namespace Rows

/-- THE TIED CARD OF 'gemellaw14.WireBack'. -/
def wireBackCard : Claim7 := { stood := { row := wireBackRow, standIns := [], harness := (true, "b7e3c53d803a3030933549e91460946446ac0896065c4cb6b58d0d73ac0e6dc3"), looks := false }, kinds := [], alts := [], laidByText := true, laidKinds := [.data], laidTests := true, laidLooks := .later }
def WireBackCardSaid : Prop := Claim7.holds Tryd.pinned (.plain (OpenSpec.ofChange wireBackSpec)) wireBackCard

/-- THE TIED CARD OF 'gemellaw14.WireTurned'. -/
def wireTurnedCard : Claim7 := { stood := { row := wireTurnedRow, standIns := [], harness := (true, "b7e3c53d803a3030933549e91460946446ac0896065c4cb6b58d0d73ac0e6dc3"), looks := false }, kinds := [], alts := [], laidByText := true, laidKinds := [.data], laidTests := true, laidLooks := .later }
def WireTurnedCardSaid : Prop := Claim7.holds Tryd.pinned (.plain (OpenSpec.ofChange wireTurnedSpec)) wireTurnedCard

/-- THE SECOND FORM's CARD OF 'gemellaw14.WireBack'. -/
def wireBackUptoCard : Claim7 := { stood := { row := wireBackUptoRow, standIns := [], harness := (true, "b7e3c53d803a3030933549e91460946446ac0896065c4cb6b58d0d73ac0e6dc3"), looks := false }, kinds := [], alts := [], laidByText := true, laidKinds := [.data], laidTests := true, laidLooks := .later }
def WireBackUptoCardSaid : Prop := Claim7.holds Tryd.pinned (.plain (OpenSpec.upto wireBackSpec)) wireBackUptoCard

/-- THE SECOND FORM's CARD OF 'gemellaw14.WireTurned'. -/
def wireTurnedUptoCard : Claim7 := { stood := { row := wireTurnedUptoRow, standIns := [], harness := (true, "b7e3c53d803a3030933549e91460946446ac0896065c4cb6b58d0d73ac0e6dc3"), looks := false }, kinds := [], alts := [], laidByText := true, laidKinds := [.data], laidTests := true, laidLooks := .later }
def WireTurnedUptoCardSaid : Prop := Claim7.holds Tryd.pinned (.plain (OpenSpec.upto wireTurnedSpec)) wireTurnedUptoCard
end Rows
end Go.Proofs.YtifkbgkbajncjaaDoor

/-
  DERIVED. GIVEN WITH THE SEED: THE CARDS: each row of YtfdgflpkdidooaaDoorRows.lean that lists a variable, with what it lists TIED to the program's text (the seventh form; the later family's looks); each row that meets fmt, with fmt's text TOLD by the authors' own Lean function (tested against real Go, not proved from fmt's source: count such statements apart). THE CARD IS WHAT COUNTS. Prove the row's statement (the work); the ties are given (YtfdgflpkdidooaaDoorTie.lean); close each card by the builder's one call (the guide's Derived/Test/ToyasCard.lean, 'card_holds'). Laid BY PROGRAM, IN A SANDBOX (cutbox-door.mjs). By AI agents, Wed Nov 11 2026. No macro, syntax, notation, axiom, sorry.
-/
import Derived.Test.YtfdgflpkdidooaaDoorRows
import GoSem.ClaimSeven
namespace Go.Proofs.YtfdgflpkdidooaaDoor
namespace Rows

/-- THE TIED CARD OF 'gunwalelaw05.FaultPairs'. -/
def faultPairsCard : Claim7 := { stood := { row := faultPairsRow, standIns := [], harness := (true, "6df50c63664ecf5c9aa1533e3692e4f4c6ebda7a50a222b007eac091c131affd"), looks := true }, kinds := [], alts := [], laidByText := true, laidKinds := [.data, .data, .data, .sentinel, .sentinel], laidTests := true, laidLooks := .later }
def FaultPairsCardSaid : Prop := Claim7.holds Tryd.pinned (.plain (OpenSpec.ofChange faultPairsSpec)) faultPairsCard

/-- THE TIED CARD OF 'gunwalelaw05.FaultNames'. -/
def faultNamesCard : Claim7 := { stood := { row := faultNamesRow, standIns := [], harness := (true, "6df50c63664ecf5c9aa1533e3692e4f4c6ebda7a50a222b007eac091c131affd"), looks := true }, kinds := [], alts := [], laidByText := true, laidKinds := [.data, .data, .data, .sentinel, .sentinel], laidTests := true, laidLooks := .later }
def FaultNamesCardSaid : Prop := Claim7.holds Tryd.pinned (.plain (OpenSpec.ofChange faultNamesSpec)) faultNamesCard

/-- THE TIED CARD OF 'gunwalelaw05.FaultBack'. -/
def faultBackCard : Claim7 := { stood := { row := faultBackRow, standIns := [], harness := (true, "6df50c63664ecf5c9aa1533e3692e4f4c6ebda7a50a222b007eac091c131affd"), looks := true }, kinds := [], alts := [], laidByText := true, laidKinds := [.data, .data, .data, .sentinel, .sentinel], laidTests := true, laidLooks := .later }
def FaultBackCardSaid : Prop := Claim7.holds Tryd.pinned (.plain (OpenSpec.ofChange faultBackSpec)) faultBackCard

/-- THE SECOND FORM's CARD OF 'gunwalelaw05.FaultPairs'. -/
def faultPairsUptoCard : Claim7 := { stood := { row := faultPairsUptoRow, standIns := [], harness := (true, "6df50c63664ecf5c9aa1533e3692e4f4c6ebda7a50a222b007eac091c131affd"), looks := true }, kinds := [], alts := [], laidByText := true, laidKinds := [.data, .data, .data, .sentinel, .sentinel], laidTests := true, laidLooks := .later }
def FaultPairsUptoCardSaid : Prop := Claim7.holds Tryd.pinned (.plain (OpenSpec.upto faultPairsSpec)) faultPairsUptoCard

/-- THE SECOND FORM's CARD OF 'gunwalelaw05.FaultNames'. -/
def faultNamesUptoCard : Claim7 := { stood := { row := faultNamesUptoRow, standIns := [], harness := (true, "6df50c63664ecf5c9aa1533e3692e4f4c6ebda7a50a222b007eac091c131affd"), looks := true }, kinds := [], alts := [], laidByText := true, laidKinds := [.data, .data, .data, .sentinel, .sentinel], laidTests := true, laidLooks := .later }
def FaultNamesUptoCardSaid : Prop := Claim7.holds Tryd.pinned (.plain (OpenSpec.upto faultNamesSpec)) faultNamesUptoCard

/-- THE SECOND FORM's CARD OF 'gunwalelaw05.FaultBack'. -/
def faultBackUptoCard : Claim7 := { stood := { row := faultBackUptoRow, standIns := [], harness := (true, "6df50c63664ecf5c9aa1533e3692e4f4c6ebda7a50a222b007eac091c131affd"), looks := true }, kinds := [], alts := [], laidByText := true, laidKinds := [.data, .data, .data, .sentinel, .sentinel], laidTests := true, laidLooks := .later }
def FaultBackUptoCardSaid : Prop := Claim7.holds Tryd.pinned (.plain (OpenSpec.upto faultBackSpec)) faultBackUptoCard
end Rows
end Go.Proofs.YtfdgflpkdidooaaDoor

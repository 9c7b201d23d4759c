/-
  DERIVED. GIVEN WITH THE SEED: THE CARDS: each row of YtkkigemmoecldaaGreatDoorRows.lean that lists a variable, with what it lists TIED to the program's text (the seventh form; the later family's looks); each row that meets fmt, with fmt's text TOLD by the authors' own Lean function (tested against real Go, not proved from fmt's source: count such statements apart). THE CARD IS WHAT COUNTS. Prove the row's statement (the work); the ties are given (YtkkigemmoecldaaGreatDoorTie.lean); close each card by the builder's one call (the guide's Derived/Test/ToyasCard.lean, 'card_holds'). Laid BY PROGRAM, IN A SANDBOX (cutbox-door.mjs). By AI agents, Wed Nov 11 2026. No macro, syntax, notation, axiom, sorry.
-/
import Derived.Test.YtkkigemmoecldaaGreatDoorRows
import GoSem.ClaimSeven
namespace Go.Proofs.YtkkigemmoecldaaGreatDoor
namespace Rows

/-- THE TIED CARD OF 'patinatop.TopBack'. -/
def topBackCard : Claim7 := { stood := { row := topBackRow, standIns := [], harness := (true, "a46a7351bfef0cb816c1f85aa1c9ea916f4be6cf6a9d00ae81b094e67771b6af"), looks := true }, kinds := [], alts := [], laidByText := true, laidKinds := [.data, .data, .data, .data, .handle, .sentinel, .sentinel, .pinned], laidTests := true, laidLooks := .later }
def TopBackCardSaid : Prop := Claim7.holds Tryz.pinned (.plain (OpenSpec.ofChange topBackSpec)) topBackCard

/-- THE TIED CARD OF 'patinatop.TopRead'. -/
def topReadCard : Claim7 := { stood := { row := topReadRow, standIns := [], harness := (true, "a46a7351bfef0cb816c1f85aa1c9ea916f4be6cf6a9d00ae81b094e67771b6af"), looks := true }, kinds := [], alts := [], laidByText := true, laidKinds := [.data, .data, .data, .data, .handle, .sentinel, .sentinel, .pinned], laidTests := true, laidLooks := .later }
def TopReadCardSaid : Prop := Claim7.holds Tryz.pinned (.plain (OpenSpec.ofChange topReadSpec)) topReadCard

/-- THE SECOND FORM's CARD OF 'patinatop.TopBack'. -/
def topBackUptoCard : Claim7 := { stood := { row := topBackUptoRow, standIns := [], harness := (true, "a46a7351bfef0cb816c1f85aa1c9ea916f4be6cf6a9d00ae81b094e67771b6af"), looks := true }, kinds := [], alts := [], laidByText := true, laidKinds := [.data, .data, .data, .data, .handle, .sentinel, .sentinel, .pinned], laidTests := true, laidLooks := .later }
def TopBackUptoCardSaid : Prop := Claim7.holds Tryz.pinned (.plain (OpenSpec.upto topBackSpec)) topBackUptoCard

/-- THE SECOND FORM's CARD OF 'patinatop.TopRead'. -/
def topReadUptoCard : Claim7 := { stood := { row := topReadUptoRow, standIns := [], harness := (true, "a46a7351bfef0cb816c1f85aa1c9ea916f4be6cf6a9d00ae81b094e67771b6af"), looks := true }, kinds := [], alts := [], laidByText := true, laidKinds := [.data, .data, .data, .data, .handle, .sentinel, .sentinel, .pinned], laidTests := true, laidLooks := .later }
def TopReadUptoCardSaid : Prop := Claim7.holds Tryz.pinned (.plain (OpenSpec.upto topReadSpec)) topReadUptoCard
end Rows
end Go.Proofs.YtkkigemmoecldaaGreatDoor

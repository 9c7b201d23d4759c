/-
  DERIVED. GIVEN WITH THE SEED: THE CARDS: each row of YtbaoljbcdjdnlaaGreatDoorRows.lean that lists a variable, with what it lists TIED to the program's text (the seventh form; the later family's looks); each row that meets fmt, with fmt's text TOLD by the authors' own Lean function (tested against real Go, not proved from fmt's source: count such statements apart). THE CARD IS WHAT COUNTS. Prove the row's statement (the work); the ties are given (YtbaoljbcdjdnlaaGreatDoorTie.lean); close each card by the builder's one call (the guide's Derived/Test/ToyasCard.lean, 'card_holds'). Laid BY PROGRAM, IN A SANDBOX (cutbox-door.mjs). By AI agents, Wed Nov 11 2026. No macro, syntax, notation, axiom, sorry.
-/
import Derived.Test.YtbaoljbcdjdnlaaGreatDoorRows
import GoSem.ClaimSeven
namespace Go.Proofs.YtbaoljbcdjdnlaaGreatDoor
namespace Rows

/-- THE TIED CARD OF 'patinalaw13.TreeChecks'. -/
def treeChecksCard : Claim7 := { stood := { row := treeChecksRow, standIns := [], harness := (true, "6abfdbef9a9a88e9cec3ca168bff37ecc15d1df6ffc8f125e6fd2131b1404715"), looks := false }, kinds := [], alts := [], laidByText := true, laidKinds := [.data, .data, .data], laidTests := true, laidLooks := .later }
def TreeChecksCardSaid : Prop := Claim7.holds Tryz.pinned (.plain (OpenSpec.ofChange treeChecksSpec)) treeChecksCard

/-- THE TIED CARD OF 'patinalaw13.TreeUps'. -/
def treeUpsCard : Claim7 := { stood := { row := treeUpsRow, standIns := [], harness := (true, "6abfdbef9a9a88e9cec3ca168bff37ecc15d1df6ffc8f125e6fd2131b1404715"), looks := false }, kinds := [], alts := [], laidByText := true, laidKinds := [.data, .data, .data], laidTests := true, laidLooks := .later }
def TreeUpsCardSaid : Prop := Claim7.holds Tryz.pinned (.plain (OpenSpec.ofChange treeUpsSpec)) treeUpsCard

/-- THE TIED CARD OF 'patinalaw13.TreeParts'. -/
def treePartsCard : Claim7 := { stood := { row := treePartsRow, standIns := [], harness := (true, "6abfdbef9a9a88e9cec3ca168bff37ecc15d1df6ffc8f125e6fd2131b1404715"), looks := false }, kinds := [], alts := [], laidByText := true, laidKinds := [.data, .data, .data], laidTests := true, laidLooks := .later }
def TreePartsCardSaid : Prop := Claim7.holds Tryz.pinned (.plain (OpenSpec.ofChange treePartsSpec)) treePartsCard

/-- THE SECOND FORM's CARD OF 'patinalaw13.TreeChecks'. -/
def treeChecksUptoCard : Claim7 := { stood := { row := treeChecksUptoRow, standIns := [], harness := (true, "6abfdbef9a9a88e9cec3ca168bff37ecc15d1df6ffc8f125e6fd2131b1404715"), looks := false }, kinds := [], alts := [], laidByText := true, laidKinds := [.data, .data, .data], laidTests := true, laidLooks := .later }
def TreeChecksUptoCardSaid : Prop := Claim7.holds Tryz.pinned (.plain (OpenSpec.upto treeChecksSpec)) treeChecksUptoCard

/-- THE SECOND FORM's CARD OF 'patinalaw13.TreeUps'. -/
def treeUpsUptoCard : Claim7 := { stood := { row := treeUpsUptoRow, standIns := [], harness := (true, "6abfdbef9a9a88e9cec3ca168bff37ecc15d1df6ffc8f125e6fd2131b1404715"), looks := false }, kinds := [], alts := [], laidByText := true, laidKinds := [.data, .data, .data], laidTests := true, laidLooks := .later }
def TreeUpsUptoCardSaid : Prop := Claim7.holds Tryz.pinned (.plain (OpenSpec.upto treeUpsSpec)) treeUpsUptoCard

/-- THE SECOND FORM's CARD OF 'patinalaw13.TreeParts'. -/
def treePartsUptoCard : Claim7 := { stood := { row := treePartsUptoRow, standIns := [], harness := (true, "6abfdbef9a9a88e9cec3ca168bff37ecc15d1df6ffc8f125e6fd2131b1404715"), looks := false }, kinds := [], alts := [], laidByText := true, laidKinds := [.data, .data, .data], laidTests := true, laidLooks := .later }
def TreePartsUptoCardSaid : Prop := Claim7.holds Tryz.pinned (.plain (OpenSpec.upto treePartsSpec)) treePartsUptoCard
end Rows
end Go.Proofs.YtbaoljbcdjdnlaaGreatDoor

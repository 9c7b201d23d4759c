/-
  DERIVED. GIVEN WITH THE SEED: THE CARDS: each row of YtlcaoocfajkljaaDoorRows.lean that lists a variable, with what it lists TIED to the program's text (the seventh form; the later family's looks); each row that meets fmt, with fmt's text TOLD by the authors' own Lean function (tested against real Go, not proved from fmt's source: count such statements apart). THE CARD IS WHAT COUNTS. Prove the row's statement (the work); the ties are given (YtlcaoocfajkljaaDoorTie.lean); close each card by the builder's one call (the guide's Derived/Test/ToyasCard.lean, 'card_holds'). Laid BY PROGRAM, IN A SANDBOX (cutbox-door.mjs). By AI agents, Wed Nov 11 2026. No macro, syntax, notation, axiom, sorry.
-/
import Derived.Test.YtlcaoocfajkljaaDoorRows
import GoSem.ClaimSeven
namespace Go.Proofs.YtlcaoocfajkljaaDoor
namespace Rows

/-- THE TIED CARD OF 'patinalaw01.RvEncodes'. -/
def rvEncodesCard : Claim7 := { stood := { row := rvEncodesRow, standIns := [], harness := (true, "b2d8bf5e0507976353940f224b92914683724287b048d87e9a55316498092199"), looks := false }, kinds := [], alts := [], laidByText := true, laidKinds := [.data], laidTests := true, laidLooks := .later }
def RvEncodesCardSaid : Prop := Claim7.holds Tryd.pinned (.plain (OpenSpec.ofChange rvEncodesSpec)) rvEncodesCard

/-- THE TIED CARD OF 'patinalaw01.RvDecodes'. -/
def rvDecodesCard : Claim7 := { stood := { row := rvDecodesRow, standIns := [], harness := (true, "b2d8bf5e0507976353940f224b92914683724287b048d87e9a55316498092199"), looks := false }, kinds := [], alts := [], laidByText := true, laidKinds := [.data], laidTests := true, laidLooks := .later }
def RvDecodesCardSaid : Prop := Claim7.holds Tryd.pinned (.plain (OpenSpec.ofChange rvDecodesSpec)) rvDecodesCard

/-- THE TIED CARD OF 'patinalaw01.RvBack'. -/
def rvBackCard : Claim7 := { stood := { row := rvBackRow, standIns := [], harness := (true, "b2d8bf5e0507976353940f224b92914683724287b048d87e9a55316498092199"), looks := false }, kinds := [], alts := [], laidByText := true, laidKinds := [.data], laidTests := true, laidLooks := .later }
def RvBackCardSaid : Prop := Claim7.holds Tryd.pinned (.plain (OpenSpec.ofChange rvBackSpec)) rvBackCard

/-- THE TIED CARD OF 'patinalaw01.RvApart'. -/
def rvApartCard : Claim7 := { stood := { row := rvApartRow, standIns := [], harness := (true, "b2d8bf5e0507976353940f224b92914683724287b048d87e9a55316498092199"), looks := false }, kinds := [], alts := [], laidByText := true, laidKinds := [.data, .data, .data, .listed, .data, .data], laidTests := true, laidLooks := .later }
def RvApartCardSaid : Prop := Claim7.holds Tryd.pinned (.plain (OpenSpec.ofChange rvApartSpec)) rvApartCard

/-- THE TIED CARD OF 'patinalaw01.RvTexts'. -/
def rvTextsCard : Claim7 := { stood := { row := rvTextsRow, standIns := [], harness := (true, "b2d8bf5e0507976353940f224b92914683724287b048d87e9a55316498092199"), looks := false }, kinds := [], alts := [], laidByText := true, laidKinds := [.data, .data, .data, .listed, .data, .data], laidTests := true, laidLooks := .later }
def RvTextsCardSaid : Prop := Claim7.holds Tryd.pinned (.plain (OpenSpec.ofChange rvTextsSpec)) rvTextsCard

/-- THE SECOND FORM's CARD OF 'patinalaw01.RvEncodes'. -/
def rvEncodesUptoCard : Claim7 := { stood := { row := rvEncodesUptoRow, standIns := [], harness := (true, "b2d8bf5e0507976353940f224b92914683724287b048d87e9a55316498092199"), looks := false }, kinds := [], alts := [], laidByText := true, laidKinds := [.data], laidTests := true, laidLooks := .later }
def RvEncodesUptoCardSaid : Prop := Claim7.holds Tryd.pinned (.plain (OpenSpec.upto rvEncodesSpec)) rvEncodesUptoCard

/-- THE SECOND FORM's CARD OF 'patinalaw01.RvDecodes'. -/
def rvDecodesUptoCard : Claim7 := { stood := { row := rvDecodesUptoRow, standIns := [], harness := (true, "b2d8bf5e0507976353940f224b92914683724287b048d87e9a55316498092199"), looks := false }, kinds := [], alts := [], laidByText := true, laidKinds := [.data], laidTests := true, laidLooks := .later }
def RvDecodesUptoCardSaid : Prop := Claim7.holds Tryd.pinned (.plain (OpenSpec.upto rvDecodesSpec)) rvDecodesUptoCard

/-- THE SECOND FORM's CARD OF 'patinalaw01.RvBack'. -/
def rvBackUptoCard : Claim7 := { stood := { row := rvBackUptoRow, standIns := [], harness := (true, "b2d8bf5e0507976353940f224b92914683724287b048d87e9a55316498092199"), looks := false }, kinds := [], alts := [], laidByText := true, laidKinds := [.data], laidTests := true, laidLooks := .later }
def RvBackUptoCardSaid : Prop := Claim7.holds Tryd.pinned (.plain (OpenSpec.upto rvBackSpec)) rvBackUptoCard

/-- THE SECOND FORM's CARD OF 'patinalaw01.RvApart'. -/
def rvApartUptoCard : Claim7 := { stood := { row := rvApartUptoRow, standIns := [], harness := (true, "b2d8bf5e0507976353940f224b92914683724287b048d87e9a55316498092199"), looks := false }, kinds := [], alts := [], laidByText := true, laidKinds := [.data, .data, .data, .listed, .data, .data], laidTests := true, laidLooks := .later }
def RvApartUptoCardSaid : Prop := Claim7.holds Tryd.pinned (.plain (OpenSpec.upto rvApartSpec)) rvApartUptoCard

/-- THE SECOND FORM's CARD OF 'patinalaw01.RvTexts'. -/
def rvTextsUptoCard : Claim7 := { stood := { row := rvTextsUptoRow, standIns := [], harness := (true, "b2d8bf5e0507976353940f224b92914683724287b048d87e9a55316498092199"), looks := false }, kinds := [], alts := [], laidByText := true, laidKinds := [.data, .data, .data, .listed, .data, .data], laidTests := true, laidLooks := .later }
def RvTextsUptoCardSaid : Prop := Claim7.holds Tryd.pinned (.plain (OpenSpec.upto rvTextsSpec)) rvTextsUptoCard
end Rows
end Go.Proofs.YtlcaoocfajkljaaDoor

/-
  DERIVED. GIVEN WITH THE SEED: THE CARDS: each row of YtkenfmphlggmcaaDoorRows.lean that lists a variable, with what it lists TIED to the program's text (the seventh form; the later family's looks); each row that meets fmt, with fmt's text TOLD by the authors' own Lean function (tested against real Go, not proved from fmt's source: count such statements apart). THE CARD IS WHAT COUNTS. Prove the row's statement (the work); the ties are given (YtkenfmphlggmcaaDoorTie.lean); close each card by the builder's one call (the guide's Derived/Test/ToyasCard.lean, 'card_holds'). Laid BY PROGRAM, IN A SANDBOX (cutbox-door.mjs). By AI agents, Wed Nov 11 2026. No macro, syntax, notation, axiom, sorry.
-/
import Derived.Test.YtkenfmphlggmcaaDoorRows
import GoSem.ClaimSeven
namespace Go.Proofs.YtkenfmphlggmcaaDoor
namespace Rows

/-- THE TIED CARD OF 'armillarylaw09.JoinMakes'. -/
def joinMakesCard : Claim7 := { stood := { row := joinMakesRow, standIns := [], harness := (true, "d0a0bed348d1b0fa768a83fc0ea06e97fb297fbda6aa0f897a51b0f03ae3b33d"), looks := false }, kinds := [], alts := [], laidByText := true, laidKinds := [.data], laidTests := true, laidLooks := .later }
def JoinMakesCardSaid : Prop := Claim7.holds Tryd.pinned (.plain (OpenSpec.ofChange joinMakesSpec)) joinMakesCard

/-- THE TIED CARD OF 'armillarylaw09.JoinShaped'. -/
def joinShapedCard : Claim7 := { stood := { row := joinShapedRow, standIns := [], harness := (true, "d0a0bed348d1b0fa768a83fc0ea06e97fb297fbda6aa0f897a51b0f03ae3b33d"), looks := false }, kinds := [], alts := [], laidByText := true, laidKinds := [.data], laidTests := true, laidLooks := .later }
def JoinShapedCardSaid : Prop := Claim7.holds Tryd.pinned (.plain (OpenSpec.ofChange joinShapedSpec)) joinShapedCard

/-- THE TIED CARD OF 'armillarylaw09.JoinByKey'. -/
def joinByKeyCard : Claim7 := { stood := { row := joinByKeyRow, standIns := [], harness := (true, "d0a0bed348d1b0fa768a83fc0ea06e97fb297fbda6aa0f897a51b0f03ae3b33d"), looks := false }, kinds := [], alts := [], laidByText := true, laidKinds := [.data], laidTests := true, laidLooks := .later }
def JoinByKeyCardSaid : Prop := Claim7.holds Tryd.pinned (.plain (OpenSpec.ofChange joinByKeySpec)) joinByKeyCard

/-- THE TIED CARD OF 'armillarylaw09.JoinFields'. -/
def joinFieldsCard : Claim7 := { stood := { row := joinFieldsRow, standIns := [], harness := (true, "d0a0bed348d1b0fa768a83fc0ea06e97fb297fbda6aa0f897a51b0f03ae3b33d"), looks := false }, kinds := [], alts := [], laidByText := true, laidKinds := [.data], laidTests := true, laidLooks := .later }
def JoinFieldsCardSaid : Prop := Claim7.holds Tryd.pinned (.plain (OpenSpec.ofChange joinFieldsSpec)) joinFieldsCard

/-- THE TIED CARD OF 'armillarylaw09.JoinLeast'. -/
def joinLeastCard : Claim7 := { stood := { row := joinLeastRow, standIns := [], harness := (true, "d0a0bed348d1b0fa768a83fc0ea06e97fb297fbda6aa0f897a51b0f03ae3b33d"), looks := false }, kinds := [], alts := [], laidByText := true, laidKinds := [.data], laidTests := true, laidLooks := .later }
def JoinLeastCardSaid : Prop := Claim7.holds Tryd.pinned (.plain (OpenSpec.ofChange joinLeastSpec)) joinLeastCard

/-- THE SECOND FORM's CARD OF 'armillarylaw09.JoinMakes'. -/
def joinMakesUptoCard : Claim7 := { stood := { row := joinMakesUptoRow, standIns := [], harness := (true, "d0a0bed348d1b0fa768a83fc0ea06e97fb297fbda6aa0f897a51b0f03ae3b33d"), looks := false }, kinds := [], alts := [], laidByText := true, laidKinds := [.data], laidTests := true, laidLooks := .later }
def JoinMakesUptoCardSaid : Prop := Claim7.holds Tryd.pinned (.plain (OpenSpec.upto joinMakesSpec)) joinMakesUptoCard

/-- THE SECOND FORM's CARD OF 'armillarylaw09.JoinShaped'. -/
def joinShapedUptoCard : Claim7 := { stood := { row := joinShapedUptoRow, standIns := [], harness := (true, "d0a0bed348d1b0fa768a83fc0ea06e97fb297fbda6aa0f897a51b0f03ae3b33d"), looks := false }, kinds := [], alts := [], laidByText := true, laidKinds := [.data], laidTests := true, laidLooks := .later }
def JoinShapedUptoCardSaid : Prop := Claim7.holds Tryd.pinned (.plain (OpenSpec.upto joinShapedSpec)) joinShapedUptoCard

/-- THE SECOND FORM's CARD OF 'armillarylaw09.JoinByKey'. -/
def joinByKeyUptoCard : Claim7 := { stood := { row := joinByKeyUptoRow, standIns := [], harness := (true, "d0a0bed348d1b0fa768a83fc0ea06e97fb297fbda6aa0f897a51b0f03ae3b33d"), looks := false }, kinds := [], alts := [], laidByText := true, laidKinds := [.data], laidTests := true, laidLooks := .later }
def JoinByKeyUptoCardSaid : Prop := Claim7.holds Tryd.pinned (.plain (OpenSpec.upto joinByKeySpec)) joinByKeyUptoCard

/-- THE SECOND FORM's CARD OF 'armillarylaw09.JoinFields'. -/
def joinFieldsUptoCard : Claim7 := { stood := { row := joinFieldsUptoRow, standIns := [], harness := (true, "d0a0bed348d1b0fa768a83fc0ea06e97fb297fbda6aa0f897a51b0f03ae3b33d"), looks := false }, kinds := [], alts := [], laidByText := true, laidKinds := [.data], laidTests := true, laidLooks := .later }
def JoinFieldsUptoCardSaid : Prop := Claim7.holds Tryd.pinned (.plain (OpenSpec.upto joinFieldsSpec)) joinFieldsUptoCard

/-- THE SECOND FORM's CARD OF 'armillarylaw09.JoinLeast'. -/
def joinLeastUptoCard : Claim7 := { stood := { row := joinLeastUptoRow, standIns := [], harness := (true, "d0a0bed348d1b0fa768a83fc0ea06e97fb297fbda6aa0f897a51b0f03ae3b33d"), looks := false }, kinds := [], alts := [], laidByText := true, laidKinds := [.data], laidTests := true, laidLooks := .later }
def JoinLeastUptoCardSaid : Prop := Claim7.holds Tryd.pinned (.plain (OpenSpec.upto joinLeastSpec)) joinLeastUptoCard
end Rows
end Go.Proofs.YtkenfmphlggmcaaDoor

/-
  DERIVED. GIVEN WITH THE SEED: THE CARDS: each row of YtnengolkenbhoaaDoorRows.lean that lists a variable, with what it lists TIED to the program's text (the seventh form; the later family's looks); each row that meets fmt, with fmt's text TOLD by the authors' own Lean function (tested against real Go, not proved from fmt's source: count such statements apart). THE CARD IS WHAT COUNTS. Prove the row's statement (the work); the ties are given (YtnengolkenbhoaaDoorTie.lean); close each card by the builder's one call (the guide's Derived/Test/ToyasCard.lean, 'card_holds'). Laid BY PROGRAM, IN A SANDBOX (cutbox-door.mjs). By AI agents, Wed Nov 11 2026. No macro, syntax, notation, axiom, sorry.
-/
import Derived.Test.YtnengolkenbhoaaDoorRows
import GoSem.ClaimSeven
namespace Go.Proofs.YtnengolkenbhoaaDoor
namespace Rows

/-- THE TIED CARD OF 'exchequerlaw02.CrcSums'. -/
def crcSumsCard : Claim7 := { stood := { row := crcSumsRow, standIns := [], harness := (true, "f83f30ca3f8862b30a74ce890f8dc4cea6ab3f6d4475299c84c4cf029e272892"), looks := false }, kinds := [], alts := [], laidByText := true, laidKinds := [.data], laidTests := true, laidLooks := .later }
def CrcSumsCardSaid : Prop := Claim7.holds Tryd.pinned (.plain (OpenSpec.ofChange crcSumsSpec)) crcSumsCard

/-- THE TIED CARD OF 'exchequerlaw02.CrcChanges'. -/
def crcChangesCard : Claim7 := { stood := { row := crcChangesRow, standIns := [], harness := (true, "f83f30ca3f8862b30a74ce890f8dc4cea6ab3f6d4475299c84c4cf029e272892"), looks := false }, kinds := [], alts := [], laidByText := true, laidKinds := [.data], laidTests := true, laidLooks := .later }
def CrcChangesCardSaid : Prop := Claim7.holds Tryd.pinned (.plain (OpenSpec.ofChange crcChangesSpec)) crcChangesCard

/-- THE TIED CARD OF 'exchequerlaw02.CrcSteps'. -/
def crcStepsCard : Claim7 := { stood := { row := crcStepsRow, standIns := [], harness := (true, "f83f30ca3f8862b30a74ce890f8dc4cea6ab3f6d4475299c84c4cf029e272892"), looks := false }, kinds := [], alts := [], laidByText := true, laidKinds := [.data], laidTests := true, laidLooks := .later }
def CrcStepsCardSaid : Prop := Claim7.holds Tryd.pinned (.plain (OpenSpec.ofChange crcStepsSpec)) crcStepsCard

/-- THE SECOND FORM's CARD OF 'exchequerlaw02.CrcSums'. -/
def crcSumsUptoCard : Claim7 := { stood := { row := crcSumsUptoRow, standIns := [], harness := (true, "f83f30ca3f8862b30a74ce890f8dc4cea6ab3f6d4475299c84c4cf029e272892"), looks := false }, kinds := [], alts := [], laidByText := true, laidKinds := [.data], laidTests := true, laidLooks := .later }
def CrcSumsUptoCardSaid : Prop := Claim7.holds Tryd.pinned (.plain (OpenSpec.upto crcSumsSpec)) crcSumsUptoCard

/-- THE SECOND FORM's CARD OF 'exchequerlaw02.CrcChanges'. -/
def crcChangesUptoCard : Claim7 := { stood := { row := crcChangesUptoRow, standIns := [], harness := (true, "f83f30ca3f8862b30a74ce890f8dc4cea6ab3f6d4475299c84c4cf029e272892"), looks := false }, kinds := [], alts := [], laidByText := true, laidKinds := [.data], laidTests := true, laidLooks := .later }
def CrcChangesUptoCardSaid : Prop := Claim7.holds Tryd.pinned (.plain (OpenSpec.upto crcChangesSpec)) crcChangesUptoCard

/-- THE SECOND FORM's CARD OF 'exchequerlaw02.CrcSteps'. -/
def crcStepsUptoCard : Claim7 := { stood := { row := crcStepsUptoRow, standIns := [], harness := (true, "f83f30ca3f8862b30a74ce890f8dc4cea6ab3f6d4475299c84c4cf029e272892"), looks := false }, kinds := [], alts := [], laidByText := true, laidKinds := [.data], laidTests := true, laidLooks := .later }
def CrcStepsUptoCardSaid : Prop := Claim7.holds Tryd.pinned (.plain (OpenSpec.upto crcStepsSpec)) crcStepsUptoCard
end Rows
end Go.Proofs.YtnengolkenbhoaaDoor

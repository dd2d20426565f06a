/-
  DERIVED. GIVEN WITH THE SEED: THE CARDS: each row of YtmpiggcooboenaaDoorRows.lean that lists a variable, with what it lists TIED to the program's text (the seventh form; the later family's looks); each row that meets fmt, with fmt's text TOLD by the authors' own Lean function (tested against real Go, not proved from fmt's source: count such statements apart). THE CARD IS WHAT COUNTS. Prove the row's statement (the work); the ties are given (YtmpiggcooboenaaDoorTie.lean); close each card by the builder's one call (the guide's Derived/Test/ToyasCard.lean, 'card_holds'). Laid BY PROGRAM, IN A SANDBOX (cutbox-door.mjs). By AI agents, Wed Nov 11 2026. No macro, syntax, notation, axiom, sorry.
-/
import Derived.Test.YtmpiggcooboenaaDoorRows
import GoSem.ClaimSeven
namespace Go.Proofs.YtmpiggcooboenaaDoor
namespace Rows

/-- THE TIED CARD OF 'exchequerlaw11.DirLives'. -/
def dirLivesCard : Claim7 := { stood := { row := dirLivesRow, standIns := [], harness := (true, "c624f1197ee88d9ad11ccb39edb3505ebc8274becba041da099518222914e6f8"), looks := false }, kinds := [], alts := [], laidByText := true, laidKinds := [.data], laidTests := true, laidLooks := .later }
def DirLivesCardSaid : Prop := Claim7.holds Tryd.pinned (.plain (OpenSpec.ofChange dirLivesSpec)) dirLivesCard

/-- THE TIED CARD OF 'exchequerlaw11.DirKeeps'. -/
def dirKeepsCard : Claim7 := { stood := { row := dirKeepsRow, standIns := [], harness := (true, "c624f1197ee88d9ad11ccb39edb3505ebc8274becba041da099518222914e6f8"), looks := false }, kinds := [], alts := [], laidByText := true, laidKinds := [.data], laidTests := true, laidLooks := .later }
def DirKeepsCardSaid : Prop := Claim7.holds Tryd.pinned (.plain (OpenSpec.ofChange dirKeepsSpec)) dirKeepsCard

/-- THE TIED CARD OF 'exchequerlaw06.RedoNobody'. -/
def redoNobodyCard : Claim7 := { stood := { row := redoNobodyRow, standIns := [], harness := (true, "c624f1197ee88d9ad11ccb39edb3505ebc8274becba041da099518222914e6f8"), looks := false }, kinds := [], alts := [], laidByText := true, laidKinds := [.data], laidTests := true, laidLooks := .later }
def RedoNobodyCardSaid : Prop := Claim7.holds Tryd.pinned (.plain (OpenSpec.ofChange redoNobodySpec)) redoNobodyCard

/-- THE TIED CARD OF 'exchequerlaw06.RedoWrites'. -/
def redoWritesCard : Claim7 := { stood := { row := redoWritesRow, standIns := [], harness := (true, "c624f1197ee88d9ad11ccb39edb3505ebc8274becba041da099518222914e6f8"), looks := false }, kinds := [], alts := [], laidByText := true, laidKinds := [.data], laidTests := true, laidLooks := .later }
def RedoWritesCardSaid : Prop := Claim7.holds Tryd.pinned (.plain (OpenSpec.ofChange redoWritesSpec)) redoWritesCard

/-- THE TIED CARD OF 'exchequerlaw06.RedoAtomic'. -/
def redoAtomicCard : Claim7 := { stood := { row := redoAtomicRow, standIns := [], harness := (true, "c624f1197ee88d9ad11ccb39edb3505ebc8274becba041da099518222914e6f8"), looks := false }, kinds := [], alts := [], laidByText := true, laidKinds := [.data], laidTests := true, laidLooks := .later }
def RedoAtomicCardSaid : Prop := Claim7.holds Tryd.pinned (.plain (OpenSpec.ofChange redoAtomicSpec)) redoAtomicCard

/-- THE TIED CARD OF 'exchequerlaw06.RedoLives'. -/
def redoLivesCard : Claim7 := { stood := { row := redoLivesRow, standIns := [], harness := (true, "c624f1197ee88d9ad11ccb39edb3505ebc8274becba041da099518222914e6f8"), looks := false }, kinds := [], alts := [], laidByText := true, laidKinds := [.data], laidTests := true, laidLooks := .later }
def RedoLivesCardSaid : Prop := Claim7.holds Tryd.pinned (.plain (OpenSpec.ofChange redoLivesSpec)) redoLivesCard

/-- THE SECOND FORM's CARD OF 'exchequerlaw11.DirLives'. -/
def dirLivesUptoCard : Claim7 := { stood := { row := dirLivesUptoRow, standIns := [], harness := (true, "c624f1197ee88d9ad11ccb39edb3505ebc8274becba041da099518222914e6f8"), looks := false }, kinds := [], alts := [], laidByText := true, laidKinds := [.data], laidTests := true, laidLooks := .later }
def DirLivesUptoCardSaid : Prop := Claim7.holds Tryd.pinned (.plain (OpenSpec.upto dirLivesSpec)) dirLivesUptoCard

/-- THE SECOND FORM's CARD OF 'exchequerlaw11.DirKeeps'. -/
def dirKeepsUptoCard : Claim7 := { stood := { row := dirKeepsUptoRow, standIns := [], harness := (true, "c624f1197ee88d9ad11ccb39edb3505ebc8274becba041da099518222914e6f8"), looks := false }, kinds := [], alts := [], laidByText := true, laidKinds := [.data], laidTests := true, laidLooks := .later }
def DirKeepsUptoCardSaid : Prop := Claim7.holds Tryd.pinned (.plain (OpenSpec.upto dirKeepsSpec)) dirKeepsUptoCard

/-- THE SECOND FORM's CARD OF 'exchequerlaw06.RedoNobody'. -/
def redoNobodyUptoCard : Claim7 := { stood := { row := redoNobodyUptoRow, standIns := [], harness := (true, "c624f1197ee88d9ad11ccb39edb3505ebc8274becba041da099518222914e6f8"), looks := false }, kinds := [], alts := [], laidByText := true, laidKinds := [.data], laidTests := true, laidLooks := .later }
def RedoNobodyUptoCardSaid : Prop := Claim7.holds Tryd.pinned (.plain (OpenSpec.upto redoNobodySpec)) redoNobodyUptoCard

/-- THE SECOND FORM's CARD OF 'exchequerlaw06.RedoWrites'. -/
def redoWritesUptoCard : Claim7 := { stood := { row := redoWritesUptoRow, standIns := [], harness := (true, "c624f1197ee88d9ad11ccb39edb3505ebc8274becba041da099518222914e6f8"), looks := false }, kinds := [], alts := [], laidByText := true, laidKinds := [.data], laidTests := true, laidLooks := .later }
def RedoWritesUptoCardSaid : Prop := Claim7.holds Tryd.pinned (.plain (OpenSpec.upto redoWritesSpec)) redoWritesUptoCard

/-- THE SECOND FORM's CARD OF 'exchequerlaw06.RedoAtomic'. -/
def redoAtomicUptoCard : Claim7 := { stood := { row := redoAtomicUptoRow, standIns := [], harness := (true, "c624f1197ee88d9ad11ccb39edb3505ebc8274becba041da099518222914e6f8"), looks := false }, kinds := [], alts := [], laidByText := true, laidKinds := [.data], laidTests := true, laidLooks := .later }
def RedoAtomicUptoCardSaid : Prop := Claim7.holds Tryd.pinned (.plain (OpenSpec.upto redoAtomicSpec)) redoAtomicUptoCard

/-- THE SECOND FORM's CARD OF 'exchequerlaw06.RedoLives'. -/
def redoLivesUptoCard : Claim7 := { stood := { row := redoLivesUptoRow, standIns := [], harness := (true, "c624f1197ee88d9ad11ccb39edb3505ebc8274becba041da099518222914e6f8"), looks := false }, kinds := [], alts := [], laidByText := true, laidKinds := [.data], laidTests := true, laidLooks := .later }
def RedoLivesUptoCardSaid : Prop := Claim7.holds Tryd.pinned (.plain (OpenSpec.upto redoLivesSpec)) redoLivesUptoCard
end Rows
end Go.Proofs.YtmpiggcooboenaaDoor

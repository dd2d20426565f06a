/-
  DERIVED. GIVEN WITH THE SEED: THE CARDS: each row of YtkahpaipciooiaaDoorRows.lean that lists a variable, with what it lists TIED to the program's text (the seventh form; the later family's looks); each row that meets fmt, with fmt's text TOLD by the authors' own Lean function (tested against real Go, not proved from fmt's source: count such statements apart). THE CARD IS WHAT COUNTS. Prove the row's statement (the work); the ties are given (YtkahpaipciooiaaDoorTie.lean); close each card by the builder's one call (the guide's Derived/Test/ToyasCard.lean, 'card_holds'). Laid BY PROGRAM, IN A SANDBOX (cutbox-door.mjs). By AI agents, Wed Nov 11 2026. No macro, syntax, notation, axiom, sorry.
-/
import Derived.Test.YtkahpaipciooiaaDoorRows
import GoSem.ClaimSeven
namespace Go.Proofs.YtkahpaipciooiaaDoor
namespace Rows

/-- THE TIED CARD OF 'exchequerlaw04.SectorPacks'. -/
def sectorPacksCard : Claim7 := { stood := { row := sectorPacksRow, standIns := [], harness := (true, "152241b3b8521d07c3912f7939a6cbb22fd04d39cafaa6e40355b90eee59a7a0"), looks := false }, kinds := [], alts := [], laidByText := true, laidKinds := [.data], laidTests := true, laidLooks := .later }
def SectorPacksCardSaid : Prop := Claim7.holds Tryd.pinned (.plain (OpenSpec.ofChange sectorPacksSpec)) sectorPacksCard

/-- THE TIED CARD OF 'exchequerlaw04.SectorUnpacks'. -/
def sectorUnpacksCard : Claim7 := { stood := { row := sectorUnpacksRow, standIns := [], harness := (true, "152241b3b8521d07c3912f7939a6cbb22fd04d39cafaa6e40355b90eee59a7a0"), looks := false }, kinds := [], alts := [], laidByText := true, laidKinds := [.data], laidTests := true, laidLooks := .later }
def SectorUnpacksCardSaid : Prop := Claim7.holds Tryd.pinned (.plain (OpenSpec.ofChange sectorUnpacksSpec)) sectorUnpacksCard

/-- THE TIED CARD OF 'exchequerlaw04.SectorBack'. -/
def sectorBackCard : Claim7 := { stood := { row := sectorBackRow, standIns := [], harness := (true, "152241b3b8521d07c3912f7939a6cbb22fd04d39cafaa6e40355b90eee59a7a0"), looks := false }, kinds := [], alts := [], laidByText := true, laidKinds := [.data], laidTests := true, laidLooks := .later }
def SectorBackCardSaid : Prop := Claim7.holds Tryd.pinned (.plain (OpenSpec.ofChange sectorBackSpec)) sectorBackCard

/-- THE SECOND FORM's CARD OF 'exchequerlaw04.SectorPacks'. -/
def sectorPacksUptoCard : Claim7 := { stood := { row := sectorPacksUptoRow, standIns := [], harness := (true, "152241b3b8521d07c3912f7939a6cbb22fd04d39cafaa6e40355b90eee59a7a0"), looks := false }, kinds := [], alts := [], laidByText := true, laidKinds := [.data], laidTests := true, laidLooks := .later }
def SectorPacksUptoCardSaid : Prop := Claim7.holds Tryd.pinned (.plain (OpenSpec.upto sectorPacksSpec)) sectorPacksUptoCard

/-- THE SECOND FORM's CARD OF 'exchequerlaw04.SectorUnpacks'. -/
def sectorUnpacksUptoCard : Claim7 := { stood := { row := sectorUnpacksUptoRow, standIns := [], harness := (true, "152241b3b8521d07c3912f7939a6cbb22fd04d39cafaa6e40355b90eee59a7a0"), looks := false }, kinds := [], alts := [], laidByText := true, laidKinds := [.data], laidTests := true, laidLooks := .later }
def SectorUnpacksUptoCardSaid : Prop := Claim7.holds Tryd.pinned (.plain (OpenSpec.upto sectorUnpacksSpec)) sectorUnpacksUptoCard

/-- THE SECOND FORM's CARD OF 'exchequerlaw04.SectorBack'. -/
def sectorBackUptoCard : Claim7 := { stood := { row := sectorBackUptoRow, standIns := [], harness := (true, "152241b3b8521d07c3912f7939a6cbb22fd04d39cafaa6e40355b90eee59a7a0"), looks := false }, kinds := [], alts := [], laidByText := true, laidKinds := [.data], laidTests := true, laidLooks := .later }
def SectorBackUptoCardSaid : Prop := Claim7.holds Tryd.pinned (.plain (OpenSpec.upto sectorBackSpec)) sectorBackUptoCard
end Rows
end Go.Proofs.YtkahpaipciooiaaDoor

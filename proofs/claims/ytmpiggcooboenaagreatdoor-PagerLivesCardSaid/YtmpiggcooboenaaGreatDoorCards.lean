/-
  DERIVED. GIVEN WITH THE SEED: THE CARDS: each row of YtmpiggcooboenaaGreatDoorRows.lean that lists a variable, with what it lists TIED to the program's text (the seventh form; the later family's looks); each row that meets fmt, with fmt's text TOLD by the authors' own Lean function (tested against real Go, not proved from fmt's source: count such statements apart). THE CARD IS WHAT COUNTS. Prove the row's statement (the work); the ties are given (YtmpiggcooboenaaGreatDoorTie.lean); close each card by the builder's one call (the guide's Derived/Test/ToyasCard.lean, 'card_holds'). Laid BY PROGRAM, IN A SANDBOX (cutbox-door.mjs). By AI agents, Wed Nov 11 2026. No macro, syntax, notation, axiom, sorry.
-/
import Derived.Test.YtmpiggcooboenaaGreatDoorRows
import GoSem.ClaimSeven
namespace Go.Proofs.YtmpiggcooboenaaGreatDoor
namespace Rows

/-- THE TIED CARD OF 'exchequerlaw07.PagerAborts'. -/
def pagerAbortsCard : Claim7 := { stood := { row := pagerAbortsRow, standIns := [], harness := (true, "2341a2add8f3edda659ecf8ddaa5f37b27b81dd4857d74dd82b08bd6633dc3e7"), looks := false }, kinds := [], alts := [], laidByText := true, laidKinds := [.data], laidTests := true, laidLooks := .later }
def PagerAbortsCardSaid : Prop := Claim7.holds Tryz.pinned (.plain (OpenSpec.ofChange pagerAbortsSpec)) pagerAbortsCard

/-- THE TIED CARD OF 'exchequerlaw07.PagerNobody'. -/
def pagerNobodyCard : Claim7 := { stood := { row := pagerNobodyRow, standIns := [], harness := (true, "2341a2add8f3edda659ecf8ddaa5f37b27b81dd4857d74dd82b08bd6633dc3e7"), looks := false }, kinds := [], alts := [], laidByText := true, laidKinds := [.data], laidTests := true, laidLooks := .later }
def PagerNobodyCardSaid : Prop := Claim7.holds Tryz.pinned (.plain (OpenSpec.ofChange pagerNobodySpec)) pagerNobodyCard

/-- THE TIED CARD OF 'exchequerlaw07.PagerLives'. -/
def pagerLivesCard : Claim7 := { stood := { row := pagerLivesRow, standIns := [], harness := (true, "2341a2add8f3edda659ecf8ddaa5f37b27b81dd4857d74dd82b08bd6633dc3e7"), looks := false }, kinds := [], alts := [], laidByText := true, laidKinds := [.data], laidTests := true, laidLooks := .later }
def PagerLivesCardSaid : Prop := Claim7.holds Tryz.pinned (.plain (OpenSpec.ofChange pagerLivesSpec)) pagerLivesCard

/-- THE SECOND FORM's CARD OF 'exchequerlaw07.PagerAborts'. -/
def pagerAbortsUptoCard : Claim7 := { stood := { row := pagerAbortsUptoRow, standIns := [], harness := (true, "2341a2add8f3edda659ecf8ddaa5f37b27b81dd4857d74dd82b08bd6633dc3e7"), looks := false }, kinds := [], alts := [], laidByText := true, laidKinds := [.data], laidTests := true, laidLooks := .later }
def PagerAbortsUptoCardSaid : Prop := Claim7.holds Tryz.pinned (.plain (OpenSpec.upto pagerAbortsSpec)) pagerAbortsUptoCard

/-- THE SECOND FORM's CARD OF 'exchequerlaw07.PagerNobody'. -/
def pagerNobodyUptoCard : Claim7 := { stood := { row := pagerNobodyUptoRow, standIns := [], harness := (true, "2341a2add8f3edda659ecf8ddaa5f37b27b81dd4857d74dd82b08bd6633dc3e7"), looks := false }, kinds := [], alts := [], laidByText := true, laidKinds := [.data], laidTests := true, laidLooks := .later }
def PagerNobodyUptoCardSaid : Prop := Claim7.holds Tryz.pinned (.plain (OpenSpec.upto pagerNobodySpec)) pagerNobodyUptoCard

/-- THE SECOND FORM's CARD OF 'exchequerlaw07.PagerLives'. -/
def pagerLivesUptoCard : Claim7 := { stood := { row := pagerLivesUptoRow, standIns := [], harness := (true, "2341a2add8f3edda659ecf8ddaa5f37b27b81dd4857d74dd82b08bd6633dc3e7"), looks := false }, kinds := [], alts := [], laidByText := true, laidKinds := [.data], laidTests := true, laidLooks := .later }
def PagerLivesUptoCardSaid : Prop := Claim7.holds Tryz.pinned (.plain (OpenSpec.upto pagerLivesSpec)) pagerLivesUptoCard
end Rows
end Go.Proofs.YtmpiggcooboenaaGreatDoor

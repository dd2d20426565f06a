-- PRINTED for this claim by a program of this session's (wip/xp); Lean checks it
import Derived.Test.YtkahpaipciooiaaDoorPSectorUnpacksx3
namespace Go.Proofs.YtkahpaipciooiaaDoor.PSectorUnpacks
open Go.RowKit Go.Proofs.YtkahpaipciooiaaDoorW.PrintWords Go.Proofs.YtkahpaipciooiaaDoorW.PrintLast Go.Proofs.YtkahpaipciooiaaDoorW.PrintMore Go
set_option linter.unusedVariables false

/-- THE ONE PURE STATEMENT of exchequerlaw04_SectorUnpacks. -/
def exchequerlaw04_SectorUnpacks.Pure : Prop := ∀ (x0 : List Int), ((x0.length ≤ maxLen ∧ ∀ x_ ∈ x0, (Lit.int .u8 x_).wf = true)) → ∃ k, exchequerlaw04_SectorUnpacks.f k x0 = some true
end Go.Proofs.YtkahpaipciooiaaDoor.PSectorUnpacks

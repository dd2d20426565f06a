-- PRINTED for this claim by a program of this session's (wip/xp); Lean checks it
import Derived.Test.YtkahpaipciooiaaDoorPSectorPacksx3
namespace Go.Proofs.YtkahpaipciooiaaDoor.PSectorPacks
open Go.RowKit Go.Proofs.YtkahpaipciooiaaDoorW.PrintWords Go.Proofs.YtkahpaipciooiaaDoorW.PrintLast Go.Proofs.YtkahpaipciooiaaDoorW.PrintMore Go
set_option linter.unusedVariables false

/-- THE ONE PURE STATEMENT of exchequerlaw04_SectorPacks. -/
def exchequerlaw04_SectorPacks.Pure : Prop := ∀ (a0 : Int) (a1 : Int) (x2 : List Int), ((Lit.int .i64 a0).wf = true) → ((Lit.int .i64 a1).wf = true) → ((x2.length ≤ maxLen ∧ ∀ x_ ∈ x2, (Lit.int .u8 x_).wf = true)) → ∃ k, exchequerlaw04_SectorPacks.f k a0 a1 x2 = some true
end Go.Proofs.YtkahpaipciooiaaDoor.PSectorPacks

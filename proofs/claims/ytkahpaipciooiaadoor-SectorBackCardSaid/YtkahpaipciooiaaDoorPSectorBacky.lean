-- PRINTED for this claim by a program of this session's (wip/xp); Lean checks it
import Derived.Test.YtkahpaipciooiaaDoorPSectorBackx3
namespace Go.Proofs.YtkahpaipciooiaaDoor.PSectorBack
open Go.RowKit Go.Proofs.YtkahpaipciooiaaDoorW.PrintWords Go.Proofs.YtkahpaipciooiaaDoorW.PrintLast Go.Proofs.YtkahpaipciooiaaDoorW.PrintMore Go
set_option linter.unusedVariables false

/-- THE ONE PURE STATEMENT of exchequerlaw04_SectorBack. -/
def exchequerlaw04_SectorBack.Pure : Prop := ∀ (a0 : Int) (a1 : Int) (x2 : List Int) (x3 : List Int) (a4 : Int) (a5 : Int), ((Lit.int .i64 a0).wf = true) → ((Lit.int .i64 a1).wf = true) → ((x2.length ≤ maxLen ∧ ∀ x_ ∈ x2, (Lit.int .u8 x_).wf = true)) → ((x3.length ≤ maxLen ∧ ∀ x_ ∈ x3, (Lit.int .u8 x_).wf = true)) → ((Lit.int .u8 a4).wf = true) → ((Lit.int .u8 a5).wf = true) → ∃ k, exchequerlaw04_SectorBack.f k a0 a1 x2 x3 a4 a5 = some true
end Go.Proofs.YtkahpaipciooiaaDoor.PSectorBack

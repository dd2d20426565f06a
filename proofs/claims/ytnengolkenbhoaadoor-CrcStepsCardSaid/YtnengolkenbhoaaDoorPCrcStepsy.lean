-- PRINTED for this claim by a program of this session's (wip/xp); Lean checks it
import Derived.Test.YtnengolkenbhoaaDoorPCrcStepsx1
namespace Go.Proofs.YtnengolkenbhoaaDoor.PCrcSteps
open Go.RowKit Go.Proofs.YtnengolkenbhoaaDoorW.PrintWords Go.Proofs.YtnengolkenbhoaaDoorW.PrintLast Go.Proofs.YtnengolkenbhoaaDoorW.PrintMore Go
set_option linter.unusedVariables false

/-- THE ONE PURE STATEMENT of exchequerlaw02_CrcSteps. -/
def exchequerlaw02_CrcSteps.Pure : Prop := ∀ (x0 : List Int) (a1 : Int), ((x0.length ≤ maxLen ∧ ∀ x_ ∈ x0, (Lit.int .u8 x_).wf = true)) → ((Lit.int .u8 a1).wf = true) → ∃ k, exchequerlaw02_CrcSteps.f k x0 a1 = some true
end Go.Proofs.YtnengolkenbhoaaDoor.PCrcSteps

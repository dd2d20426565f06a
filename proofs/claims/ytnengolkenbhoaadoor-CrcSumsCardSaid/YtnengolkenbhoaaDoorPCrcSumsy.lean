-- PRINTED for this claim by a program of this session's (wip/xp); Lean checks it
import Derived.Test.YtnengolkenbhoaaDoorPCrcSumsx1
namespace Go.Proofs.YtnengolkenbhoaaDoor.PCrcSums
open Go.RowKit Go.Proofs.YtnengolkenbhoaaDoorW.PrintWords Go.Proofs.YtnengolkenbhoaaDoorW.PrintLast Go.Proofs.YtnengolkenbhoaaDoorW.PrintMore Go
set_option linter.unusedVariables false

/-- THE ONE PURE STATEMENT of exchequerlaw02_CrcSums. -/
def exchequerlaw02_CrcSums.Pure : Prop := ∀ (x0 : List Int) (a1 : Int) (a2 : Int), ((x0.length ≤ maxLen ∧ ∀ x_ ∈ x0, (Lit.int .u8 x_).wf = true)) → ((Lit.int .u32 a1).wf = true) → ((Lit.int .u8 a2).wf = true) → ∃ k, exchequerlaw02_CrcSums.f k x0 a1 a2 = some true
end Go.Proofs.YtnengolkenbhoaaDoor.PCrcSums

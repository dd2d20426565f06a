-- PRINTED for this claim by a program of this session's (wip/xp); Lean checks it
import Derived.Test.YtnengolkenbhoaaDoorPCrcChangesx1
namespace Go.Proofs.YtnengolkenbhoaaDoor.PCrcChanges
open Go.RowKit Go.Proofs.YtnengolkenbhoaaDoorW.PrintWords Go.Proofs.YtnengolkenbhoaaDoorW.PrintLast Go.Proofs.YtnengolkenbhoaaDoorW.PrintMore Go
set_option linter.unusedVariables false

/-- THE ONE PURE STATEMENT of exchequerlaw02_CrcChanges. -/
def exchequerlaw02_CrcChanges.Pure : Prop := ∀ (x0 : List Int) (a1 : Int) (a2 : Int), ((x0.length ≤ maxLen ∧ ∀ x_ ∈ x0, (Lit.int .u8 x_).wf = true)) → ((Lit.int .u16 a1).wf = true) → ((Lit.int .u8 a2).wf = true) → ∃ k, exchequerlaw02_CrcChanges.f k x0 a1 a2 = some true
end Go.Proofs.YtnengolkenbhoaaDoor.PCrcChanges

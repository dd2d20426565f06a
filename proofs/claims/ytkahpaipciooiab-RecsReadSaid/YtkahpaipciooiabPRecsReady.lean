-- PRINTED for this claim by a program of this session's (wip/xp); Lean checks it
import Derived.Test.YtkahpaipciooiabPRecsReadx18
namespace Go.Proofs.Ytkahpaipciooiab.PRecsRead
open Go.RowKit Go.Proofs.YtkahpaipciooiabW.PrintWords Go.Proofs.YtkahpaipciooiabW.PrintLast Go.Proofs.YtkahpaipciooiabW.PrintMore Go
set_option linter.unusedVariables false

/-- What is known of a value of struct type 47 that came in. -/
def g47 (x : S47) : Prop := (x.f0.length ≤ maxLen ∧ ∀ x_ ∈ x.f0, (Lit.int .u8 x_).wf = true) ∧ (x.f1.length ≤ maxLen ∧ ∀ x_ ∈ x.f1, (Lit.int .u8 x_).wf = true)
/-- THE ONE PURE STATEMENT of exchequerlaw19_RecsRead. -/
def exchequerlaw19_RecsRead.Pure : Prop := ∀ (x0 : S47), (g47 x0) → ∃ k, exchequerlaw19_RecsRead.f k x0.f0 x0.f1 = some true
end Go.Proofs.Ytkahpaipciooiab.PRecsRead

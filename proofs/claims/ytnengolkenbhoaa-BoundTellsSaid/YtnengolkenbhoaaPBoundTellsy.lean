-- PRINTED for this claim by a program of this session's (wip/xp); Lean checks it
import Derived.Test.YtnengolkenbhoaaPBoundTellsx2
namespace Go.Proofs.Ytnengolkenbhoaa.PBoundTells
open Go.RowKit Go.Proofs.YtnengolkenbhoaaW.PrintWords Go.Proofs.YtnengolkenbhoaaW.PrintLast Go.Proofs.YtnengolkenbhoaaW.PrintMore Go
set_option linter.unusedVariables false

/-- What is known of a value of struct type 56 that came in. -/
def g56 (x : S56) : Prop := (Lit.int .i64 x.f0).wf = true ∧ (Lit.int .i64 x.f1).wf = true ∧ (Lit.int .i64 x.f2).wf = true ∧ (Lit.int .i64 x.f3).wf = true
/-- What is known of a value of struct type 24 that came in. -/
def g24 (x : S24) : Prop := (Lit.int .i64 x.f0).wf = true ∧ (Lit.int .i64 x.f1).wf = true ∧ (Lit.int .i64 x.f2).wf = true ∧ (Lit.int .i64 x.f3).wf = true ∧ (Lit.int .i64 x.f4).wf = true ∧ (Lit.int .i64 x.f5).wf = true ∧ (Lit.int .i64 x.f6).wf = true ∧ (Lit.int .i64 x.f7).wf = true ∧ (Lit.int .i64 x.f8).wf = true ∧ (Lit.int .i64 x.f9).wf = true ∧ True ∧ x.f11.size ≤ maxLen ∧ (x.f12.length ≤ maxLen ∧ ∀ x_ ∈ x.f12, g56 x_)
/-- THE ONE PURE STATEMENT of exchequerlaw46_BoundTells. -/
def exchequerlaw46_BoundTells.Pure : Prop := ∀ (a0 : Int) (a1 : Int) (x2 : S24), ((Lit.int .i64 a0).wf = true) → ((Lit.int .i64 a1).wf = true) → (g24 x2) → exchequerlaw46_BoundTells.f a0 a1 x2.f0 x2.f1 x2.f2 x2.f3 x2.f4 x2.f5 x2.f6 x2.f7 x2.f8 x2.f9 x2.f10 x2.f11 x2.f12 = some true
end Go.Proofs.Ytnengolkenbhoaa.PBoundTells

-- PRINTED for this claim by a program of this session's (wip/xp); Lean checks it
import Derived.Test.YtkahpaipciooiabPKeysOrderx3
namespace Go.Proofs.Ytkahpaipciooiab.PKeysOrder
open Go.RowKit Go.Proofs.YtkahpaipciooiabW.PrintWords Go.Proofs.YtkahpaipciooiabW.PrintLast Go.Proofs.YtkahpaipciooiabW.PrintMore Go
set_option linter.unusedVariables false

/-- What is known of a value of struct type 23 that came in. -/
def g23 (x : S23) : Prop := (Lit.int .u32 x.f0).wf = true ∧ (Lit.int .u32 x.f1).wf = true ∧ (Lit.int .u32 x.f2).wf = true
/-- THE ONE PURE STATEMENT of exchequerlaw18_KeysOrder. -/
def exchequerlaw18_KeysOrder.Pure : Prop := ∀ (a0 : Int) (x1 : S23) (x2 : S23), ((Lit.int .u8 a0).wf = true) → (g23 x1) → (g23 x2) → ∃ k, exchequerlaw18_KeysOrder.f k a0 x1.f0 x1.f1 x1.f2 x2.f0 x2.f1 x2.f2 = some true
end Go.Proofs.Ytkahpaipciooiab.PKeysOrder

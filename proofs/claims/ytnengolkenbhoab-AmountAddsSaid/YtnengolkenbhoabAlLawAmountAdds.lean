/- What is to be proved of the law AmountAdds, over what is known of memory. -/
import Derived.Test.YtnengolkenbhoabAlOpen
import Derived.Test.YtnengolkenbhoabAlTab
namespace Go.Proofs.Ytnengolkenbhoab.AlAmountAdds
open Go Go.Al Go.Proofs Go.RowKit
set_option linter.unusedVariables false
def LawK : Prop := ∀ (F : Heap) (a0 : Int) (w0 : (Lit.int .i64 a0).wf = true) (a1 : Int) (w1 : (Lit.int .i64 a1).wf = true) (x2 : (List Int)) (w2 : (fun xs => xs.length ≤ maxLen ∧ ∀ x ∈ xs, (fun n => (Lit.int .i64 n).wf = true) x) x2) (A2 : Option Addr) (c2 : Nat) (hc2 : x2.length ≤ c2) (hK2 : Elems F A2 1 (kInt .i64) x2), FnK Try.prog 7 #[.int .i64 a0, .int .i64 a1, .slice A2 x2.length c2] F (fun v F' => v = .bool true ∧ Ext F F')
end Go.Proofs.Ytnengolkenbhoab.AlAmountAdds

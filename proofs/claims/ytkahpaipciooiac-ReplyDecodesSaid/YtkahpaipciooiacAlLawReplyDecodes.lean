/- What is to be proved of the law ReplyDecodes, over what is known of memory. -/
import Derived.Test.YtkahpaipciooiacAlOpen
import Derived.Test.YtkahpaipciooiacAlTab
namespace Go.Proofs.Ytkahpaipciooiac.AlReplyDecodes
open Go Go.Al Go.Proofs Go.RowKit
set_option linter.unusedVariables false
def LawK : Prop := ∀ (F : Heap) (x0 : (List Int)) (w0 : (fun xs => xs.length ≤ maxLen ∧ ∀ x ∈ xs, (fun n => (Lit.int .u8 n).wf = true) x) x0) (A0 : Option Addr) (c0 : Nat) (hc0 : x0.length ≤ c0) (hK0 : Elems F A0 1 (kInt .u8) x0), FnK Try.prog 3 #[.slice A0 x0.length c0] F (fun v F' => v = .bool true ∧ Ext F F')
end Go.Proofs.Ytkahpaipciooiac.AlReplyDecodes

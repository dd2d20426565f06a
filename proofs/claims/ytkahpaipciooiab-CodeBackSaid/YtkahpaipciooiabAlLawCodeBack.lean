/- What is to be proved of the law CodeBack, over what is known of memory. -/
import Derived.Test.YtkahpaipciooiabAlOpen
import Derived.Test.YtkahpaipciooiabAlTab
namespace Go.Proofs.Ytkahpaipciooiab.AlCodeBack
open Go Go.Al Go.Proofs Go.RowKit
set_option linter.unusedVariables false
def LawK : Prop := ∀ (F : Heap) (a0 : Int) (w0 : (Lit.int .i64 a0).wf = true) (a1 : Int) (w1 : (Lit.int .i64 a1).wf = true) (a2 : ByteArray) (w2 : a2.size ≤ maxLen), FnK Try.prog 8 #[.int .i64 a0, .int .i64 a1, .string a2] F (fun v F' => v = .bool true ∧ Ext F F')
end Go.Proofs.Ytkahpaipciooiab.AlCodeBack

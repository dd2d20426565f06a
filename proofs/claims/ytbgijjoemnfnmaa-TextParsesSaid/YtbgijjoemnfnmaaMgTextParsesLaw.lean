/- What is to be proved of the law TextParses, over what is known of memory. -/
import Derived.Test.YtbgijjoemnfnmaaMgText1
namespace Go.Proofs.Ytbgijjoemnfnmaa.AlTextParses
open Go Go.Al Go.Proofs Go.RowKit
set_option linter.unusedVariables false
def LawK : Prop := ∀ (F : Heap) (a0 : ByteArray) (w0 : a0.size ≤ maxLen), FnK Try.prog 3 #[.string a0] F (fun v F' => v = .bool true ∧ Ext F F')
end Go.Proofs.Ytbgijjoemnfnmaa.AlTextParses

/- What is to be proved of the law RedoNobody, over what is known of memory. -/
import Derived.Test.YtmpiggcooboenaaDoorMgRedo1
import Derived.Test.YtmpiggcooboenaaDoorMgRedo2
namespace Go.Proofs.YtmpiggcooboenaaDoor.AlRedoNobody
open Go Go.Al Go.Proofs Go.RowKit Go.Proofs.YtmpiggcooboenaaDoor.Al
set_option linter.unusedVariables false
def LawK : Prop := ∀ (F : Heap) (hN : NibAt F) (a0 : Int) (w0 : (Lit.int .i64 a0).wf = true), FnK Tryd.prog 5 #[.int .i64 a0] F (fun v F' => v = .bool true ∧ Ext F F')
end Go.Proofs.YtmpiggcooboenaaDoor.AlRedoNobody

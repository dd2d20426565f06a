/- What is to be proved of the law PagerNobody, over what is known of memory. -/
import Derived.Test.YtmpiggcooboenaaGreatDoorMgPag1
import Derived.Test.YtmpiggcooboenaaGreatDoorMgPag2
namespace Go.Proofs.YtmpiggcooboenaaGreatDoor.AlPagerNobody
open Go Go.Al Go.Proofs Go.RowKit Go.Proofs.YtmpiggcooboenaaGreatDoor.Al
set_option linter.unusedVariables false
def LawK : Prop := ∀ (F : Heap) (hN : NibAt F) (a0 : Int) (w0 : (Lit.int .i64 a0).wf = true), FnK Tryz.prog 4 #[.int .i64 a0] F (fun v F' => v = .bool true ∧ Ext F F')
end Go.Proofs.YtmpiggcooboenaaGreatDoor.AlPagerNobody

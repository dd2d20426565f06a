/- What is to be proved of the law DiskNobody, over what is known of memory. -/
import Derived.Test.YtkahpaipciooiaeAlOpen
import Derived.Test.YtkahpaipciooiaeAlTab
namespace Go.Proofs.Ytkahpaipciooiae.AlDiskNobody
open Go Go.Al Go.Proofs Go.RowKit
set_option linter.unusedVariables false
def LawK : Prop := ∀ (F : Heap) (a0 : Int) (w0 : (Lit.int .i64 a0).wf = true) (x1 : (List Int)) (w1 : (fun xs => xs.length ≤ maxLen ∧ ∀ x ∈ xs, (fun n => (Lit.int .u8 n).wf = true) x) x1) (A1 : Option Addr) (c1 : Nat) (hc1 : x1.length ≤ c1) (hK1 : Elems F A1 1 (kInt .u8) x1), FnK Try.prog 5 #[.int .i64 a0, .slice A1 x1.length c1] F (fun v F' => v = .bool true ∧ Ext F F')
end Go.Proofs.Ytkahpaipciooiae.AlDiskNobody

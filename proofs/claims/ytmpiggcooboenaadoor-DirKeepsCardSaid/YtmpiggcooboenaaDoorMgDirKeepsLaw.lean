/- What is to be proved of the law DirKeeps, over what is known of memory. -/
import Derived.Test.YtmpiggcooboenaaDoorMgDir1
import Derived.Test.YtmpiggcooboenaaDoorMgDir2
namespace Go.Proofs.YtmpiggcooboenaaDoor.AlDirKeeps
open Go Go.Al Go.Proofs Go.RowKit Go.Proofs.YtmpiggcooboenaaDoor.Al
set_option linter.unusedVariables false
def LawK : Prop := ∀ (F : Heap) (hN : NibAt F) (x0 : (List Int)) (w0 : (fun xs => xs.length ≤ maxLen ∧ ∀ x ∈ xs, (fun n => (Lit.int .u16 n).wf = true) x) x0) (A0 : Option Addr) (c0 : Nat) (hc0 : x0.length ≤ c0) (hK0 : Elems F A0 1 (kInt .u16) x0) (a1 : Int) (w1 : (Lit.int .u16 a1).wf = true) (a2 : Int) (w2 : (Lit.int .u16 a2).wf = true) (a3 : Int) (w3 : (Lit.int .u32 a3).wf = true), FnK Tryd.prog 4 #[.slice A0 x0.length c0, .int .u16 a1, .int .u16 a2, .int .u32 a3] F (fun v F' => v = .bool true ∧ Ext F F')
end Go.Proofs.YtmpiggcooboenaaDoor.AlDirKeeps

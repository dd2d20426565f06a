/- What is to be proved of the law RedoAtomic, over what is known of memory. -/
import Derived.Test.YtmpiggcooboenaaDoorMgRedo1
import Derived.Test.YtmpiggcooboenaaDoorMgRedo2
namespace Go.Proofs.YtmpiggcooboenaaDoor.AlRedoAtomic
open Go Go.Al Go.Proofs Go.RowKit Go.Proofs.YtmpiggcooboenaaDoor.Al
set_option linter.unusedVariables false
def LawK : Prop := ∀ (F : Heap) (hN : NibAt F) (x0 : (List Int)) (w0 : (fun xs => xs.length ≤ maxLen ∧ ∀ x ∈ xs, (fun n => (Lit.int .u8 n).wf = true) x) x0) (A0 : Option Addr) (c0 : Nat) (hc0 : x0.length ≤ c0) (hK0 : Elems F A0 1 (kInt .u8) x0) (x1 : (List Int)) (w1 : (fun xs => xs.length ≤ maxLen ∧ ∀ x ∈ xs, (fun n => (Lit.int .u8 n).wf = true) x) x1) (A1 : Option Addr) (c1 : Nat) (hc1 : x1.length ≤ c1) (hK1 : Elems F A1 1 (kInt .u8) x1) (a2 : Int) (w2 : (Lit.int .u8 a2).wf = true) (a3 : Int) (w3 : (Lit.int .u8 a3).wf = true) (x4 : (List Int)) (w4 : (fun xs => xs.length ≤ maxLen ∧ ∀ x ∈ xs, (fun n => (Lit.int .i64 n).wf = true) x) x4) (A4 : Option Addr) (c4 : Nat) (hc4 : x4.length ≤ c4) (hK4 : Elems F A4 1 (kInt .i64) x4) (x5 : (List Int)) (w5 : (fun xs => xs.length ≤ maxLen ∧ ∀ x ∈ xs, (fun n => (Lit.int .i64 n).wf = true) x) x5) (A5 : Option Addr) (c5 : Nat) (hc5 : x5.length ≤ c5) (hK5 : Elems F A5 1 (kInt .i64) x5), FnK Tryd.prog 7 #[.slice A0 x0.length c0, .slice A1 x1.length c1, .int .u8 a2, .int .u8 a3, .slice A4 x4.length c4, .slice A5 x5.length c5] F (fun v F' => v = .bool true ∧ Ext F F')
end Go.Proofs.YtmpiggcooboenaaDoor.AlRedoAtomic

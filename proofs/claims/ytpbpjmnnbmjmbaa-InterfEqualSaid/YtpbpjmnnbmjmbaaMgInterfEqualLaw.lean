/- What is to be proved of the law InterfEqual, over what is known of memory. -/
import Derived.Test.YtpbpjmnnbmjmbaaMgInfE1
namespace Go.Proofs.Ytpbpjmnnbmjmbaa.AlInterfEqual
open Go Go.Al Go.Proofs Go.RowKit
set_option linter.unusedVariables false
def LawK : Prop := ∀ (F : Heap) (x0 : (List (Int × (Int × (Int × Int))))) (w0 : (fun xs => xs.length ≤ maxLen ∧ ∀ x ∈ xs, (fun p => (fun n => (Lit.int .i64 n).wf = true) p.1 ∧ (fun p => (fun n => (Lit.int .i64 n).wf = true) p.1 ∧ (fun p => (fun n => (Lit.int .i64 n).wf = true) p.1 ∧ (fun n => (Lit.int .i64 n).wf = true) p.2) p.2) p.2) x) x0) (A0 : Option Addr) (c0 : Nat) (hc0 : x0.length ≤ c0) (hK0 : Elems F A0 4 (kPair 1 (kInt .i64) (kPair 1 (kInt .i64) (kPair 1 (kInt .i64) (kInt .i64)))) x0), FnK Try.prog 4 #[.slice A0 x0.length c0] F (fun v F' => v = .bool true ∧ Ext F F')
end Go.Proofs.Ytpbpjmnnbmjmbaa.AlInterfEqual

/- What is to be proved of the law ReplyBack, over what is known of memory. -/
import Derived.Test.YtkahpaipciooiacAlOpen
import Derived.Test.YtkahpaipciooiacAlTab
namespace Go.Proofs.Ytkahpaipciooiac.AlReplyBack
open Go Go.Al Go.Proofs Go.RowKit
set_option linter.unusedVariables false
def LawK : Prop := ∀ (F : Heap) (x0 : (Int × ((List Int) × ByteArray))) (w0 : (fun p => (fun n => (Lit.int .i64 n).wf = true) p.1 ∧ (fun p => (fun xs => xs.length ≤ maxLen ∧ ∀ x ∈ xs, (fun n => (Lit.int .i64 n).wf = true) x) p.1 ∧ (fun s => s.size ≤ maxLen) p.2) p.2) x0) (cs0 : Array Value) (hK0 : (kPair 1 (kInt .i64) (kPair 1 (kSlice 1 (kInt .i64)) kStr)) F x0 cs0.toList) (x1 : (List Int)) (w1 : (fun xs => xs.length ≤ maxLen ∧ ∀ x ∈ xs, (fun n => (Lit.int .u8 n).wf = true) x) x1) (A1 : Option Addr) (c1 : Nat) (hc1 : x1.length ≤ c1) (hK1 : Elems F A1 1 (kInt .u8) x1), FnK Try.prog 5 #[.agg cs0, .slice A1 x1.length c1] F (fun v F' => v = .bool true ∧ Ext F F')
end Go.Proofs.Ytkahpaipciooiac.AlReplyBack

/- What is to be proved of the law ReplyEncodes, over what is known of memory. -/
import Derived.Test.YtkahpaipciooiacAlOpen
import Derived.Test.YtkahpaipciooiacAlTab
namespace Go.Proofs.Ytkahpaipciooiac.AlReplyEncodes
open Go Go.Al Go.Proofs Go.RowKit
set_option linter.unusedVariables false
def LawK : Prop := ∀ (F : Heap) (x0 : (Int × ((List Int) × ByteArray))) (w0 : (fun p => (fun n => (Lit.int .i64 n).wf = true) p.1 ∧ (fun p => (fun xs => xs.length ≤ maxLen ∧ ∀ x ∈ xs, (fun n => (Lit.int .i64 n).wf = true) x) p.1 ∧ (fun s => s.size ≤ maxLen) p.2) p.2) x0) (cs0 : Array Value) (hK0 : (kPair 1 (kInt .i64) (kPair 1 (kSlice 1 (kInt .i64)) kStr)) F x0 cs0.toList) (x1 : (Int × ((List Int) × ByteArray))) (w1 : (fun p => (fun n => (Lit.int .i64 n).wf = true) p.1 ∧ (fun p => (fun xs => xs.length ≤ maxLen ∧ ∀ x ∈ xs, (fun n => (Lit.int .i64 n).wf = true) x) p.1 ∧ (fun s => s.size ≤ maxLen) p.2) p.2) x1) (cs1 : Array Value) (hK1 : (kPair 1 (kInt .i64) (kPair 1 (kSlice 1 (kInt .i64)) kStr)) F x1 cs1.toList), FnK Try.prog 4 #[.agg cs0, .agg cs1] F (fun v F' => v = .bool true ∧ Ext F F')
end Go.Proofs.Ytkahpaipciooiac.AlReplyEncodes

/- What is to be proved of the law BucketBack, over what is known of memory. -/
import Derived.Test.YtkahpaipciooiadAlOpen
import Derived.Test.YtkahpaipciooiadAlTab
namespace Go.Proofs.Ytkahpaipciooiad.AlBucketBack
open Go Go.Al Go.Proofs Go.RowKit
set_option linter.unusedVariables false
def LawK : Prop := ∀ (F : Heap) (x0 : (Int × (Int × (List ((List Int) × (List Int)))))) (w0 : (fun p => (fun n => (Lit.int .i64 n).wf = true) p.1 ∧ (fun p => (fun n => (Lit.int .i64 n).wf = true) p.1 ∧ (fun xs => xs.length ≤ maxLen ∧ ∀ x ∈ xs, (fun p => (fun xs => xs.length ≤ maxLen ∧ ∀ x ∈ xs, (fun n => (Lit.int .u8 n).wf = true) x) p.1 ∧ (fun xs => xs.length ≤ maxLen ∧ ∀ x ∈ xs, (fun n => (Lit.int .u8 n).wf = true) x) p.2) x) p.2) p.2) x0) (cs0 : Array Value) (hK0 : (kPair 1 (kInt .i64) (kPair 1 (kInt .i64) (kSlice 2 (kPair 1 (kSlice 1 (kInt .u8)) (kSlice 1 (kInt .u8)))))) F x0 cs0.toList) (x1 : (List Int)) (w1 : (fun xs => xs.length ≤ maxLen ∧ ∀ x ∈ xs, (fun n => (Lit.int .u8 n).wf = true) x) x1) (A1 : Option Addr) (c1 : Nat) (hc1 : x1.length ≤ c1) (hK1 : Elems F A1 1 (kInt .u8) x1), FnK Try.prog 4 #[.agg cs0, .slice A1 x1.length c1] F (fun v F' => v = .bool true ∧ Ext F F')
end Go.Proofs.Ytkahpaipciooiad.AlBucketBack

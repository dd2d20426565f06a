/- What is to be proved of the law DiskLives, over what is known of memory. -/
import Derived.Test.YtlkdbmoocajjlaaAlOpen
import Derived.Test.YtlkdbmoocajjlaaAlTab
namespace Go.Proofs.Ytlkdbmoocajjlaa.AlDiskLives
open Go Go.Al Go.Proofs Go.RowKit
set_option linter.unusedVariables false
def LawK : Prop := ∀ (F : Heap) (a0 : Int) (w0 : (Lit.int .i64 a0).wf = true) (x1 : (List (Int × (Int × (Int × (List Int)))))) (w1 : (fun xs => xs.length ≤ maxLen ∧ ∀ x ∈ xs, (fun p => (fun n => (Lit.int .i64 n).wf = true) p.1 ∧ (fun p => (fun n => (Lit.int .i64 n).wf = true) p.1 ∧ (fun p => (fun n => (Lit.int .u8 n).wf = true) p.1 ∧ (fun xs => xs.length ≤ maxLen ∧ ∀ x ∈ xs, (fun n => (Lit.int .i64 n).wf = true) x) p.2) p.2) p.2) x) x1) (A1 : Option Addr) (c1 : Nat) (hc1 : x1.length ≤ c1) (hK1 : Elems F A1 4 (kPair 1 (kInt .i64) (kPair 1 (kInt .i64) (kPair 1 (kInt .u8) (kSlice 1 (kInt .i64))))) x1), FnK Try.prog 3 #[.int .i64 a0, .slice A1 x1.length c1] F (fun v F' => v = .bool true ∧ Ext F F')
end Go.Proofs.Ytlkdbmoocajjlaa.AlDiskLives

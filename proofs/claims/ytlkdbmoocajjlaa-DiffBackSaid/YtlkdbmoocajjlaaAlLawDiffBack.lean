/- What is to be proved of the law DiffBack, over what is known of memory. -/
import Derived.Test.YtlkdbmoocajjlaaAlOpen
import Derived.Test.YtlkdbmoocajjlaaAlTab
namespace Go.Proofs.Ytlkdbmoocajjlaa.AlDiffBack
open Go Go.Al Go.Proofs Go.RowKit
set_option linter.unusedVariables false
def LawK : Prop := ∀ (F : Heap) (x0 : (List ((List Int) × (List Int)))) (w0 : (fun xs => xs.length ≤ maxLen ∧ ∀ x ∈ xs, (fun p => (fun xs => xs.length ≤ maxLen ∧ ∀ x ∈ xs, (fun n => (Lit.int .u8 n).wf = true) x) p.1 ∧ (fun xs => xs.length ≤ maxLen ∧ ∀ x ∈ xs, (fun n => (Lit.int .u8 n).wf = true) x) p.2) x) x0) (A0 : Option Addr) (c0 : Nat) (hc0 : x0.length ≤ c0) (hK0 : Elems F A0 2 (kPair 1 (kSlice 1 (kInt .u8)) (kSlice 1 (kInt .u8))) x0) (x1 : (List ((List Int) × (List Int)))) (w1 : (fun xs => xs.length ≤ maxLen ∧ ∀ x ∈ xs, (fun p => (fun xs => xs.length ≤ maxLen ∧ ∀ x ∈ xs, (fun n => (Lit.int .u8 n).wf = true) x) p.1 ∧ (fun xs => xs.length ≤ maxLen ∧ ∀ x ∈ xs, (fun n => (Lit.int .u8 n).wf = true) x) p.2) x) x1) (A1 : Option Addr) (c1 : Nat) (hc1 : x1.length ≤ c1) (hK1 : Elems F A1 2 (kPair 1 (kSlice 1 (kInt .u8)) (kSlice 1 (kInt .u8))) x1), FnK Try.prog 5 #[.slice A0 x0.length c0, .slice A1 x1.length c1] F (fun v F' => v = .bool true ∧ Ext F F')
end Go.Proofs.Ytlkdbmoocajjlaa.AlDiffBack

/- What is to be proved of the law DiffTells, over what is known of memory. -/
import Derived.Test.YtlkdbmoocajjlaaAlOpen
import Derived.Test.YtlkdbmoocajjlaaAlTab
namespace Go.Proofs.Ytlkdbmoocajjlaa.AlDiffTells
open Go Go.Al Go.Proofs Go.RowKit
set_option linter.unusedVariables false
def LawK : Prop := ∀ (F : Heap) (x0 : (List ((List Int) × (List Int)))) (w0 : (fun xs => xs.length ≤ maxLen ∧ ∀ x ∈ xs, (fun p => (fun xs => xs.length ≤ maxLen ∧ ∀ x ∈ xs, (fun n => (Lit.int .u8 n).wf = true) x) p.1 ∧ (fun xs => xs.length ≤ maxLen ∧ ∀ x ∈ xs, (fun n => (Lit.int .u8 n).wf = true) x) p.2) x) x0) (A0 : Option Addr) (c0 : Nat) (hc0 : x0.length ≤ c0) (hK0 : Elems F A0 2 (kPair 1 (kSlice 1 (kInt .u8)) (kSlice 1 (kInt .u8))) x0) (x1 : (List ((List Int) × (List Int)))) (w1 : (fun xs => xs.length ≤ maxLen ∧ ∀ x ∈ xs, (fun p => (fun xs => xs.length ≤ maxLen ∧ ∀ x ∈ xs, (fun n => (Lit.int .u8 n).wf = true) x) p.1 ∧ (fun xs => xs.length ≤ maxLen ∧ ∀ x ∈ xs, (fun n => (Lit.int .u8 n).wf = true) x) p.2) x) x1) (A1 : Option Addr) (c1 : Nat) (hc1 : x1.length ≤ c1) (hK1 : Elems F A1 2 (kPair 1 (kSlice 1 (kInt .u8)) (kSlice 1 (kInt .u8))) x1) (x2 : (List (List Int))) (w2 : (fun xs => xs.length ≤ maxLen ∧ ∀ x ∈ xs, (fun xs => xs.length ≤ maxLen ∧ ∀ x ∈ xs, (fun n => (Lit.int .u8 n).wf = true) x) x) x2) (A2 : Option Addr) (c2 : Nat) (hc2 : x2.length ≤ c2) (hK2 : Elems F A2 1 (kSlice 1 (kInt .u8)) x2) (a3 : Bool), FnK Try.prog 4 #[.slice A0 x0.length c0, .slice A1 x1.length c1, .slice A2 x2.length c2, .bool a3] F (fun v F' => v = .bool true ∧ Ext F F')
end Go.Proofs.Ytlkdbmoocajjlaa.AlDiffTells

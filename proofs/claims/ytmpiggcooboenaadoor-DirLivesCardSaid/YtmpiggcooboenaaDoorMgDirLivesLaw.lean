/- What is to be proved of the law DirLives, over what is known of memory. -/
import Derived.Test.YtmpiggcooboenaaDoorMgDir1
import Derived.Test.YtmpiggcooboenaaDoorMgDir2
namespace Go.Proofs.YtmpiggcooboenaaDoor.AlDirLives
open Go Go.Al Go.Proofs Go.RowKit Go.Proofs.YtmpiggcooboenaaDoor.Al
set_option linter.unusedVariables false
def LawK : Prop := ∀ (F : Heap) (hN : NibAt F) (x0 : (Int × (Int × (Int × (Int × (List Int)))))) (w0 : (fun p => (fun n => (Lit.int .i64 n).wf = true) p.1 ∧ (fun p => (fun n => (Lit.int .i64 n).wf = true) p.1 ∧ (fun p => (fun n => (Lit.int .i64 n).wf = true) p.1 ∧ (fun p => (fun n => (Lit.int .i64 n).wf = true) p.1 ∧ (fun xs => xs.length ≤ maxLen ∧ ∀ x ∈ xs, (fun n => (Lit.int .i64 n).wf = true) x) p.2) p.2) p.2) p.2) x0) (cs0 : Array Value) (hK0 : (kPair 1 (kInt .i64) (kPair 1 (kInt .i64) (kPair 1 (kInt .i64) (kPair 1 (kInt .i64) (kSlice 1 (kInt .i64)))))) F x0 cs0.toList) (x1 : (List (Bool × (Int × Int)))) (w1 : (fun xs => xs.length ≤ maxLen ∧ ∀ x ∈ xs, (fun p => (fun _ => True) p.1 ∧ (fun p => (fun n => (Lit.int .i64 n).wf = true) p.1 ∧ (fun n => (Lit.int .i64 n).wf = true) p.2) p.2) x) x1) (A1 : Option Addr) (c1 : Nat) (hc1 : x1.length ≤ c1) (hK1 : Elems F A1 3 (kPair 1 kBool (kPair 1 (kInt .i64) (kInt .i64))) x1) (a2 : Int) (w2 : (Lit.int .i64 a2).wf = true), FnK Tryd.prog 3 #[.agg cs0, .slice A1 x1.length c1, .int .i64 a2] F (fun v F' => v = .bool true ∧ Ext F F')
end Go.Proofs.YtmpiggcooboenaaDoor.AlDirLives

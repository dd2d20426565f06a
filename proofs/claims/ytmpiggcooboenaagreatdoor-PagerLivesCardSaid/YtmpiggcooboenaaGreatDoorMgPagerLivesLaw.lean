/- What is to be proved of the law PagerLives, over what is known of memory. -/
import Derived.Test.YtmpiggcooboenaaGreatDoorMgPag1
import Derived.Test.YtmpiggcooboenaaGreatDoorMgPag2
namespace Go.Proofs.YtmpiggcooboenaaGreatDoor.AlPagerLives
open Go Go.Al Go.Proofs Go.RowKit Go.Proofs.YtmpiggcooboenaaGreatDoor.Al
set_option linter.unusedVariables false
def LawK : Prop := ∀ (F : Heap) (hN : NibAt F) (a0 : Int) (w0 : (Lit.int .u8 a0).wf = true) (x1 : (List (Int × (Int × Int)))) (w1 : (fun xs => xs.length ≤ maxLen ∧ ∀ x ∈ xs, (fun p => (fun n => (Lit.int .i64 n).wf = true) p.1 ∧ (fun p => (fun n => (Lit.int .i64 n).wf = true) p.1 ∧ (fun n => (Lit.int .u8 n).wf = true) p.2) p.2) x) x1) (A1 : Option Addr) (c1 : Nat) (hc1 : x1.length ≤ c1) (hK1 : Elems F A1 3 (kPair 1 (kInt .i64) (kPair 1 (kInt .i64) (kInt .u8))) x1), FnK Tryz.prog 5 #[.int .u8 a0, .slice A1 x1.length c1] F (fun v F' => v = .bool true ∧ Ext F F')
end Go.Proofs.YtmpiggcooboenaaGreatDoor.AlPagerLives

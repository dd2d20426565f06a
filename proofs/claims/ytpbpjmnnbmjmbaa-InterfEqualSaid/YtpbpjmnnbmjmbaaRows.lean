/-
  No cell of these rows narrows 'for every input' (looked for: loops, veiled, ifaces, maps, wideKeys, modest, calm, conditions, laid).
  DERIVED. THE GIVEN ROWS OF THIS SEAT. 2 by the template 'for every input the law returns true; each argument reads behind the call as it read before'; 0 by the template 'total and deterministic' (their statements: YtpbpjmnnbmjmbaaTotals.lean).
  GIVEN WITH THE SEED: the statements are not yours to turn. If you find one false, say at which input.
  Laid BY PROGRAM, IN A SANDBOX (cutbox-rows.mjs): the forced cells as the released guide's own fill.sh prints them over the translation 866eeea9c3d305f5… (all of the seat's roots in one cut). By AI agents, Wed Nov 11 2026. No macro, syntax, notation, axiom, sorry.
-/
import Derived.Test.YtpbpjmnnbmjmbaaChecked
import GoSem.Claim
import GoSem.ClaimJoined
import GoSem.ClaimMapViews
import Derived.JoinedTies
import Derived.KernelRfl
namespace Go.Proofs.Ytpbpjmnnbmjmbaa
/- THE CELL 'sum', in the pinned program and in every row, IS THE sha256 OF THE DUMP (.gsa) THAT YtpbpjmnnbmjmbaaProg.lean LOADS. Nothing in Lean hashes anything: it is a label: what it is worth is what the hold of that sum in a sandbox is worth. -/
noncomputable def Try.pinned : Pinned := { name := "ytpbpjmnnbmjmbaa", sum := "866eeea9c3d305f590ba2e971081cb3bc9f5e465c09389eede74f4c7509d4acb", checked := Try.checked }
namespace Rows
def none {H : Type} : Left H := { results := [], args := [] }

/-- 'exchequerlaw24.InterfTells': WHATEVER THE INPUT: true; the input reads as it did. -/
def interfTellsSpec : ChangeSpec := { name := "interfTells", fn := fun _ => fun
  | [d] => { results := [.lit (.bool true)], args := [d] }
  | _ => none }
def interfTellsRow : OpenClaim := { program := "ytpbpjmnnbmjmbaa", sum := "866eeea9c3d305f590ba2e971081cb3bc9f5e465c09389eede74f4c7509d4acb", func := "exchequer/exchequerlaw24.InterfTells", spec := "interfTells", unfollowed := true, recurses := true, apart := false }
def InterfTellsSaid : Prop := interfTellsRow.holds Try.pinned (OpenSpec.ofChange interfTellsSpec)

/-- ITS FALSE NEIGHBOUR: 'it returns false'. Refute it at one input. -/
def interfTellsWrong : ChangeSpec := { name := "interfTells", fn := fun _ => fun
  | [d] => { results := [.lit (.bool false)], args := [d] }
  | _ => none }
def InterfTellsWrongFalsely : Prop := interfTellsRow.holds Try.pinned (OpenSpec.ofChange interfTellsWrong)

/-- 'exchequerlaw24.InterfEqual': WHATEVER THE INPUT: true; the input reads as it did. -/
def interfEqualSpec : ChangeSpec := { name := "interfEqual", fn := fun _ => fun
  | [d] => { results := [.lit (.bool true)], args := [d] }
  | _ => none }
def interfEqualRow : OpenClaim := { program := "ytpbpjmnnbmjmbaa", sum := "866eeea9c3d305f590ba2e971081cb3bc9f5e465c09389eede74f4c7509d4acb", func := "exchequer/exchequerlaw24.InterfEqual", spec := "interfEqual", unfollowed := true, recurses := true, apart := false }
def InterfEqualSaid : Prop := interfEqualRow.holds Try.pinned (OpenSpec.ofChange interfEqualSpec)

/-- ITS FALSE NEIGHBOUR: 'it returns false'. Refute it at one input. -/
def interfEqualWrong : ChangeSpec := { name := "interfEqual", fn := fun _ => fun
  | [d] => { results := [.lit (.bool false)], args := [d] }
  | _ => none }
def InterfEqualWrongFalsely : Prop := interfEqualRow.holds Try.pinned (OpenSpec.ofChange interfEqualWrong)

/- THE SECOND FORM. 'bulk': how many values and letters a reading holds, each counted each time it is reached (what is shared counts as often as it is met; a slice's spare places count too). A statement '..UptoSaid' is the law's where the arguments, and the package variables that the reading takes, are together of bulk at most 1048576: NARROWER than '..Said'. Prove '..Said' where nothing that the law and all that it calls make is longer than what came in: it says more and counts as full. Else prove '..UptoSaid'. A law counts once. -/
mutual
def uptoBulk {H : Type} : DataW H → Nat
  | .lit (.string bytes) => bytes.length + 1
  | .lit _ => 1
  | .nil => 1
  | .ptr d => uptoBulk d + 1
  | .slice elems spare => uptoBulkAll elems + uptoBulkAll spare + 1
  | .agg parts => uptoBulkAll parts + 1
  | .iface _ d => uptoBulk d + 1
  | .map entries => uptoBulkEntries entries + 1
  | .held _ => 1
def uptoBulkAll {H : Type} : List (DataW H) → Nat
  | [] => 0
  | d :: r => uptoBulk d + uptoBulkAll r
def uptoBulkEntries {H : Type} : List (Lit × DataW H) → Nat
  | [] => 0
  | x :: r => uptoBulkEntry x + uptoBulkEntries r
def uptoBulkEntry {H : Type} : Lit × DataW H → Nat
  | (.string bytes, d) => bytes.length + uptoBulk d + 1
  | (_, d) => uptoBulk d + 1
 end
def uptoSmall : (H : Type) → List (DataW H) → Bool := fun _ ds => decide (uptoBulkAll ds ≤ 1048576)
def OpenSpec.upto (s : _root_.Go.ChangeSpec) : _root_.Go.OpenSpec := { _root_.Go.OpenSpec.ofChange s with cond := some uptoSmall }

/-- 'exchequerlaw24.InterfTells', WHERE WHAT IT READS IS OF BULK AT MOST 1048576: true; the input reads as it did. -/
def interfTellsUptoRow : OpenClaim := { program := "ytpbpjmnnbmjmbaa", sum := "866eeea9c3d305f590ba2e971081cb3bc9f5e465c09389eede74f4c7509d4acb", func := "exchequer/exchequerlaw24.InterfTells", spec := "interfTells", unfollowed := true, recurses := true, apart := false, narrowed := true }
def InterfTellsUptoSaid : Prop := interfTellsUptoRow.holds Try.pinned (OpenSpec.upto interfTellsSpec)

/-- 'exchequerlaw24.InterfEqual', WHERE WHAT IT READS IS OF BULK AT MOST 1048576: true; the input reads as it did. -/
def interfEqualUptoRow : OpenClaim := { program := "ytpbpjmnnbmjmbaa", sum := "866eeea9c3d305f590ba2e971081cb3bc9f5e465c09389eede74f4c7509d4acb", func := "exchequer/exchequerlaw24.InterfEqual", spec := "interfEqual", unfollowed := true, recurses := true, apart := false, narrowed := true }
def InterfEqualUptoSaid : Prop := interfEqualUptoRow.holds Try.pinned (OpenSpec.upto interfEqualSpec)

end Rows
end Go.Proofs.Ytpbpjmnnbmjmbaa

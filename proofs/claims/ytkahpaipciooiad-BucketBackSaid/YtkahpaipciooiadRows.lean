/-
  No cell of these rows narrows 'for every input' (looked for: loops, veiled, ifaces, maps, wideKeys, modest, calm, conditions, laid).
  DERIVED. THE GIVEN ROWS OF THIS SEAT. 6 by the template 'for every input the law returns true; each argument reads behind the call as it read before'; 0 by the template 'total and deterministic' (their statements: YtkahpaipciooiadTotals.lean).
  GIVEN WITH THE SEED: the statements are not yours to turn. If you find one false, say at which input.
  Laid BY PROGRAM, IN A SANDBOX (cutbox-rows.mjs): the forced cells as the released guide's own fill.sh prints them over the translation 2fee8bd12ca4fc53… (all of the seat's roots in one cut). By AI agents, Wed Nov 11 2026. No macro, syntax, notation, axiom, sorry.
-/
import Derived.Test.YtkahpaipciooiadChecked
import GoSem.Claim
import GoSem.ClaimJoined
import GoSem.ClaimMapViews
import Derived.JoinedTies
import Derived.KernelRfl
namespace Go.Proofs.Ytkahpaipciooiad
/- THE CELL 'sum', in the pinned program and in every row, IS THE sha256 OF THE DUMP (.gsa) THAT YtkahpaipciooiadProg.lean LOADS. Nothing in Lean hashes anything: it is a label: what it is worth is what the hold of that sum in a sandbox is worth. -/
noncomputable def Try.pinned : Pinned := { name := "ytkahpaipciooiad", sum := "2fee8bd12ca4fc5301834dfd0a3143e5429f8ec38a490053515291dad9c1ab8e", checked := Try.checked }
namespace Rows
def none {H : Type} : Left H := { results := [], args := [] }

/-- 'exchequerlaw10.BucketParses': WHATEVER THE INPUT: true; the input reads as it did. -/
def bucketParsesSpec : ChangeSpec := { name := "bucketParses", fn := fun _ => fun
  | [d] => { results := [.lit (.bool true)], args := [d] }
  | _ => none }
def bucketParsesRow : OpenClaim := { program := "ytkahpaipciooiad", sum := "2fee8bd12ca4fc5301834dfd0a3143e5429f8ec38a490053515291dad9c1ab8e", func := "exchequer/exchequerlaw10.BucketParses", spec := "bucketParses", unfollowed := true, recurses := true, apart := false }
def BucketParsesSaid : Prop := bucketParsesRow.holds Try.pinned (OpenSpec.ofChange bucketParsesSpec)

/-- ITS FALSE NEIGHBOUR: 'it returns false'. Refute it at one input. -/
def bucketParsesWrong : ChangeSpec := { name := "bucketParses", fn := fun _ => fun
  | [d] => { results := [.lit (.bool false)], args := [d] }
  | _ => none }
def BucketParsesWrongFalsely : Prop := bucketParsesRow.holds Try.pinned (OpenSpec.ofChange bucketParsesWrong)

/-- 'exchequerlaw10.BucketBack': WHATEVER THE INPUT: true; the input reads as it did. -/
def bucketBackSpec : ChangeSpec := { name := "bucketBack", fn := fun _ => fun
  | [d1, d2] => { results := [.lit (.bool true)], args := [d1, d2] }
  | _ => none }
def bucketBackRow : OpenClaim := { program := "ytkahpaipciooiad", sum := "2fee8bd12ca4fc5301834dfd0a3143e5429f8ec38a490053515291dad9c1ab8e", func := "exchequer/exchequerlaw10.BucketBack", spec := "bucketBack", unfollowed := true, recurses := true, apart := false }
def BucketBackSaid : Prop := bucketBackRow.holds Try.pinned (OpenSpec.ofChange bucketBackSpec)

/-- ITS FALSE NEIGHBOUR: 'it returns false'. Refute it at one input. -/
def bucketBackWrong : ChangeSpec := { name := "bucketBack", fn := fun _ => fun
  | [d1, d2] => { results := [.lit (.bool false)], args := [d1, d2] }
  | _ => none }
def BucketBackWrongFalsely : Prop := bucketBackRow.holds Try.pinned (OpenSpec.ofChange bucketBackWrong)

/-- 'exchequerlaw10.BucketPuts': WHATEVER THE INPUT: true; the input reads as it did. -/
def bucketPutsSpec : ChangeSpec := { name := "bucketPuts", fn := fun _ => fun
  | [d1, d2, d3] => { results := [.lit (.bool true)], args := [d1, d2, d3] }
  | _ => none }
def bucketPutsRow : OpenClaim := { program := "ytkahpaipciooiad", sum := "2fee8bd12ca4fc5301834dfd0a3143e5429f8ec38a490053515291dad9c1ab8e", func := "exchequer/exchequerlaw10.BucketPuts", spec := "bucketPuts", unfollowed := true, recurses := true, apart := false }
def BucketPutsSaid : Prop := bucketPutsRow.holds Try.pinned (OpenSpec.ofChange bucketPutsSpec)

/-- ITS FALSE NEIGHBOUR: 'it returns false'. Refute it at one input. -/
def bucketPutsWrong : ChangeSpec := { name := "bucketPuts", fn := fun _ => fun
  | [d1, d2, d3] => { results := [.lit (.bool false)], args := [d1, d2, d3] }
  | _ => none }
def BucketPutsWrongFalsely : Prop := bucketPutsRow.holds Try.pinned (OpenSpec.ofChange bucketPutsWrong)

/-- 'exchequerlaw42.ScriptParses': WHATEVER THE INPUT: true; the input reads as it did. -/
def scriptParsesSpec : ChangeSpec := { name := "scriptParses", fn := fun _ => fun
  | [d] => { results := [.lit (.bool true)], args := [d] }
  | _ => none }
def scriptParsesRow : OpenClaim := { program := "ytkahpaipciooiad", sum := "2fee8bd12ca4fc5301834dfd0a3143e5429f8ec38a490053515291dad9c1ab8e", func := "exchequer/exchequerlaw42.ScriptParses", spec := "scriptParses", unfollowed := true, recurses := true, apart := false }
def ScriptParsesSaid : Prop := scriptParsesRow.holds Try.pinned (OpenSpec.ofChange scriptParsesSpec)

/-- ITS FALSE NEIGHBOUR: 'it returns false'. Refute it at one input. -/
def scriptParsesWrong : ChangeSpec := { name := "scriptParses", fn := fun _ => fun
  | [d] => { results := [.lit (.bool false)], args := [d] }
  | _ => none }
def ScriptParsesWrongFalsely : Prop := scriptParsesRow.holds Try.pinned (OpenSpec.ofChange scriptParsesWrong)

/-- 'exchequerlaw42.ScriptBack': WHATEVER THE INPUT: true; the input reads as it did. -/
def scriptBackSpec : ChangeSpec := { name := "scriptBack", fn := fun _ => fun
  | [d] => { results := [.lit (.bool true)], args := [d] }
  | _ => none }
def scriptBackRow : OpenClaim := { program := "ytkahpaipciooiad", sum := "2fee8bd12ca4fc5301834dfd0a3143e5429f8ec38a490053515291dad9c1ab8e", func := "exchequer/exchequerlaw42.ScriptBack", spec := "scriptBack", unfollowed := true, recurses := true, apart := false }
def ScriptBackSaid : Prop := scriptBackRow.holds Try.pinned (OpenSpec.ofChange scriptBackSpec)

/-- ITS FALSE NEIGHBOUR: 'it returns false'. Refute it at one input. -/
def scriptBackWrong : ChangeSpec := { name := "scriptBack", fn := fun _ => fun
  | [d] => { results := [.lit (.bool false)], args := [d] }
  | _ => none }
def ScriptBackWrongFalsely : Prop := scriptBackRow.holds Try.pinned (OpenSpec.ofChange scriptBackWrong)

/-- 'exchequerlaw42.ScriptPuts': WHATEVER THE INPUT: true; the input reads as it did. -/
def scriptPutsSpec : ChangeSpec := { name := "scriptPuts", fn := fun _ => fun
  | [d1, d2, d3] => { results := [.lit (.bool true)], args := [d1, d2, d3] }
  | _ => none }
def scriptPutsRow : OpenClaim := { program := "ytkahpaipciooiad", sum := "2fee8bd12ca4fc5301834dfd0a3143e5429f8ec38a490053515291dad9c1ab8e", func := "exchequer/exchequerlaw42.ScriptPuts", spec := "scriptPuts", unfollowed := true, recurses := true, apart := false }
def ScriptPutsSaid : Prop := scriptPutsRow.holds Try.pinned (OpenSpec.ofChange scriptPutsSpec)

/-- ITS FALSE NEIGHBOUR: 'it returns false'. Refute it at one input. -/
def scriptPutsWrong : ChangeSpec := { name := "scriptPuts", fn := fun _ => fun
  | [d1, d2, d3] => { results := [.lit (.bool false)], args := [d1, d2, d3] }
  | _ => none }
def ScriptPutsWrongFalsely : Prop := scriptPutsRow.holds Try.pinned (OpenSpec.ofChange scriptPutsWrong)

/- THE SECOND FORM. 'bulk': how many values and letters a reading holds, each counted each time it is reached (what is shared counts as often as it is met; a slice's spare places count too). A statement '..UptoSaid' is the law's where the arguments, and the package variables that the reading takes, are together of bulk at most 1048576: NARROWER than '..Said'. Prove '..Said' where nothing that the law and all that it calls make is longer than what came in: it says more and counts as full. Else prove '..UptoSaid'. A law counts once. -/
mutual
def uptoBulk {H : Type} : DataW H → Nat
  | .lit (.string bytes) => bytes.length + 1
  | .lit _ => 1
  | .nil => 1
  | .ptr d => uptoBulk d + 1
  | .slice elems spare => uptoBulkAll elems + uptoBulkAll spare + 1
  | .agg parts => uptoBulkAll parts + 1
  | .iface _ d => uptoBulk d + 1
  | .map entries => uptoBulkEntries entries + 1
  | .held _ => 1
def uptoBulkAll {H : Type} : List (DataW H) → Nat
  | [] => 0
  | d :: r => uptoBulk d + uptoBulkAll r
def uptoBulkEntries {H : Type} : List (Lit × DataW H) → Nat
  | [] => 0
  | x :: r => uptoBulkEntry x + uptoBulkEntries r
def uptoBulkEntry {H : Type} : Lit × DataW H → Nat
  | (.string bytes, d) => bytes.length + uptoBulk d + 1
  | (_, d) => uptoBulk d + 1
 end
def uptoSmall : (H : Type) → List (DataW H) → Bool := fun _ ds => decide (uptoBulkAll ds ≤ 1048576)
def OpenSpec.upto (s : _root_.Go.ChangeSpec) : _root_.Go.OpenSpec := { _root_.Go.OpenSpec.ofChange s with cond := some uptoSmall }

/-- 'exchequerlaw10.BucketParses', WHERE WHAT IT READS IS OF BULK AT MOST 1048576: true; the input reads as it did. -/
def bucketParsesUptoRow : OpenClaim := { program := "ytkahpaipciooiad", sum := "2fee8bd12ca4fc5301834dfd0a3143e5429f8ec38a490053515291dad9c1ab8e", func := "exchequer/exchequerlaw10.BucketParses", spec := "bucketParses", unfollowed := true, recurses := true, apart := false, narrowed := true }
def BucketParsesUptoSaid : Prop := bucketParsesUptoRow.holds Try.pinned (OpenSpec.upto bucketParsesSpec)

/-- 'exchequerlaw10.BucketBack', WHERE WHAT IT READS IS OF BULK AT MOST 1048576: true; the input reads as it did. -/
def bucketBackUptoRow : OpenClaim := { program := "ytkahpaipciooiad", sum := "2fee8bd12ca4fc5301834dfd0a3143e5429f8ec38a490053515291dad9c1ab8e", func := "exchequer/exchequerlaw10.BucketBack", spec := "bucketBack", unfollowed := true, recurses := true, apart := false, narrowed := true }
def BucketBackUptoSaid : Prop := bucketBackUptoRow.holds Try.pinned (OpenSpec.upto bucketBackSpec)

/-- 'exchequerlaw10.BucketPuts', WHERE WHAT IT READS IS OF BULK AT MOST 1048576: true; the input reads as it did. -/
def bucketPutsUptoRow : OpenClaim := { program := "ytkahpaipciooiad", sum := "2fee8bd12ca4fc5301834dfd0a3143e5429f8ec38a490053515291dad9c1ab8e", func := "exchequer/exchequerlaw10.BucketPuts", spec := "bucketPuts", unfollowed := true, recurses := true, apart := false, narrowed := true }
def BucketPutsUptoSaid : Prop := bucketPutsUptoRow.holds Try.pinned (OpenSpec.upto bucketPutsSpec)

/-- 'exchequerlaw42.ScriptParses', WHERE WHAT IT READS IS OF BULK AT MOST 1048576: true; the input reads as it did. -/
def scriptParsesUptoRow : OpenClaim := { program := "ytkahpaipciooiad", sum := "2fee8bd12ca4fc5301834dfd0a3143e5429f8ec38a490053515291dad9c1ab8e", func := "exchequer/exchequerlaw42.ScriptParses", spec := "scriptParses", unfollowed := true, recurses := true, apart := false, narrowed := true }
def ScriptParsesUptoSaid : Prop := scriptParsesUptoRow.holds Try.pinned (OpenSpec.upto scriptParsesSpec)

/-- 'exchequerlaw42.ScriptBack', WHERE WHAT IT READS IS OF BULK AT MOST 1048576: true; the input reads as it did. -/
def scriptBackUptoRow : OpenClaim := { program := "ytkahpaipciooiad", sum := "2fee8bd12ca4fc5301834dfd0a3143e5429f8ec38a490053515291dad9c1ab8e", func := "exchequer/exchequerlaw42.ScriptBack", spec := "scriptBack", unfollowed := true, recurses := true, apart := false, narrowed := true }
def ScriptBackUptoSaid : Prop := scriptBackUptoRow.holds Try.pinned (OpenSpec.upto scriptBackSpec)

/-- 'exchequerlaw42.ScriptPuts', WHERE WHAT IT READS IS OF BULK AT MOST 1048576: true; the input reads as it did. -/
def scriptPutsUptoRow : OpenClaim := { program := "ytkahpaipciooiad", sum := "2fee8bd12ca4fc5301834dfd0a3143e5429f8ec38a490053515291dad9c1ab8e", func := "exchequer/exchequerlaw42.ScriptPuts", spec := "scriptPuts", unfollowed := true, recurses := true, apart := false, narrowed := true }
def ScriptPutsUptoSaid : Prop := scriptPutsUptoRow.holds Try.pinned (OpenSpec.upto scriptPutsSpec)

end Rows
end Go.Proofs.Ytkahpaipciooiad

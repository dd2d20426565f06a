/-
  No cell of these rows narrows 'for every input' (looked for: loops, veiled, ifaces, maps, wideKeys, modest, calm, conditions, laid).
  DERIVED. THE GIVEN ROWS OF THIS SEAT. 6 by the template 'for every input the law returns true; each argument reads behind the call as it read before'; 0 by the template 'total and deterministic' (their statements: YtkahpaipciooiacTotals.lean).
  GIVEN WITH THE SEED: the statements are not yours to turn. If you find one false, say at which input.
  Laid BY PROGRAM, IN A SANDBOX (cutbox-rows.mjs): the forced cells as the released guide's own fill.sh prints them over the translation 4125d57f07ea2294… (all of the seat's roots in one cut). By AI agents, Wed Nov 11 2026. No macro, syntax, notation, axiom, sorry.
-/
import Derived.Test.YtkahpaipciooiacChecked
import GoSem.Claim
import GoSem.ClaimJoined
import GoSem.ClaimMapViews
import Derived.JoinedTies
import Derived.KernelRfl
namespace Go.Proofs.Ytkahpaipciooiac
/- THE CELL 'sum', in the pinned program and in every row, IS THE sha256 OF THE DUMP (.gsa) THAT YtkahpaipciooiacProg.lean LOADS. Nothing in Lean hashes anything: it is a label: what it is worth is what the hold of that sum in a sandbox is worth. -/
noncomputable def Try.pinned : Pinned := { name := "ytkahpaipciooiac", sum := "4125d57f07ea22942bf9a4c40ee38ed9c9b5f60350108d8f02bd8596f2283f00", checked := Try.checked }
namespace Rows
def none {H : Type} : Left H := { results := [], args := [] }

/-- 'exchequerlaw37.ReplyDecodes': WHATEVER THE INPUT: true; the input reads as it did. -/
def replyDecodesSpec : ChangeSpec := { name := "replyDecodes", fn := fun _ => fun
  | [d] => { results := [.lit (.bool true)], args := [d] }
  | _ => none }
def replyDecodesRow : OpenClaim := { program := "ytkahpaipciooiac", sum := "4125d57f07ea22942bf9a4c40ee38ed9c9b5f60350108d8f02bd8596f2283f00", func := "exchequer/exchequerlaw37.ReplyDecodes", spec := "replyDecodes", unfollowed := true, recurses := true, apart := false }
def ReplyDecodesSaid : Prop := replyDecodesRow.holds Try.pinned (OpenSpec.ofChange replyDecodesSpec)

/-- ITS FALSE NEIGHBOUR: 'it returns false'. Refute it at one input. -/
def replyDecodesWrong : ChangeSpec := { name := "replyDecodes", fn := fun _ => fun
  | [d] => { results := [.lit (.bool false)], args := [d] }
  | _ => none }
def ReplyDecodesWrongFalsely : Prop := replyDecodesRow.holds Try.pinned (OpenSpec.ofChange replyDecodesWrong)

/-- 'exchequerlaw37.ReplyEncodes': WHATEVER THE INPUT: true; the input reads as it did. -/
def replyEncodesSpec : ChangeSpec := { name := "replyEncodes", fn := fun _ => fun
  | [d1, d2] => { results := [.lit (.bool true)], args := [d1, d2] }
  | _ => none }
def replyEncodesRow : OpenClaim := { program := "ytkahpaipciooiac", sum := "4125d57f07ea22942bf9a4c40ee38ed9c9b5f60350108d8f02bd8596f2283f00", func := "exchequer/exchequerlaw37.ReplyEncodes", spec := "replyEncodes", unfollowed := true, recurses := true, apart := false }
def ReplyEncodesSaid : Prop := replyEncodesRow.holds Try.pinned (OpenSpec.ofChange replyEncodesSpec)

/-- ITS FALSE NEIGHBOUR: 'it returns false'. Refute it at one input. -/
def replyEncodesWrong : ChangeSpec := { name := "replyEncodes", fn := fun _ => fun
  | [d1, d2] => { results := [.lit (.bool false)], args := [d1, d2] }
  | _ => none }
def ReplyEncodesWrongFalsely : Prop := replyEncodesRow.holds Try.pinned (OpenSpec.ofChange replyEncodesWrong)

/-- 'exchequerlaw37.ReplyBack': WHATEVER THE INPUT: true; the input reads as it did. -/
def replyBackSpec : ChangeSpec := { name := "replyBack", fn := fun _ => fun
  | [d1, d2] => { results := [.lit (.bool true)], args := [d1, d2] }
  | _ => none }
def replyBackRow : OpenClaim := { program := "ytkahpaipciooiac", sum := "4125d57f07ea22942bf9a4c40ee38ed9c9b5f60350108d8f02bd8596f2283f00", func := "exchequer/exchequerlaw37.ReplyBack", spec := "replyBack", unfollowed := true, recurses := true, apart := false }
def ReplyBackSaid : Prop := replyBackRow.holds Try.pinned (OpenSpec.ofChange replyBackSpec)

/-- ITS FALSE NEIGHBOUR: 'it returns false'. Refute it at one input. -/
def replyBackWrong : ChangeSpec := { name := "replyBack", fn := fun _ => fun
  | [d1, d2] => { results := [.lit (.bool false)], args := [d1, d2] }
  | _ => none }
def ReplyBackWrongFalsely : Prop := replyBackRow.holds Try.pinned (OpenSpec.ofChange replyBackWrong)

/-- 'exchequerlaw36.CmdDecodes': WHATEVER THE INPUT: true; the input reads as it did. -/
def cmdDecodesSpec : ChangeSpec := { name := "cmdDecodes", fn := fun _ => fun
  | [d] => { results := [.lit (.bool true)], args := [d] }
  | _ => none }
def cmdDecodesRow : OpenClaim := { program := "ytkahpaipciooiac", sum := "4125d57f07ea22942bf9a4c40ee38ed9c9b5f60350108d8f02bd8596f2283f00", func := "exchequer/exchequerlaw36.CmdDecodes", spec := "cmdDecodes", unfollowed := true, recurses := true, apart := false }
def CmdDecodesSaid : Prop := cmdDecodesRow.holds Try.pinned (OpenSpec.ofChange cmdDecodesSpec)

/-- ITS FALSE NEIGHBOUR: 'it returns false'. Refute it at one input. -/
def cmdDecodesWrong : ChangeSpec := { name := "cmdDecodes", fn := fun _ => fun
  | [d] => { results := [.lit (.bool false)], args := [d] }
  | _ => none }
def CmdDecodesWrongFalsely : Prop := cmdDecodesRow.holds Try.pinned (OpenSpec.ofChange cmdDecodesWrong)

/-- 'exchequerlaw36.CmdEncodes': WHATEVER THE INPUT: true; the input reads as it did. -/
def cmdEncodesSpec : ChangeSpec := { name := "cmdEncodes", fn := fun _ => fun
  | [d1, d2] => { results := [.lit (.bool true)], args := [d1, d2] }
  | _ => none }
def cmdEncodesRow : OpenClaim := { program := "ytkahpaipciooiac", sum := "4125d57f07ea22942bf9a4c40ee38ed9c9b5f60350108d8f02bd8596f2283f00", func := "exchequer/exchequerlaw36.CmdEncodes", spec := "cmdEncodes", unfollowed := true, recurses := true, apart := false }
def CmdEncodesSaid : Prop := cmdEncodesRow.holds Try.pinned (OpenSpec.ofChange cmdEncodesSpec)

/-- ITS FALSE NEIGHBOUR: 'it returns false'. Refute it at one input. -/
def cmdEncodesWrong : ChangeSpec := { name := "cmdEncodes", fn := fun _ => fun
  | [d1, d2] => { results := [.lit (.bool false)], args := [d1, d2] }
  | _ => none }
def CmdEncodesWrongFalsely : Prop := cmdEncodesRow.holds Try.pinned (OpenSpec.ofChange cmdEncodesWrong)

/-- 'exchequerlaw36.CmdBack': WHATEVER THE INPUT: true; the input reads as it did. -/
def cmdBackSpec : ChangeSpec := { name := "cmdBack", fn := fun _ => fun
  | [d1, d2] => { results := [.lit (.bool true)], args := [d1, d2] }
  | _ => none }
def cmdBackRow : OpenClaim := { program := "ytkahpaipciooiac", sum := "4125d57f07ea22942bf9a4c40ee38ed9c9b5f60350108d8f02bd8596f2283f00", func := "exchequer/exchequerlaw36.CmdBack", spec := "cmdBack", unfollowed := true, recurses := true, apart := false }
def CmdBackSaid : Prop := cmdBackRow.holds Try.pinned (OpenSpec.ofChange cmdBackSpec)

/-- ITS FALSE NEIGHBOUR: 'it returns false'. Refute it at one input. -/
def cmdBackWrong : ChangeSpec := { name := "cmdBack", fn := fun _ => fun
  | [d1, d2] => { results := [.lit (.bool false)], args := [d1, d2] }
  | _ => none }
def CmdBackWrongFalsely : Prop := cmdBackRow.holds Try.pinned (OpenSpec.ofChange cmdBackWrong)

/- THE SECOND FORM. 'bulk': how many values and letters a reading holds, each counted each time it is reached (what is shared counts as often as it is met; a slice's spare places count too). A statement '..UptoSaid' is the law's where the arguments, and the package variables that the reading takes, are together of bulk at most 1048576: NARROWER than '..Said'. Prove '..Said' where nothing that the law and all that it calls make is longer than what came in: it says more and counts as full. Else prove '..UptoSaid'. A law counts once. -/
mutual
def uptoBulk {H : Type} : DataW H → Nat
  | .lit (.string bytes) => bytes.length + 1
  | .lit _ => 1
  | .nil => 1
  | .ptr d => uptoBulk d + 1
  | .slice elems spare => uptoBulkAll elems + uptoBulkAll spare + 1
  | .agg parts => uptoBulkAll parts + 1
  | .iface _ d => uptoBulk d + 1
  | .map entries => uptoBulkEntries entries + 1
  | .held _ => 1
def uptoBulkAll {H : Type} : List (DataW H) → Nat
  | [] => 0
  | d :: r => uptoBulk d + uptoBulkAll r
def uptoBulkEntries {H : Type} : List (Lit × DataW H) → Nat
  | [] => 0
  | x :: r => uptoBulkEntry x + uptoBulkEntries r
def uptoBulkEntry {H : Type} : Lit × DataW H → Nat
  | (.string bytes, d) => bytes.length + uptoBulk d + 1
  | (_, d) => uptoBulk d + 1
 end
def uptoSmall : (H : Type) → List (DataW H) → Bool := fun _ ds => decide (uptoBulkAll ds ≤ 1048576)
def OpenSpec.upto (s : _root_.Go.ChangeSpec) : _root_.Go.OpenSpec := { _root_.Go.OpenSpec.ofChange s with cond := some uptoSmall }

/-- 'exchequerlaw37.ReplyDecodes', WHERE WHAT IT READS IS OF BULK AT MOST 1048576: true; the input reads as it did. -/
def replyDecodesUptoRow : OpenClaim := { program := "ytkahpaipciooiac", sum := "4125d57f07ea22942bf9a4c40ee38ed9c9b5f60350108d8f02bd8596f2283f00", func := "exchequer/exchequerlaw37.ReplyDecodes", spec := "replyDecodes", unfollowed := true, recurses := true, apart := false, narrowed := true }
def ReplyDecodesUptoSaid : Prop := replyDecodesUptoRow.holds Try.pinned (OpenSpec.upto replyDecodesSpec)

/-- 'exchequerlaw37.ReplyEncodes', WHERE WHAT IT READS IS OF BULK AT MOST 1048576: true; the input reads as it did. -/
def replyEncodesUptoRow : OpenClaim := { program := "ytkahpaipciooiac", sum := "4125d57f07ea22942bf9a4c40ee38ed9c9b5f60350108d8f02bd8596f2283f00", func := "exchequer/exchequerlaw37.ReplyEncodes", spec := "replyEncodes", unfollowed := true, recurses := true, apart := false, narrowed := true }
def ReplyEncodesUptoSaid : Prop := replyEncodesUptoRow.holds Try.pinned (OpenSpec.upto replyEncodesSpec)

/-- 'exchequerlaw37.ReplyBack', WHERE WHAT IT READS IS OF BULK AT MOST 1048576: true; the input reads as it did. -/
def replyBackUptoRow : OpenClaim := { program := "ytkahpaipciooiac", sum := "4125d57f07ea22942bf9a4c40ee38ed9c9b5f60350108d8f02bd8596f2283f00", func := "exchequer/exchequerlaw37.ReplyBack", spec := "replyBack", unfollowed := true, recurses := true, apart := false, narrowed := true }
def ReplyBackUptoSaid : Prop := replyBackUptoRow.holds Try.pinned (OpenSpec.upto replyBackSpec)

/-- 'exchequerlaw36.CmdDecodes', WHERE WHAT IT READS IS OF BULK AT MOST 1048576: true; the input reads as it did. -/
def cmdDecodesUptoRow : OpenClaim := { program := "ytkahpaipciooiac", sum := "4125d57f07ea22942bf9a4c40ee38ed9c9b5f60350108d8f02bd8596f2283f00", func := "exchequer/exchequerlaw36.CmdDecodes", spec := "cmdDecodes", unfollowed := true, recurses := true, apart := false, narrowed := true }
def CmdDecodesUptoSaid : Prop := cmdDecodesUptoRow.holds Try.pinned (OpenSpec.upto cmdDecodesSpec)

/-- 'exchequerlaw36.CmdEncodes', WHERE WHAT IT READS IS OF BULK AT MOST 1048576: true; the input reads as it did. -/
def cmdEncodesUptoRow : OpenClaim := { program := "ytkahpaipciooiac", sum := "4125d57f07ea22942bf9a4c40ee38ed9c9b5f60350108d8f02bd8596f2283f00", func := "exchequer/exchequerlaw36.CmdEncodes", spec := "cmdEncodes", unfollowed := true, recurses := true, apart := false, narrowed := true }
def CmdEncodesUptoSaid : Prop := cmdEncodesUptoRow.holds Try.pinned (OpenSpec.upto cmdEncodesSpec)

/-- 'exchequerlaw36.CmdBack', WHERE WHAT IT READS IS OF BULK AT MOST 1048576: true; the input reads as it did. -/
def cmdBackUptoRow : OpenClaim := { program := "ytkahpaipciooiac", sum := "4125d57f07ea22942bf9a4c40ee38ed9c9b5f60350108d8f02bd8596f2283f00", func := "exchequer/exchequerlaw36.CmdBack", spec := "cmdBack", unfollowed := true, recurses := true, apart := false, narrowed := true }
def CmdBackUptoSaid : Prop := cmdBackUptoRow.holds Try.pinned (OpenSpec.upto cmdBackSpec)

end Rows
end Go.Proofs.Ytkahpaipciooiac

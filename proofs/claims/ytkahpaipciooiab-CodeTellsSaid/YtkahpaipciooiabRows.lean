/-
  No cell of these rows narrows 'for every input' (looked for: loops, veiled, ifaces, maps, wideKeys, modest, calm, conditions, laid).
  DERIVED. THE GIVEN ROWS OF THIS SEAT. 6 by the template 'for every input the law returns true; each argument reads behind the call as it read before'; 0 by the template 'total and deterministic' (their statements: YtkahpaipciooiabTotals.lean).
  GIVEN WITH THE SEED: the statements are not yours to turn. If you find one false, say at which input.
  Laid BY PROGRAM, IN A SANDBOX (cutbox-rows.mjs): the forced cells as the released guide's own fill.sh prints them over the translation 1c1b12efd130f1f9… (all of the seat's roots in one cut). By AI agents, Wed Nov 11 2026. No macro, syntax, notation, axiom, sorry.
-/
import Derived.Test.YtkahpaipciooiabChecked
import GoSem.Claim
import GoSem.ClaimJoined
import GoSem.ClaimMapViews
import Derived.JoinedTies
import Derived.KernelRfl
namespace Go.Proofs.Ytkahpaipciooiab
/- THE CELL 'sum', in the pinned program and in every row, IS THE sha256 OF THE DUMP (.gsa) THAT YtkahpaipciooiabProg.lean LOADS. Nothing in Lean hashes anything: it is a label: what it is worth is what the hold of that sum in a sandbox is worth. -/
noncomputable def Try.pinned : Pinned := { name := "ytkahpaipciooiab", sum := "1c1b12efd130f1f910c775be70ab5e15feaac23fa19969f521eb6664dd835d9c", checked := Try.checked }
namespace Rows
def none {H : Type} : Left H := { results := [], args := [] }

/-- 'exchequerlaw18.KeysOrder': WHATEVER THE INPUT: true; the input reads as it did. -/
def keysOrderSpec : ChangeSpec := { name := "keysOrder", fn := fun _ => fun
  | [d1, d2, d3] => { results := [.lit (.bool true)], args := [d1, d2, d3] }
  | _ => none }
def keysOrderRow : OpenClaim := { program := "ytkahpaipciooiab", sum := "1c1b12efd130f1f910c775be70ab5e15feaac23fa19969f521eb6664dd835d9c", func := "exchequer/exchequerlaw18.KeysOrder", spec := "keysOrder", inPlace := ["internal/bytealg.Compare"], apart := false }
def KeysOrderSaid : Prop := keysOrderRow.holds Try.pinned (OpenSpec.ofChange keysOrderSpec)

/-- ITS FALSE NEIGHBOUR: 'it returns false'. Refute it at one input. -/
def keysOrderWrong : ChangeSpec := { name := "keysOrder", fn := fun _ => fun
  | [d1, d2, d3] => { results := [.lit (.bool false)], args := [d1, d2, d3] }
  | _ => none }
def KeysOrderWrongFalsely : Prop := keysOrderRow.holds Try.pinned (OpenSpec.ofChange keysOrderWrong)

/-- 'exchequerlaw19.RecsMake': WHATEVER THE INPUT: true; the input reads as it did. -/
def recsMakeSpec : ChangeSpec := { name := "recsMake", fn := fun _ => fun
  | [d1, d2, d3, d4, d5, d6] => { results := [.lit (.bool true)], args := [d1, d2, d3, d4, d5, d6] }
  | _ => none }
def recsMakeRow : OpenClaim := { program := "ytkahpaipciooiab", sum := "1c1b12efd130f1f910c775be70ab5e15feaac23fa19969f521eb6664dd835d9c", func := "exchequer/exchequerlaw19.RecsMake", spec := "recsMake", apart := false }
def RecsMakeSaid : Prop := recsMakeRow.holds Try.pinned (OpenSpec.ofChange recsMakeSpec)

/-- ITS FALSE NEIGHBOUR: 'it returns false'. Refute it at one input. -/
def recsMakeWrong : ChangeSpec := { name := "recsMake", fn := fun _ => fun
  | [d1, d2, d3, d4, d5, d6] => { results := [.lit (.bool false)], args := [d1, d2, d3, d4, d5, d6] }
  | _ => none }
def RecsMakeWrongFalsely : Prop := recsMakeRow.holds Try.pinned (OpenSpec.ofChange recsMakeWrong)

/-- 'exchequerlaw19.RecsRead': WHATEVER THE INPUT: true; the input reads as it did. -/
def recsReadSpec : ChangeSpec := { name := "recsRead", fn := fun _ => fun
  | [d] => { results := [.lit (.bool true)], args := [d] }
  | _ => none }
def recsReadRow : OpenClaim := { program := "ytkahpaipciooiab", sum := "1c1b12efd130f1f910c775be70ab5e15feaac23fa19969f521eb6664dd835d9c", func := "exchequer/exchequerlaw19.RecsRead", spec := "recsRead", apart := false }
def RecsReadSaid : Prop := recsReadRow.holds Try.pinned (OpenSpec.ofChange recsReadSpec)

/-- ITS FALSE NEIGHBOUR: 'it returns false'. Refute it at one input. -/
def recsReadWrong : ChangeSpec := { name := "recsRead", fn := fun _ => fun
  | [d] => { results := [.lit (.bool false)], args := [d] }
  | _ => none }
def RecsReadWrongFalsely : Prop := recsReadRow.holds Try.pinned (OpenSpec.ofChange recsReadWrong)

/-- 'exchequerlaw19.RecsBack': WHATEVER THE INPUT: true; the input reads as it did. -/
def recsBackSpec : ChangeSpec := { name := "recsBack", fn := fun _ => fun
  | [d1, d2, d3, d4, d5, d6] => { results := [.lit (.bool true)], args := [d1, d2, d3, d4, d5, d6] }
  | _ => none }
def recsBackRow : OpenClaim := { program := "ytkahpaipciooiab", sum := "1c1b12efd130f1f910c775be70ab5e15feaac23fa19969f521eb6664dd835d9c", func := "exchequer/exchequerlaw19.RecsBack", spec := "recsBack", apart := false }
def RecsBackSaid : Prop := recsBackRow.holds Try.pinned (OpenSpec.ofChange recsBackSpec)

/-- ITS FALSE NEIGHBOUR: 'it returns false'. Refute it at one input. -/
def recsBackWrong : ChangeSpec := { name := "recsBack", fn := fun _ => fun
  | [d1, d2, d3, d4, d5, d6] => { results := [.lit (.bool false)], args := [d1, d2, d3, d4, d5, d6] }
  | _ => none }
def RecsBackWrongFalsely : Prop := recsBackRow.holds Try.pinned (OpenSpec.ofChange recsBackWrong)

/-- 'exchequerlaw16.CodeTells': WHATEVER THE INPUT: true; the input reads as it did. -/
def codeTellsSpec : ChangeSpec := { name := "codeTells", fn := fun _ => fun
  | [d1, d2, d3] => { results := [.lit (.bool true)], args := [d1, d2, d3] }
  | _ => none }
def codeTellsRow : OpenClaim := { program := "ytkahpaipciooiab", sum := "1c1b12efd130f1f910c775be70ab5e15feaac23fa19969f521eb6664dd835d9c", func := "exchequer/exchequerlaw16.CodeTells", spec := "codeTells", inPlace := ["internal/abi.NoEscape", "internal/bytealg.MakeNoZero"], recurses := true, apart := false }
def CodeTellsSaid : Prop := codeTellsRow.holds Try.pinned (OpenSpec.ofChange codeTellsSpec)

/-- ITS FALSE NEIGHBOUR: 'it returns false'. Refute it at one input. -/
def codeTellsWrong : ChangeSpec := { name := "codeTells", fn := fun _ => fun
  | [d1, d2, d3] => { results := [.lit (.bool false)], args := [d1, d2, d3] }
  | _ => none }
def CodeTellsWrongFalsely : Prop := codeTellsRow.holds Try.pinned (OpenSpec.ofChange codeTellsWrong)

/-- 'exchequerlaw16.CodeBack': WHATEVER THE INPUT: true; the input reads as it did. -/
def codeBackSpec : ChangeSpec := { name := "codeBack", fn := fun _ => fun
  | [d1, d2, d3] => { results := [.lit (.bool true)], args := [d1, d2, d3] }
  | _ => none }
def codeBackRow : OpenClaim := { program := "ytkahpaipciooiab", sum := "1c1b12efd130f1f910c775be70ab5e15feaac23fa19969f521eb6664dd835d9c", func := "exchequer/exchequerlaw16.CodeBack", spec := "codeBack", inPlace := ["internal/abi.NoEscape", "internal/bytealg.MakeNoZero"], apart := false }
def CodeBackSaid : Prop := codeBackRow.holds Try.pinned (OpenSpec.ofChange codeBackSpec)

/-- ITS FALSE NEIGHBOUR: 'it returns false'. Refute it at one input. -/
def codeBackWrong : ChangeSpec := { name := "codeBack", fn := fun _ => fun
  | [d1, d2, d3] => { results := [.lit (.bool false)], args := [d1, d2, d3] }
  | _ => none }
def CodeBackWrongFalsely : Prop := codeBackRow.holds Try.pinned (OpenSpec.ofChange codeBackWrong)

/- THE SECOND FORM. 'bulk': how many values and letters a reading holds, each counted each time it is reached (what is shared counts as often as it is met; a slice's spare places count too). A statement '..UptoSaid' is the law's where the arguments, and the package variables that the reading takes, are together of bulk at most 1048576: NARROWER than '..Said'. Prove '..Said' where nothing that the law and all that it calls make is longer than what came in: it says more and counts as full. Else prove '..UptoSaid'. A law counts once. -/
mutual
def uptoBulk {H : Type} : DataW H → Nat
  | .lit (.string bytes) => bytes.length + 1
  | .lit _ => 1
  | .nil => 1
  | .ptr d => uptoBulk d + 1
  | .slice elems spare => uptoBulkAll elems + uptoBulkAll spare + 1
  | .agg parts => uptoBulkAll parts + 1
  | .iface _ d => uptoBulk d + 1
  | .map entries => uptoBulkEntries entries + 1
  | .held _ => 1
def uptoBulkAll {H : Type} : List (DataW H) → Nat
  | [] => 0
  | d :: r => uptoBulk d + uptoBulkAll r
def uptoBulkEntries {H : Type} : List (Lit × DataW H) → Nat
  | [] => 0
  | x :: r => uptoBulkEntry x + uptoBulkEntries r
def uptoBulkEntry {H : Type} : Lit × DataW H → Nat
  | (.string bytes, d) => bytes.length + uptoBulk d + 1
  | (_, d) => uptoBulk d + 1
 end
def uptoSmall : (H : Type) → List (DataW H) → Bool := fun _ ds => decide (uptoBulkAll ds ≤ 1048576)
def OpenSpec.upto (s : _root_.Go.ChangeSpec) : _root_.Go.OpenSpec := { _root_.Go.OpenSpec.ofChange s with cond := some uptoSmall }

/-- 'exchequerlaw18.KeysOrder', WHERE WHAT IT READS IS OF BULK AT MOST 1048576: true; the input reads as it did. -/
def keysOrderUptoRow : OpenClaim := { program := "ytkahpaipciooiab", sum := "1c1b12efd130f1f910c775be70ab5e15feaac23fa19969f521eb6664dd835d9c", func := "exchequer/exchequerlaw18.KeysOrder", spec := "keysOrder", inPlace := ["internal/bytealg.Compare"], apart := false, narrowed := true }
def KeysOrderUptoSaid : Prop := keysOrderUptoRow.holds Try.pinned (OpenSpec.upto keysOrderSpec)

/-- 'exchequerlaw19.RecsMake', WHERE WHAT IT READS IS OF BULK AT MOST 1048576: true; the input reads as it did. -/
def recsMakeUptoRow : OpenClaim := { program := "ytkahpaipciooiab", sum := "1c1b12efd130f1f910c775be70ab5e15feaac23fa19969f521eb6664dd835d9c", func := "exchequer/exchequerlaw19.RecsMake", spec := "recsMake", apart := false, narrowed := true }
def RecsMakeUptoSaid : Prop := recsMakeUptoRow.holds Try.pinned (OpenSpec.upto recsMakeSpec)

/-- 'exchequerlaw19.RecsRead', WHERE WHAT IT READS IS OF BULK AT MOST 1048576: true; the input reads as it did. -/
def recsReadUptoRow : OpenClaim := { program := "ytkahpaipciooiab", sum := "1c1b12efd130f1f910c775be70ab5e15feaac23fa19969f521eb6664dd835d9c", func := "exchequer/exchequerlaw19.RecsRead", spec := "recsRead", apart := false, narrowed := true }
def RecsReadUptoSaid : Prop := recsReadUptoRow.holds Try.pinned (OpenSpec.upto recsReadSpec)

/-- 'exchequerlaw19.RecsBack', WHERE WHAT IT READS IS OF BULK AT MOST 1048576: true; the input reads as it did. -/
def recsBackUptoRow : OpenClaim := { program := "ytkahpaipciooiab", sum := "1c1b12efd130f1f910c775be70ab5e15feaac23fa19969f521eb6664dd835d9c", func := "exchequer/exchequerlaw19.RecsBack", spec := "recsBack", apart := false, narrowed := true }
def RecsBackUptoSaid : Prop := recsBackUptoRow.holds Try.pinned (OpenSpec.upto recsBackSpec)

/-- 'exchequerlaw16.CodeTells', WHERE WHAT IT READS IS OF BULK AT MOST 1048576: true; the input reads as it did. -/
def codeTellsUptoRow : OpenClaim := { program := "ytkahpaipciooiab", sum := "1c1b12efd130f1f910c775be70ab5e15feaac23fa19969f521eb6664dd835d9c", func := "exchequer/exchequerlaw16.CodeTells", spec := "codeTells", inPlace := ["internal/abi.NoEscape", "internal/bytealg.MakeNoZero"], recurses := true, apart := false, narrowed := true }
def CodeTellsUptoSaid : Prop := codeTellsUptoRow.holds Try.pinned (OpenSpec.upto codeTellsSpec)

/-- 'exchequerlaw16.CodeBack', WHERE WHAT IT READS IS OF BULK AT MOST 1048576: true; the input reads as it did. -/
def codeBackUptoRow : OpenClaim := { program := "ytkahpaipciooiab", sum := "1c1b12efd130f1f910c775be70ab5e15feaac23fa19969f521eb6664dd835d9c", func := "exchequer/exchequerlaw16.CodeBack", spec := "codeBack", inPlace := ["internal/abi.NoEscape", "internal/bytealg.MakeNoZero"], apart := false, narrowed := true }
def CodeBackUptoSaid : Prop := codeBackUptoRow.holds Try.pinned (OpenSpec.upto codeBackSpec)

end Rows
end Go.Proofs.Ytkahpaipciooiab

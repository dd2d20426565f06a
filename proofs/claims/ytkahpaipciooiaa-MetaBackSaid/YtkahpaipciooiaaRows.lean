/-
  No cell of these rows narrows 'for every input' (looked for: loops, veiled, ifaces, maps, wideKeys, modest, calm, conditions, laid).
  DERIVED. THE GIVEN ROWS OF THIS SEAT. 3 by the template 'for every input the law returns true; each argument reads behind the call as it read before'; 0 by the template 'total and deterministic' (their statements: YtkahpaipciooiaaTotals.lean).
  GIVEN WITH THE SEED: the statements are not yours to turn. If you find one false, say at which input.
  Laid BY PROGRAM, IN A SANDBOX (cutbox-rows.mjs): the forced cells as the released guide's own fill.sh prints them over the translation 8b0f6c49bface3f0… (all of the seat's roots in one cut). By AI agents, Wed Nov 11 2026. No macro, syntax, notation, axiom, sorry.
-/
import Derived.Test.YtkahpaipciooiaaChecked
import GoSem.Claim
import GoSem.ClaimJoined
import GoSem.ClaimMapViews
import Derived.JoinedTies
import Derived.KernelRfl
namespace Go.Proofs.Ytkahpaipciooiaa
/- THE CELL 'sum', in the pinned program and in every row, IS THE sha256 OF THE DUMP (.gsa) THAT YtkahpaipciooiaaProg.lean LOADS. Nothing in Lean hashes anything: it is a label: what it is worth is what the hold of that sum in a sandbox is worth. -/
noncomputable def Try.pinned : Pinned := { name := "ytkahpaipciooiaa", sum := "8b0f6c49bface3f0109d8688a69fe648c6b65a694000a0891dee66dca5b2da65", checked := Try.checked }
namespace Rows
def none {H : Type} : Left H := { results := [], args := [] }

/-- 'exchequerlaw08.MetaParses': WHATEVER THE INPUT: true; the input reads as it did. -/
def metaParsesSpec : ChangeSpec := { name := "metaParses", fn := fun _ => fun
  | [d] => { results := [.lit (.bool true)], args := [d] }
  | _ => none }
def metaParsesRow : OpenClaim := { program := "ytkahpaipciooiaa", sum := "8b0f6c49bface3f0109d8688a69fe648c6b65a694000a0891dee66dca5b2da65", func := "exchequer/exchequerlaw08.MetaParses", spec := "metaParses", unfollowed := true, recurses := true, apart := false }
def MetaParsesSaid : Prop := metaParsesRow.holds Try.pinned (OpenSpec.ofChange metaParsesSpec)

/-- ITS FALSE NEIGHBOUR: 'it returns false'. Refute it at one input. -/
def metaParsesWrong : ChangeSpec := { name := "metaParses", fn := fun _ => fun
  | [d] => { results := [.lit (.bool false)], args := [d] }
  | _ => none }
def MetaParsesWrongFalsely : Prop := metaParsesRow.holds Try.pinned (OpenSpec.ofChange metaParsesWrong)

/-- 'exchequerlaw08.MetaPuts': WHATEVER THE INPUT: true; the input reads as it did. -/
def metaPutsSpec : ChangeSpec := { name := "metaPuts", fn := fun _ => fun
  | [d1, d2] => { results := [.lit (.bool true)], args := [d1, d2] }
  | _ => none }
def metaPutsRow : OpenClaim := { program := "ytkahpaipciooiaa", sum := "8b0f6c49bface3f0109d8688a69fe648c6b65a694000a0891dee66dca5b2da65", func := "exchequer/exchequerlaw08.MetaPuts", spec := "metaPuts", unfollowed := true, recurses := true, apart := false }
def MetaPutsSaid : Prop := metaPutsRow.holds Try.pinned (OpenSpec.ofChange metaPutsSpec)

/-- ITS FALSE NEIGHBOUR: 'it returns false'. Refute it at one input. -/
def metaPutsWrong : ChangeSpec := { name := "metaPuts", fn := fun _ => fun
  | [d1, d2] => { results := [.lit (.bool false)], args := [d1, d2] }
  | _ => none }
def MetaPutsWrongFalsely : Prop := metaPutsRow.holds Try.pinned (OpenSpec.ofChange metaPutsWrong)

/-- 'exchequerlaw08.MetaBack': WHATEVER THE INPUT: true; the input reads as it did. -/
def metaBackSpec : ChangeSpec := { name := "metaBack", fn := fun _ => fun
  | [d1, d2] => { results := [.lit (.bool true)], args := [d1, d2] }
  | _ => none }
def metaBackRow : OpenClaim := { program := "ytkahpaipciooiaa", sum := "8b0f6c49bface3f0109d8688a69fe648c6b65a694000a0891dee66dca5b2da65", func := "exchequer/exchequerlaw08.MetaBack", spec := "metaBack", unfollowed := true, recurses := true, apart := false }
def MetaBackSaid : Prop := metaBackRow.holds Try.pinned (OpenSpec.ofChange metaBackSpec)

/-- ITS FALSE NEIGHBOUR: 'it returns false'. Refute it at one input. -/
def metaBackWrong : ChangeSpec := { name := "metaBack", fn := fun _ => fun
  | [d1, d2] => { results := [.lit (.bool false)], args := [d1, d2] }
  | _ => none }
def MetaBackWrongFalsely : Prop := metaBackRow.holds Try.pinned (OpenSpec.ofChange metaBackWrong)

/- THE SECOND FORM. 'bulk': how many values and letters a reading holds, each counted each time it is reached (what is shared counts as often as it is met; a slice's spare places count too). A statement '..UptoSaid' is the law's where the arguments, and the package variables that the reading takes, are together of bulk at most 1048576: NARROWER than '..Said'. Prove '..Said' where nothing that the law and all that it calls make is longer than what came in: it says more and counts as full. Else prove '..UptoSaid'. A law counts once. -/
mutual
def uptoBulk {H : Type} : DataW H → Nat
  | .lit (.string bytes) => bytes.length + 1
  | .lit _ => 1
  | .nil => 1
  | .ptr d => uptoBulk d + 1
  | .slice elems spare => uptoBulkAll elems + uptoBulkAll spare + 1
  | .agg parts => uptoBulkAll parts + 1
  | .iface _ d => uptoBulk d + 1
  | .map entries => uptoBulkEntries entries + 1
  | .held _ => 1
def uptoBulkAll {H : Type} : List (DataW H) → Nat
  | [] => 0
  | d :: r => uptoBulk d + uptoBulkAll r
def uptoBulkEntries {H : Type} : List (Lit × DataW H) → Nat
  | [] => 0
  | x :: r => uptoBulkEntry x + uptoBulkEntries r
def uptoBulkEntry {H : Type} : Lit × DataW H → Nat
  | (.string bytes, d) => bytes.length + uptoBulk d + 1
  | (_, d) => uptoBulk d + 1
 end
def uptoSmall : (H : Type) → List (DataW H) → Bool := fun _ ds => decide (uptoBulkAll ds ≤ 1048576)
def OpenSpec.upto (s : _root_.Go.ChangeSpec) : _root_.Go.OpenSpec := { _root_.Go.OpenSpec.ofChange s with cond := some uptoSmall }

/-- 'exchequerlaw08.MetaParses', WHERE WHAT IT READS IS OF BULK AT MOST 1048576: true; the input reads as it did. -/
def metaParsesUptoRow : OpenClaim := { program := "ytkahpaipciooiaa", sum := "8b0f6c49bface3f0109d8688a69fe648c6b65a694000a0891dee66dca5b2da65", func := "exchequer/exchequerlaw08.MetaParses", spec := "metaParses", unfollowed := true, recurses := true, apart := false, narrowed := true }
def MetaParsesUptoSaid : Prop := metaParsesUptoRow.holds Try.pinned (OpenSpec.upto metaParsesSpec)

/-- 'exchequerlaw08.MetaPuts', WHERE WHAT IT READS IS OF BULK AT MOST 1048576: true; the input reads as it did. -/
def metaPutsUptoRow : OpenClaim := { program := "ytkahpaipciooiaa", sum := "8b0f6c49bface3f0109d8688a69fe648c6b65a694000a0891dee66dca5b2da65", func := "exchequer/exchequerlaw08.MetaPuts", spec := "metaPuts", unfollowed := true, recurses := true, apart := false, narrowed := true }
def MetaPutsUptoSaid : Prop := metaPutsUptoRow.holds Try.pinned (OpenSpec.upto metaPutsSpec)

/-- 'exchequerlaw08.MetaBack', WHERE WHAT IT READS IS OF BULK AT MOST 1048576: true; the input reads as it did. -/
def metaBackUptoRow : OpenClaim := { program := "ytkahpaipciooiaa", sum := "8b0f6c49bface3f0109d8688a69fe648c6b65a694000a0891dee66dca5b2da65", func := "exchequer/exchequerlaw08.MetaBack", spec := "metaBack", unfollowed := true, recurses := true, apart := false, narrowed := true }
def MetaBackUptoSaid : Prop := metaBackUptoRow.holds Try.pinned (OpenSpec.upto metaBackSpec)

end Rows
end Go.Proofs.Ytkahpaipciooiaa

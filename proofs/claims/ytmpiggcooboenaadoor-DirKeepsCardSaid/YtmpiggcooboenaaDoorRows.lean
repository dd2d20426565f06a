/-
  NARROWER THAN 'FOR EVERY INPUT', by the rows' own cells (each row's printed sentence says how): DirLives: laid · DirKeeps: laid · RedoNobody: laid · RedoWrites: laid · RedoAtomic: laid · RedoLives: laid.
  DERIVED. THE GIVEN ROWS OF THIS SEAT. 6 by the template 'for every input the law returns true; each argument reads behind the call as it read before'; 0 by the template 'total and deterministic' (their statements: YtmpiggcooboenaaDoorTotals.lean).
  GIVEN WITH THE SEED: the statements are not yours to turn. If you find one false, say at which input.
  Laid BY PROGRAM, IN A SANDBOX (cutbox-rows.mjs): the forced cells as the released guide's own fill.sh prints them over the translation 79f152a256e16939… (all of the seat's roots in one cut). By AI agents, Wed Nov 11 2026. No macro, syntax, notation, axiom, sorry.
-/
import Derived.Test.YtmpiggcooboenaaDoorChecked
import GoSem.Claim
import GoSem.ClaimJoined
import GoSem.ClaimMapViews
import Derived.JoinedTies
import Derived.KernelRfl
namespace Go.Proofs.YtmpiggcooboenaaDoor
/- THE CELL 'sum', in the pinned program and in every row, IS THE sha256 OF THE DUMP (.gsa) THAT YtmpiggcooboenaaDoorProg.lean LOADS. Nothing in Lean hashes anything: it is a label: what it is worth is what the hold of that sum in a sandbox is worth. -/
noncomputable def Tryd.pinned : Pinned := { name := "ytmpiggcooboenaadoor", sum := "79f152a256e16939d8ce88075c80e1e090a39f39feb64ffa5cf7f03f01f5c6cd", checked := Tryd.checked }
namespace Rows
def none {H : Type} : Left H := { results := [], args := [] }

/- WHAT THE LISTED PACKAGE-LEVEL VARIABLES READ AS WHEN THE CALL BEGINS. Each datum BY PROGRAM (the guide's laid-datum.mjs) off the statement by which the dump's own 'gosem.cut.vars' lays the variable. In a bare row this is a premise. The card (YtmpiggcooboenaaDoorCards.lean) ties it to the program's text. -/
def laid_exchequer_crc_nibbles {H : Type} : DataW H := .agg [.lit (.int .u32 0), .lit (.int .u32 498536548), .lit (.int .u32 997073096), .lit (.int .u32 651767980), .lit (.int .u32 1994146192), .lit (.int .u32 1802195444), .lit (.int .u32 1303535960), .lit (.int .u32 1342533948), .lit (.int .u32 3988292384), .lit (.int .u32 4027552580), .lit (.int .u32 3604390888), .lit (.int .u32 3412177804), .lit (.int .u32 2607071920), .lit (.int .u32 2262029012), .lit (.int .u32 2685067896), .lit (.int .u32 3183342108)]

/-- 'exchequerlaw11.DirLives': WHATEVER THE INPUT: true; the input reads as it did. -/
def dirLivesSpec : ChangeSpec := { name := "dirLives", fn := fun _ => fun
  | [d1, d2, d3] => { results := [.lit (.bool true)], args := [d1, d2, d3] }
  | _ => none }
def dirLivesRow : OpenClaim := { program := "ytmpiggcooboenaadoor", sum := "79f152a256e16939d8ce88075c80e1e090a39f39feb64ffa5cf7f03f01f5c6cd", func := "exchequer/exchequerlaw11.DirLives", spec := "dirLives", unfollowed := true, recurses := true, named := ["exchequer/crc.nibbles"], apart := false, laid := [("exchequer/crc.nibbles", laid_exchequer_crc_nibbles)] }
def DirLivesSaid : Prop := dirLivesRow.holds Tryd.pinned (OpenSpec.ofChange dirLivesSpec)

/-- ITS FALSE NEIGHBOUR: 'it returns false'. Refute it at one input. -/
def dirLivesWrong : ChangeSpec := { name := "dirLives", fn := fun _ => fun
  | [d1, d2, d3] => { results := [.lit (.bool false)], args := [d1, d2, d3] }
  | _ => none }
def DirLivesWrongFalsely : Prop := dirLivesRow.holds Tryd.pinned (OpenSpec.ofChange dirLivesWrong)

/-- 'exchequerlaw11.DirKeeps': WHATEVER THE INPUT: true; the input reads as it did. -/
def dirKeepsSpec : ChangeSpec := { name := "dirKeeps", fn := fun _ => fun
  | [d1, d2, d3, d4] => { results := [.lit (.bool true)], args := [d1, d2, d3, d4] }
  | _ => none }
def dirKeepsRow : OpenClaim := { program := "ytmpiggcooboenaadoor", sum := "79f152a256e16939d8ce88075c80e1e090a39f39feb64ffa5cf7f03f01f5c6cd", func := "exchequer/exchequerlaw11.DirKeeps", spec := "dirKeeps", unfollowed := true, recurses := true, named := ["exchequer/crc.nibbles"], apart := false, laid := [("exchequer/crc.nibbles", laid_exchequer_crc_nibbles)] }
def DirKeepsSaid : Prop := dirKeepsRow.holds Tryd.pinned (OpenSpec.ofChange dirKeepsSpec)

/-- ITS FALSE NEIGHBOUR: 'it returns false'. Refute it at one input. -/
def dirKeepsWrong : ChangeSpec := { name := "dirKeeps", fn := fun _ => fun
  | [d1, d2, d3, d4] => { results := [.lit (.bool false)], args := [d1, d2, d3, d4] }
  | _ => none }
def DirKeepsWrongFalsely : Prop := dirKeepsRow.holds Tryd.pinned (OpenSpec.ofChange dirKeepsWrong)

/-- 'exchequerlaw06.RedoNobody': WHATEVER THE INPUT: true; the input reads as it did. -/
def redoNobodySpec : ChangeSpec := { name := "redoNobody", fn := fun _ => fun
  | [d] => { results := [.lit (.bool true)], args := [d] }
  | _ => none }
def redoNobodyRow : OpenClaim := { program := "ytmpiggcooboenaadoor", sum := "79f152a256e16939d8ce88075c80e1e090a39f39feb64ffa5cf7f03f01f5c6cd", func := "exchequer/exchequerlaw06.RedoNobody", spec := "redoNobody", inPlace := ["internal/bytealg.MakeNoZero"], unfollowed := true, recurses := true, named := ["exchequer/crc.nibbles"], apart := false, laid := [("exchequer/crc.nibbles", laid_exchequer_crc_nibbles)] }
def RedoNobodySaid : Prop := redoNobodyRow.holds Tryd.pinned (OpenSpec.ofChange redoNobodySpec)

/-- ITS FALSE NEIGHBOUR: 'it returns false'. Refute it at one input. -/
def redoNobodyWrong : ChangeSpec := { name := "redoNobody", fn := fun _ => fun
  | [d] => { results := [.lit (.bool false)], args := [d] }
  | _ => none }
def RedoNobodyWrongFalsely : Prop := redoNobodyRow.holds Tryd.pinned (OpenSpec.ofChange redoNobodyWrong)

/-- 'exchequerlaw06.RedoWrites': WHATEVER THE INPUT: true; the input reads as it did. -/
def redoWritesSpec : ChangeSpec := { name := "redoWrites", fn := fun _ => fun
  | [d] => { results := [.lit (.bool true)], args := [d] }
  | _ => none }
def redoWritesRow : OpenClaim := { program := "ytmpiggcooboenaadoor", sum := "79f152a256e16939d8ce88075c80e1e090a39f39feb64ffa5cf7f03f01f5c6cd", func := "exchequer/exchequerlaw06.RedoWrites", spec := "redoWrites", inPlace := ["internal/bytealg.MakeNoZero"], unfollowed := true, recurses := true, named := ["exchequer/crc.nibbles"], apart := false, laid := [("exchequer/crc.nibbles", laid_exchequer_crc_nibbles)] }
def RedoWritesSaid : Prop := redoWritesRow.holds Tryd.pinned (OpenSpec.ofChange redoWritesSpec)

/-- ITS FALSE NEIGHBOUR: 'it returns false'. Refute it at one input. -/
def redoWritesWrong : ChangeSpec := { name := "redoWrites", fn := fun _ => fun
  | [d] => { results := [.lit (.bool false)], args := [d] }
  | _ => none }
def RedoWritesWrongFalsely : Prop := redoWritesRow.holds Tryd.pinned (OpenSpec.ofChange redoWritesWrong)

/-- 'exchequerlaw06.RedoAtomic': WHATEVER THE INPUT: true; the input reads as it did. -/
def redoAtomicSpec : ChangeSpec := { name := "redoAtomic", fn := fun _ => fun
  | [d1, d2, d3, d4, d5, d6] => { results := [.lit (.bool true)], args := [d1, d2, d3, d4, d5, d6] }
  | _ => none }
def redoAtomicRow : OpenClaim := { program := "ytmpiggcooboenaadoor", sum := "79f152a256e16939d8ce88075c80e1e090a39f39feb64ffa5cf7f03f01f5c6cd", func := "exchequer/exchequerlaw06.RedoAtomic", spec := "redoAtomic", inPlace := ["internal/bytealg.MakeNoZero"], unfollowed := true, recurses := true, named := ["exchequer/crc.nibbles"], apart := false, laid := [("exchequer/crc.nibbles", laid_exchequer_crc_nibbles)] }
def RedoAtomicSaid : Prop := redoAtomicRow.holds Tryd.pinned (OpenSpec.ofChange redoAtomicSpec)

/-- ITS FALSE NEIGHBOUR: 'it returns false'. Refute it at one input. -/
def redoAtomicWrong : ChangeSpec := { name := "redoAtomic", fn := fun _ => fun
  | [d1, d2, d3, d4, d5, d6] => { results := [.lit (.bool false)], args := [d1, d2, d3, d4, d5, d6] }
  | _ => none }
def RedoAtomicWrongFalsely : Prop := redoAtomicRow.holds Tryd.pinned (OpenSpec.ofChange redoAtomicWrong)

/-- 'exchequerlaw06.RedoLives': WHATEVER THE INPUT: true; the input reads as it did. -/
def redoLivesSpec : ChangeSpec := { name := "redoLives", fn := fun _ => fun
  | [d1, d2] => { results := [.lit (.bool true)], args := [d1, d2] }
  | _ => none }
def redoLivesRow : OpenClaim := { program := "ytmpiggcooboenaadoor", sum := "79f152a256e16939d8ce88075c80e1e090a39f39feb64ffa5cf7f03f01f5c6cd", func := "exchequer/exchequerlaw06.RedoLives", spec := "redoLives", inPlace := ["internal/bytealg.MakeNoZero"], unfollowed := true, recurses := true, named := ["exchequer/crc.nibbles"], apart := false, laid := [("exchequer/crc.nibbles", laid_exchequer_crc_nibbles)] }
def RedoLivesSaid : Prop := redoLivesRow.holds Tryd.pinned (OpenSpec.ofChange redoLivesSpec)

/-- ITS FALSE NEIGHBOUR: 'it returns false'. Refute it at one input. -/
def redoLivesWrong : ChangeSpec := { name := "redoLives", fn := fun _ => fun
  | [d1, d2] => { results := [.lit (.bool false)], args := [d1, d2] }
  | _ => none }
def RedoLivesWrongFalsely : Prop := redoLivesRow.holds Tryd.pinned (OpenSpec.ofChange redoLivesWrong)

/- THE SECOND FORM. 'bulk': how many values and letters a reading holds, each counted each time it is reached (what is shared counts as often as it is met; a slice's spare places count too). A statement '..UptoSaid' is the law's where the arguments, and the package variables that the reading takes, are together of bulk at most 1048576: NARROWER than '..Said'. Prove '..Said' where nothing that the law and all that it calls make is longer than what came in: it says more and counts as full. Else prove '..UptoSaid'. A law counts once. -/
mutual
def uptoBulk {H : Type} : DataW H → Nat
  | .lit (.string bytes) => bytes.length + 1
  | .lit _ => 1
  | .nil => 1
  | .ptr d => uptoBulk d + 1
  | .slice elems spare => uptoBulkAll elems + uptoBulkAll spare + 1
  | .agg parts => uptoBulkAll parts + 1
  | .iface _ d => uptoBulk d + 1
  | .map entries => uptoBulkEntries entries + 1
  | .held _ => 1
def uptoBulkAll {H : Type} : List (DataW H) → Nat
  | [] => 0
  | d :: r => uptoBulk d + uptoBulkAll r
def uptoBulkEntries {H : Type} : List (Lit × DataW H) → Nat
  | [] => 0
  | x :: r => uptoBulkEntry x + uptoBulkEntries r
def uptoBulkEntry {H : Type} : Lit × DataW H → Nat
  | (.string bytes, d) => bytes.length + uptoBulk d + 1
  | (_, d) => uptoBulk d + 1
 end
def uptoSmall : (H : Type) → List (DataW H) → Bool := fun _ ds => decide (uptoBulkAll ds ≤ 1048576)
def OpenSpec.upto (s : _root_.Go.ChangeSpec) : _root_.Go.OpenSpec := { _root_.Go.OpenSpec.ofChange s with cond := some uptoSmall }

/-- 'exchequerlaw11.DirLives', WHERE WHAT IT READS IS OF BULK AT MOST 1048576: true; the input reads as it did. -/
def dirLivesUptoRow : OpenClaim := { program := "ytmpiggcooboenaadoor", sum := "79f152a256e16939d8ce88075c80e1e090a39f39feb64ffa5cf7f03f01f5c6cd", func := "exchequer/exchequerlaw11.DirLives", spec := "dirLives", unfollowed := true, recurses := true, named := ["exchequer/crc.nibbles"], apart := false, laid := [("exchequer/crc.nibbles", laid_exchequer_crc_nibbles)], narrowed := true }
def DirLivesUptoSaid : Prop := dirLivesUptoRow.holds Tryd.pinned (OpenSpec.upto dirLivesSpec)

/-- 'exchequerlaw11.DirKeeps', WHERE WHAT IT READS IS OF BULK AT MOST 1048576: true; the input reads as it did. -/
def dirKeepsUptoRow : OpenClaim := { program := "ytmpiggcooboenaadoor", sum := "79f152a256e16939d8ce88075c80e1e090a39f39feb64ffa5cf7f03f01f5c6cd", func := "exchequer/exchequerlaw11.DirKeeps", spec := "dirKeeps", unfollowed := true, recurses := true, named := ["exchequer/crc.nibbles"], apart := false, laid := [("exchequer/crc.nibbles", laid_exchequer_crc_nibbles)], narrowed := true }
def DirKeepsUptoSaid : Prop := dirKeepsUptoRow.holds Tryd.pinned (OpenSpec.upto dirKeepsSpec)

/-- 'exchequerlaw06.RedoNobody', WHERE WHAT IT READS IS OF BULK AT MOST 1048576: true; the input reads as it did. -/
def redoNobodyUptoRow : OpenClaim := { program := "ytmpiggcooboenaadoor", sum := "79f152a256e16939d8ce88075c80e1e090a39f39feb64ffa5cf7f03f01f5c6cd", func := "exchequer/exchequerlaw06.RedoNobody", spec := "redoNobody", inPlace := ["internal/bytealg.MakeNoZero"], unfollowed := true, recurses := true, named := ["exchequer/crc.nibbles"], apart := false, laid := [("exchequer/crc.nibbles", laid_exchequer_crc_nibbles)], narrowed := true }
def RedoNobodyUptoSaid : Prop := redoNobodyUptoRow.holds Tryd.pinned (OpenSpec.upto redoNobodySpec)

/-- 'exchequerlaw06.RedoWrites', WHERE WHAT IT READS IS OF BULK AT MOST 1048576: true; the input reads as it did. -/
def redoWritesUptoRow : OpenClaim := { program := "ytmpiggcooboenaadoor", sum := "79f152a256e16939d8ce88075c80e1e090a39f39feb64ffa5cf7f03f01f5c6cd", func := "exchequer/exchequerlaw06.RedoWrites", spec := "redoWrites", inPlace := ["internal/bytealg.MakeNoZero"], unfollowed := true, recurses := true, named := ["exchequer/crc.nibbles"], apart := false, laid := [("exchequer/crc.nibbles", laid_exchequer_crc_nibbles)], narrowed := true }
def RedoWritesUptoSaid : Prop := redoWritesUptoRow.holds Tryd.pinned (OpenSpec.upto redoWritesSpec)

/-- 'exchequerlaw06.RedoAtomic', WHERE WHAT IT READS IS OF BULK AT MOST 1048576: true; the input reads as it did. -/
def redoAtomicUptoRow : OpenClaim := { program := "ytmpiggcooboenaadoor", sum := "79f152a256e16939d8ce88075c80e1e090a39f39feb64ffa5cf7f03f01f5c6cd", func := "exchequer/exchequerlaw06.RedoAtomic", spec := "redoAtomic", inPlace := ["internal/bytealg.MakeNoZero"], unfollowed := true, recurses := true, named := ["exchequer/crc.nibbles"], apart := false, laid := [("exchequer/crc.nibbles", laid_exchequer_crc_nibbles)], narrowed := true }
def RedoAtomicUptoSaid : Prop := redoAtomicUptoRow.holds Tryd.pinned (OpenSpec.upto redoAtomicSpec)

/-- 'exchequerlaw06.RedoLives', WHERE WHAT IT READS IS OF BULK AT MOST 1048576: true; the input reads as it did. -/
def redoLivesUptoRow : OpenClaim := { program := "ytmpiggcooboenaadoor", sum := "79f152a256e16939d8ce88075c80e1e090a39f39feb64ffa5cf7f03f01f5c6cd", func := "exchequer/exchequerlaw06.RedoLives", spec := "redoLives", inPlace := ["internal/bytealg.MakeNoZero"], unfollowed := true, recurses := true, named := ["exchequer/crc.nibbles"], apart := false, laid := [("exchequer/crc.nibbles", laid_exchequer_crc_nibbles)], narrowed := true }
def RedoLivesUptoSaid : Prop := redoLivesUptoRow.holds Tryd.pinned (OpenSpec.upto redoLivesSpec)

end Rows
end Go.Proofs.YtmpiggcooboenaaDoor

/- Disks: calls as arguments; numbers below 16. -/
import Derived.Test.YtlkdbmoocajjlaaDskAwake
import Derived.Test.YtlkdbmoocajjlaaAlStruct
namespace Go.Proofs.Ytlkdbmoocajjlaa.Al
open Go Go.Al Go.Proofs Go.RowKit
set_option maxHeartbeats 8000000
set_option linter.unusedVariables false
set_option linter.unusedSimpArgs false
/-- A call, as it lies in memory. -/
structure DoR where
  op : Int
  i : Int
  byte : UInt8
  keep : List Int
  A : Option Addr
  c : Nat
def doC (r : DoR) : List Value := [.int .i64 r.op, .int .i64 r.i, .int .u8 r.byte.toNat, .slice r.A r.keep.length r.c]
theorem doC_len (r : DoR) : (doC r).length = 4 := rfl
abbrev doK : Kind (Int × (Int × (Int × (List Int)))) := kPair 1 (kInt .i64) (kPair 1 (kInt .i64) (kPair 1 (kInt .u8) (kSlice 1 (kInt .i64))))
abbrev doWf : Int × (Int × (Int × (List Int))) → Prop := (fun p => (fun n => (Lit.int .i64 n).wf = true) p.1 ∧ (fun p => (fun n => (Lit.int .i64 n).wf = true) p.1 ∧ (fun p => (fun n => (Lit.int .u8 n).wf = true) p.1 ∧ (fun xs => xs.length ≤ maxLen ∧ ∀ x ∈ xs, (fun n => (Lit.int .i64 n).wf = true) x) p.2) p.2) p.2)
structure DoOk (F : Heap) (r : DoR) : Prop where
  row : RowAt F r.A (r.keep.map (.int .i64))
  cap : r.keep.length ≤ r.c
  i : -9223372036854775808 ≤ r.i ∧ r.i < 9223372036854775808
theorem DoOk.mono {F G : Heap} {r : DoR} (h : DoOk F r) (hE : Ext F G) : DoOk G r := ⟨h.row.mono hE, h.cap, h.i⟩
theorem do_open {F : Heap} {A : Option Addr} {xs : List (Int × (Int × (Int × (List Int))))} (w : ∀ x ∈ xs, doWf x) (h : Elems F A 4 doK xs) : ∃ rs : List DoR, rs.length = xs.length ∧ RowAt F A (rowS doC rs) ∧ ∀ r ∈ rs, DoOk F r := by
  obtain ⟨rs, h1, h2, h3⟩ := rowS_open (f := doC) (Q := fun r _ => DoOk F r) doC_len (by decide) w h (by
    rintro ⟨op, i, x, keep⟩ c hw hK
    obtain ⟨c1, d1, rfl, hl1, rfl, c2, d2, rfl, hl2, rfl, c3, d3, rfl, hl3, rfl, A', cc, rfl, hc, hE⟩ := hK
    obtain ⟨l, hl⟩ := bytes_of_wf (xs := [x]) (by intro y hy; rw [List.mem_singleton.1 hy]; exact hw.2.2.1)
    match l, hl with
    | [b], hl =>
      obtain rfl : x = (b.toNat : Int) := by simpa using hl
      exact ⟨⟨op, i, b, keep, A', cc⟩, rfl, elems_ints hE, hc, wf_i64 hw.2.1⟩)
  refine ⟨rs, h1, h2, fun r hr => ?_⟩
  obtain ⟨j, hj, rfl⟩ := List.getElem_of_mem hr
  exact h3 j _ _ (List.getElem?_eq_getElem hj) (List.getElem?_eq_getElem (by omega))
/-- The last four bits. -/
def i15 (a : Int) : Nat := (BitVec.ofInt 64 a &&& BitVec.ofInt 64 15).toNat
theorem i15_lt (a : Int) : i15 a < 16 := by
  unfold i15
  rw [BitVec.toNat_and]
  have := Nat.and_le_right (n := (BitVec.ofInt 64 a).toNat) (m := (BitVec.ofInt 64 15).toNat)
  have h : (BitVec.ofInt 64 15).toNat = 15 := by decide
  omega
theorem wrap_i15 (a : Int) : IntKind.i64.wrap ((i15 a : Nat) : Int) = ((i15 a : Nat) : Int) := wrap_eq (by omega) (by have := i15_lt a; omega)
theorem dk_size {D F : Heap} {b : Nat} {s : DS} (hE : Ext D F) (hD : Dk D b s) : FnK Try.prog 16 #[.pointer (some ⟨b, 0, none⟩)] F (fun v F' => v = .int .i64 s.size ∧ F' = F) := by
  obtain ⟨hw, ms, mf, S, lS, lF, G, hP⟩ := hD
  exact size (hE _ _ hP.cell) (by have := hw.sz; omega)
theorem dk_writes {D F : Heap} {b : Nat} {s : DS} (hE : Ext D F) (hD : Dk D b s) : FnK Try.prog 14 #[.pointer (some ⟨b, 0, none⟩)] F (fun v F' => v = .int .i64 s.writes ∧ F' = F) := by
  obtain ⟨hw, ms, mf, S, lS, lF, G, hP⟩ := hD
  exact writes (hE _ _ hP.cell) (by have := hw.sz; omega)
theorem dk_down {D F : Heap} {b : Nat} {s : DS} (hE : Ext D F) (hD : Dk D b s) : FnK Try.prog 15 #[.pointer (some ⟨b, 0, none⟩)] F (fun v F' => v = .bool s.down ∧ F' = F) := by
  obtain ⟨hw, ms, mf, S, lS, lF, G, hP⟩ := hD
  exact down (hE _ _ hP.cell) (by have := hw.sz; omega)
/-- A write of a sector of one byte. -/
theorem writeSec {D F F0 : Heap} {b : Nat} {s : DS} {u : Value} (x : UInt8) (hE : Ext D F0) (hD : Dk D b s) (hr : NewRow F0 F u (List.replicate 256 x)) (hE2 : Ext F0 F) (i : Int) (hw : s.writes < 1000000000) :
    FnK Try.prog 28 #[.pointer (some ⟨b, 0, none⟩), .int .i64 i, u] F (fun v F' => v = .int .i64 (writeE s i (List.replicate 256 x)) ∧ ∃ D', Moves D F0 D' F' ∧ Dk D' b (writeS s i (List.replicate 256 x))) := by
  obtain ⟨R, A, c, rfl, hc, hR, hA, hrow⟩ := newRow_apart hE hr
  have hM := Moves.ext hE hE2
  refine (write hM.inn hD hR hA (List.replicate 256 x) A c hrow (by rw [List.length_replicate]; decide) i hw).mono ?_
  rintro v F' ⟨rfl, D', hM', hD'⟩
  exact ⟨rfl, D', hM.trans hM', hD'⟩
end Go.Proofs.Ytlkdbmoocajjlaa.Al

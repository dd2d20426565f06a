/- Meta as an argument; its page or the refusal, in one contract. -/
import Derived.Test.YtkahpaipciooiaaMetaLaw
namespace Go.Proofs.Ytkahpaipciooiaa.Al
open Go Go.Al Go.Proofs Go.RowKit
set_option maxHeartbeats 8000000
set_option maxRecDepth 100000
set_option linter.unusedVariables false
set_option linter.unusedSimpArgs false
theorem meta_open {F : Heap} {x : Int × Int × Int × Int × List Int} {cs : Array Value} (h : (kPair 1 (kInt .i64) (kPair 1 (kInt .i64) (kPair 1 (kInt .i64) (kPair 1 (kInt .i64) (kSlice 1 (kInt .i64)))))) F x cs.toList) :
    ∃ A c, cs = #[.int .i64 x.1, .int .i64 x.2.1, .int .i64 x.2.2.1, .int .i64 x.2.2.2.1, .slice A x.2.2.2.2.length c] ∧ RowAt F A (x.2.2.2.2.map (.int .i64)) := by
  obtain ⟨c1, d1, e1, _, rfl, c2, d2, rfl, _, rfl, c3, d3, rfl, _, rfl, c4, d4, rfl, _, rfl, A, c, rfl, _, hel⟩ := h
  refine ⟨A, c, ?_, elems_ints hel⟩
  apply Array.ext'
  rw [e1]
  rfl
def emS (d f n k : Int) (l : List Int) : Int := bif mayB d f n k l then 0 else 1
def pgS (d f n k : Int) (l : List Int) : List UInt8 := bif mayB d f n k l then pageS d f n k l else []
theorem pg_len (d f n k : Int) (l : List Int) : (pgS d f n k l).length ≤ 240 := by
  unfold pgS
  cases h : mayB d f n k l with
  | true =>
    rw [cond_true, page_len _ _ _ _ _ ((mayB_iff d f n k l).1 h).2.1.2]
    omega
  | false => exact Nat.zero_le _
theorem putM (d f n k : Int) (l : List Int) (A : Option Addr) (c : Nat) (F : Heap) (hr : RowAt F A (l.map (.int .i64))) (hl : l.length ≤ 1000) :
    FnK Try.prog 10 #[.agg #[.int .i64 d, .int .i64 f, .int .i64 n, .int .i64 k, .slice A l.length c]] F (fun v F' => (∃ r, v = .tuple #[r, .int .i64 (emS d f n k l)] ∧ Bs F' r (pgS d f n k l)) ∧ Ext F F') := by
  unfold emS pgS
  cases h : mayB d f n k l with
  | true => exact putOk d f n k l A c F hr h
  | false =>
    refine (putNo d f n k l A c F hr hl h).mono fun v F' hv => ⟨⟨_, hv.1, none, 0, rfl, Nat.le_refl _, RowAt.nil _ _⟩, hv.2⟩
theorem rputM (d f n k : Int) (l : List Int) (A : Option Addr) (c : Nat) (F : Heap) (hr : RowAt F A (l.map (.int .i64))) (hl : l.length ≤ 1000) :
    FnK Try.prog 11 #[.agg #[.int .i64 d, .int .i64 f, .int .i64 n, .int .i64 k, .slice A l.length c]] F (fun v F' => (∃ r, v = .tuple #[r, .int .i64 (emS d f n k l)] ∧ Bs F' r (pgS d f n k l)) ∧ Ext F F') := by
  unfold emS pgS
  cases h : mayB d f n k l with
  | true => exact rputOk d f n k l A c F hr h
  | false =>
    refine (rputNo d f n k l A c F hr hl h).mono fun v F' hv => ⟨⟨_, hv.1, none, 0, rfl, Nat.le_refl _, RowAt.nil _ _⟩, hv.2⟩
end Go.Proofs.Ytkahpaipciooiaa.Al

/- The contracts of the reader's num, text and lines, over what is known of memory. -/
import Derived.Test.YtkahpaipciooiacCmdREnc
namespace Go.Proofs.Ytkahpaipciooiac.Al
open Go Go.Al Go.Proofs Go.RowKit
set_option maxHeartbeats 8000000
set_option maxRecDepth 100000
set_option linter.unusedVariables false
set_option linter.unusedSimpArgs false
def rdA (b : List UInt8) (i m : Nat) : Nat := if i + m ≤ b.length then i + m else i
def rdS (b : List UInt8) (i m : Nat) (sh : Bool) : Bool := if i + m ≤ b.length then sh else true
abbrev readerO (V : Value) (i : Nat) (sh : Bool) : Obj := .cells #[V, .int .i64 (i : Int), .bool sh] 62
/-- A reader of bytes b, in block r, that wasn't there in F0. -/
structure DS (F0 F : Heap) (r : Nat) (V : Value) (b : List UInt8) (i : Nat) (sh : Bool) : Prop where
  cell : F r = some (readerO V i sh)
  new : F0 r = none
  ext : Ext F0 F
  le : i ≤ b.length
theorem DS.put {F0 F : Heap} {r : Nat} {V : Value} {b : List UInt8} {i : Nat} {sh : Bool} (h : DS F0 F r V b i sh) (i' : Nat) (sh' : Bool) (hi : i' ≤ b.length) : DS F0 (F.put r (readerO V i' sh')) r V b i' sh' :=
  ⟨Heap.put_same _ _ _, h.new, h.ext.put h.new _, hi⟩
theorem DS.mono {F0 F G : Heap} {r : Nat} {V : Value} {b : List UInt8} {i : Nat} {sh : Bool} (h : DS F0 F r V b i sh) (hE : Ext F G) : DS F0 G r V b i sh := ⟨hE _ _ h.cell, h.new, h.ext.trans hE, h.le⟩
theorem rdA_le {b : List UInt8} {i m : Nat} (h : i ≤ b.length) : rdA b i m ≤ b.length := by unfold rdA; split <;> omega
theorem rdNum (m : Nat) (hm : Siz m) (b : List UInt8) (A : Option Addr) (c : Nat) (F0 F : Heap) (r i : Nat) (sh : Bool) (hr : RowAt F0 A (bytesOf b)) (hd : DS F0 F r (.slice A b.length c) b i sh) (hl : b.length ≤ 100000) (hc : b.length ≤ c) :
    FnK Try.prog 41 #[.pointer (some ⟨r, 0, none⟩), .int .i64 m] F (fun v F' => v = .int .i64 (getN b i m) ∧ DS F0 F' r (.slice A b.length c) b (rdA b i m) (rdS b i m sh) ∧ Keeps F F' (some r)) := by
  have hle := hd.le
  have hg := getG m hm b A c i F (hr.mono hd.ext) (by omega) hc (by omega)
  have hm8 : m ≤ 8 := by rcases hm with rfl | rfl | rfl | rfl <;> decide
  (refine fn_walk tab_ok Try.func41 rfl rfl rfl rfl ?_; (conv => whnf))
  refine draw_walk tab_ok (by kernel_rfl) [0, 1, 2, 3, 4, 5, 6, 7, 8, 9, 10, 11, 12, 13, 14] (by kernel_rfl) ?_
  (conv => whnf)
  refine load_blk hd.cell rfl rfl ?_
  (conv => whnf)
  refine load_blk hd.cell rfl rfl ?_
  (conv => whnf)
  refine call_of hg ?_
  rintro v F1 ⟨rfl, rfl⟩
  by_cases hfit : i + m ≤ b.length
  · have e1 : getE b i m = 0 := if_pos hfit
    have hA : rdA b i m = i + m := if_pos hfit
    have hS : rdS b i m sh = sh := if_pos hfit
    rw [hA, hS, e1]
    have hw : IntKind.i64.wrap ((i : Int) + (m : Int)) = ((i + m : Nat) : Int) := by rw [IntKind.wrap_i64]; omega
    have o1 : ∀ v ∈ [Value.int .i64 (IntKind.i64.wrap ((i : Int) + (m : Int)))], v.oneCell' = true := by simp [Value.oneCell']
    (conv => whnf)
    refine load_blk hd.cell rfl rfl ?_
    (conv => whnf)
    refine store_step r 1 _ #[.slice A b.length c, .int .i64 ((i + m : Nat) : Int), .bool sh] rfl hd.cell (congrArg (fun z => #[Value.slice A b.length c, .int .i64 z, .bool sh]) hw) rfl (.inl (Nat.le_refl 0)) o1 ?_
    (conv => whnf)
    exact ⟨rfl, hd.put (i + m) sh hfit, Keeps.put _ _ _⟩
  · have e1 : getE b i m = 3 := if_neg hfit
    have hA : rdA b i m = i := if_neg hfit
    have hS : rdS b i m sh = true := if_neg hfit
    have hN : getN b i m = 0 := if_neg hfit
    rw [hA, hS, e1, hN]
    have o1 : ∀ v ∈ [Value.bool true], v.oneCell' = true := by simp [Value.oneCell']
    (conv => whnf)
    refine store_step r 2 _ #[.slice A b.length c, .int .i64 (i : Int), .bool true] rfl hd.cell rfl rfl (.inl (Nat.le_refl 0)) o1 ?_
    (conv => whnf)
    exact ⟨rfl, hd.put i true hle, Keeps.put _ _ _⟩
def txV (b : List UInt8) (i n : Nat) : List UInt8 := if i + n ≤ b.length then (b.drop i).take n else []
theorem rdText (n : Nat) (b : List UInt8) (A : Option Addr) (c : Nat) (F0 F : Heap) (r i : Nat) (sh : Bool) (hr : RowAt F0 A (bytesOf b)) (hd : DS F0 F r (.slice A b.length c) b i sh) (hl : b.length ≤ 100000) (hc : b.length ≤ c) (hn : n ≤ 1000) :
    FnK Try.prog 42 #[.pointer (some ⟨r, 0, none⟩), .int .i64 n] F (fun v F' => v = .string ⟨(txV b i n).toArray⟩ ∧ DS F0 F' r (.slice A b.length c) b (rdA b i n) (rdS b i n sh) ∧ Keeps F F' (some r)) := by
  have hle := hd.le
  have hsub : IntKind.i64.wrap ((b.length : Int) - (i : Int)) = ((b.length - i : Nat) : Int) := by rw [IntKind.wrap_i64]; omega
  have hrF := hr.mono hd.ext
  (refine fn_walk tab_ok Try.func42 rfl rfl rfl rfl ?_; (conv => whnf))
  refine draw_walk tab_ok (by kernel_rfl) [0, 1, 2, 3, 4, 5, 6, 7, 8, 9, 10, 11] (by kernel_rfl) ?_
  (conv => whnf)
  refine load_blk hd.cell rfl rfl ?_
  (conv => whnf)
  refine load_blk hd.cell rfl rfl ?_
  (conv => whnf)
  refine cond_split (fun h => ?_) (fun h => ?_)
  · have h : decide ((n : Int) > IntKind.i64.wrap ((b.length : Int) - (i : Int))) = true := h
    have h := of_decide_eq_true h
    rw [hsub] at h
    have hfit : ¬ i + n ≤ b.length := by omega
    have hA : rdA b i n = i := if_neg hfit
    have hS : rdS b i n sh = true := if_neg hfit
    have hN : txV b i n = [] := if_neg hfit
    rw [hA, hS, hN]
    have o1 : ∀ v ∈ [Value.bool true], v.oneCell' = true := by simp [Value.oneCell']
    (conv => whnf)
    refine store_step r 2 _ #[.slice A b.length c, .int .i64 (i : Int), .bool true] rfl hd.cell rfl rfl (.inl (Nat.le_refl 0)) o1 ?_
    (conv => whnf)
    exact ⟨rfl, hd.put i true hle, Keeps.put _ _ _⟩
  · have h : decide ((n : Int) > IntKind.i64.wrap ((b.length : Int) - (i : Int))) = false := h
    have h := of_decide_eq_false h
    rw [hsub] at h
    have hfit : i + n ≤ b.length := by omega
    have hA : rdA b i n = i + n := if_pos hfit
    have hS : rdS b i n sh = sh := if_pos hfit
    have hN : txV b i n = (b.drop i).take n := if_pos hfit
    rw [hA, hS, hN]
    have hw : IntKind.i64.wrap ((i : Int) + (n : Int)) = ((i + n : Nat) : Int) := by rw [IntKind.wrap_i64]; omega
    have o1 : ∀ v ∈ [Value.int .i64 (IntKind.i64.wrap ((i : Int) + (n : Int)))], v.oneCell' = true := by simp [Value.oneCell']
    have hlen : ((b.drop i).take n).length = n := by simp; omega
    have hN2 : (IntKind.i64.wrap ((i : Int) + (n : Int))).toNat - Int.toNat (i : Int) = ((b.drop i).take n).length := by rw [hw, hlen]; omega
    have hrow : ∀ j (v : Value), (((b.drop i).take n).map fun x => Value.int .u8 x.toNat)[j]? = some v → ∃ ad, (if c = Int.toNat (i : Int) then A else A.map (·.add (Int.toNat (i : Int) * 1))) = some ad ∧ F.cell? (ad.add j) = some v := by
      intro j v hj
      have hj' : (bytesOf b)[i + j]? = some v := by
        rw [List.getElem?_map, List.getElem?_take] at hj
        split at hj
        · rw [List.getElem?_drop] at hj
          rw [bytesOf, List.getElem?_map]
          exact hj
        · cases hj
      obtain ⟨ad, h1, h2⟩ := hrF _ _ hj'
      subst h1
      have hj2 : i + j < b.length := by have := (List.getElem?_eq_some_iff.1 hj').1; rwa [bytes_len] at this
      rw [Int.toNat_natCast, if_neg (by omega), Nat.mul_one]
      exact ⟨ad.add i, rfl, by rw [add_add]; exact h2⟩
    (conv => whnf)
    refine draw_tree tab_ok (by kernel_rfl) [] (DT.row [0, 1, 2, 3, 4, 5, 6, 7, 8, 9, 10, 11, 12, 13, 14, 15, 16] .nil) (by kernel_rfl) ?_
    (conv => whnf)
    refine load_blk hd.cell rfl rfl ?_
    (conv => whnf)
    refine load_blk hd.cell rfl rfl ?_
    (conv => whnf)
    refine load_blk hd.cell rfl rfl ?_
    (conv => whnf)
    refine ⟨⟨by rw [hw]; omega, by rw [hw]; omega⟩, ?_⟩
    (conv => whnf)
    refine ⟨⟨by omega, by rw [hw]; omega⟩, ?_⟩
    (conv => whnf)
    refine conv_str (c := c - Int.toNat (i : Int)) tab_ok ((b.drop i).take n) rfl (congrArg (fun z => Value.slice (if c = Int.toNat (i : Int) then A else A.map (·.add (Int.toNat (i : Int) * 1))) z (c - Int.toNat (i : Int))) hN2) rfl rfl rfl hrow ?_
    refine ⟨Ext.refl _, ?_⟩
    (conv => whnf)
    refine load_blk hd.cell rfl rfl ?_
    (conv => whnf)
    refine store_step r 1 _ #[.slice A b.length c, .int .i64 ((i + n : Nat) : Int), .bool sh] rfl hd.cell (congrArg (fun z => #[Value.slice A b.length c, .int .i64 z, .bool sh]) hw) rfl (.inl (Nat.le_refl 0)) o1 ?_
    (conv => whnf)
    exact ⟨rfl, hd.put (i + n) sh hfit, Keeps.put _ _ _⟩
end Go.Proofs.Ytkahpaipciooiac.Al

/- The contracts of bytes.Equal and slices.Equal of ints, over what is known of memory. -/
import Derived.Test.YtkahpaipciooiacNumG
namespace Go.Proofs.Ytkahpaipciooiac.Al
open Go Go.Al Go.Proofs Go.RowKit
set_option maxHeartbeats 8000000
set_option maxRecDepth 100000
set_option linter.unusedVariables false
set_option linter.unusedSimpArgs false
theorem str_beq (a b : List UInt8) : ((⟨a.toArray⟩ : ByteArray).toList == (⟨b.toArray⟩ : ByteArray).toList) = (a == b) := by
  have : ∀ c : List UInt8, (⟨c.toArray⟩ : ByteArray).toList = c := fun c => by rw [ByteArray.toList_eq]
  rw [this, this]
theorem bytesEqual (x y : List UInt8) (A B : Option Addr) (c e : Nat) (F : Heap) (hx : RowAt F A (bytesOf x)) (hy : RowAt F B (bytesOf y)) :
    FnK Try.prog 13 #[.slice A x.length c, .slice B y.length e] F (fun v F' => v = .bool (x == y) ∧ F' = F) := by
  have hq := str_beq x y
  (refine fn_walk tab_ok Try.func13 rfl rfl rfl rfl ?_; (conv => whnf))
  refine conv_str tab_ok x rfl rfl rfl rfl rfl hx ?_
  (conv => whnf)
  refine conv_str tab_ok y rfl rfl rfl rfl rfl hy ?_
  (conv => whnf)
  exact ⟨congrArg Value.bool hq, rfl⟩
theorem slicesEqual (x y : List Int) (A B : Option Addr) (c e : Nat) (F : Heap) (hx : RowAt F A (x.map (.int .i64))) (hy : RowAt F B (y.map (.int .i64))) (hl : x.length ≤ 100000) (hl' : y.length ≤ 100000) :
    FnK Try.prog 40 #[.slice A x.length c, .slice B y.length e] F (fun v F' => v = .bool (x == y) ∧ F' = F) := by
  (refine fn_walk tab_ok Try.func40 rfl rfl rfl rfl ?_; (conv => whnf))
  refine cond_split (fun h => ?_) (fun h => ?_)
  · have hne : x.length ≠ y.length := by
      replace h : ((x.length : Int) != (y.length : Int)) = true := h
      intro e
      rw [e] at h
      simp at h
    (conv => whnf)
    refine ⟨congrArg Value.bool ?_, rfl⟩
    symm
    rw [beq_eq_false_iff_ne]
    intro e
    exact hne (by rw [e])
  · have heq : x.length = y.length := by
      replace h : ((x.length : Int) != (y.length : Int)) = false := h
      have := bne_eq_false_iff_eq.1 h
      omega
    (conv => whnf)
    refine loop_slots [0, 1, 12, 13] (fun k vs F' => ∃ j : Nat, j + k = x.length ∧ vs = [.slice A x.length c, .slice B y.length e, .int .i64 (x.length : Int), .int .i64 (j : Int)] ∧ x.take j = y.take j ∧ F' = F) x.length ⟨0, by omega, rfl, rfl, rfl⟩ ?_
    rintro k vs F2 ρ ⟨j, hjk, rfl, htk, rfl⟩
    (conv => whnf)
    refine cond_split (fun h => ?_) (fun h => ?_)
    · have hj : j < x.length := by have := of_decide_eq_true h; omega
      obtain ⟨ad, rfl⟩ := hx.some (by simp; omega)
      obtain ⟨bd, rfl⟩ := hy.some (by simp; omega)
      have hxj : x[j]? = some x[j] := List.getElem?_eq_getElem hj
      have hyj : y[j]? = some (y[j]'(by omega)) := List.getElem?_eq_getElem (by omega)
      (conv => whnf)
      refine draw_walk tab_ok (by kernel_rfl) [0, 1, 2, 3, 4, 5, 6, 7, 8] (by kernel_rfl) ?_
      (conv => whnf)
      refine ⟨⟨by omega, by omega⟩, ?_⟩
      (conv => whnf)
      refine load_step (v := .int .i64 x[j]) ?_ ?_
      · show F2.cell? (ad.add (Int.toNat (j : Int) * 1)) = _
        rw [Int.toNat_natCast, Nat.mul_one]
        exact hx.cell (by simp [hxj])
      (conv => whnf)
      refine ⟨⟨by omega, by omega⟩, ?_⟩
      (conv => whnf)
      refine load_step (v := .int .i64 (y[j]'(by omega))) ?_ ?_
      · show F2.cell? (bd.add (Int.toNat (j : Int) * 1)) = _
        rw [Int.toNat_natCast, Nat.mul_one]
        exact hy.cell (by simp [hyj])
      (conv => whnf)
      refine cond_split (fun h => ?_) (fun h => ?_)
      · (conv => whnf)
        refine ⟨congrArg Value.bool ?_, rfl⟩
        symm
        rw [beq_eq_false_iff_ne]
        rintro rfl
        simp at h
      · (conv => whnf)
        refine ⟨k - 1, by omega, j + 1, by omega, ?_, ?_, rfl⟩
        · have hw : IntKind.i64.wrap ((j : Int) + 1) = ((j + 1 : Nat) : Int) := by rw [IntKind.wrap_i64]; omega
          rw [← hw]
          rfl
        · have h := bne_eq_false_iff_eq.1 h
          rw [List.take_add_one, List.take_add_one, hxj, hyj, h, htk]
    · have hj : j = x.length := by have := of_decide_eq_false h; omega
      subst hj
      have hxy : x = y := by
        rw [List.take_length] at htk
        rw [htk, heq, List.take_length]
      (conv => whnf)
      exact ⟨congrArg Value.bool (beq_iff_eq.2 hxy).symm, rfl⟩
end Go.Proofs.Ytkahpaipciooiac.Al

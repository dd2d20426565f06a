/- The contracts of cmd.Same and of its reference, over what is known of memory. -/
import Derived.Test.YtkahpaipciooiacCmdRDec
import Derived.Test.YtkahpaipciooiacAlEq
namespace Go.Proofs.Ytkahpaipciooiac.Al
open Go Go.Al Go.Proofs Go.RowKit
set_option maxHeartbeats 8000000
set_option maxRecDepth 100000
set_option linter.unusedVariables false
set_option linter.unusedSimpArgs false
def lnEq (w v : LD) : Bool := w.f == v.f && (w.o == v.o && (w.n == v.n && (w.a == v.a && true)))
theorem lnEq_iff (w v : LD) : lnEq w v = true ↔ w = v := by
  obtain ⟨a, b, c, d⟩ := w
  obtain ⟨a', b', c', d'⟩ := v
  unfold lnEq
  simp only [Bool.and_eq_true, beq_iff_eq, and_true, LD.mk.injEq]
theorem run_line (w v : LD) (W : World) : (Op.equalIn 10000 59 (.agg #[.int .i64 w.f, .int .i64 w.o, .int .i64 w.n, .int .i64 w.a]) (.agg #[.int .i64 v.f, .int .i64 v.o, .int .i64 v.n, .int .i64 v.a])).run Try.prog W = .ok (lnEq w v) W := by
  rw [run_struct_check W 59 _ _ .i64 4 (by kernel_rfl) (by kernel_rfl) (by kernel_rfl) (fun j hj => ?_)]
  · rfl
  · have h : j = 0 ∨ j = 1 ∨ j = 2 ∨ j = 3 := by omega
    rcases h with rfl | rfl | rfl | rfl <;> exact ⟨_, _, rfl, rfl⟩
theorem slicesEqualL (x y : List LD) (A B : Option Addr) (c e : Nat) (F : Heap) (hx : RowAt F A (linesV x)) (hy : RowAt F B (linesV y)) (hl : x.length ≤ 100000) (hl' : y.length ≤ 100000) :
    FnK Try.prog 53 #[.slice A x.length c, .slice B y.length e] F (fun v F' => (∃ z : Bool, v = .bool z ∧ (z = true ↔ x = y)) ∧ F' = F) := by
  (refine fn_walk tab_ok Try.func53 rfl rfl rfl rfl ?_; (conv => whnf))
  refine cond_split (fun h => ?_) (fun h => ?_)
  · have hne : x.length ≠ y.length := by
      replace h : ((x.length : Int) != (y.length : Int)) = true := h
      intro e
      rw [e] at h
      simp at h
    (conv => whnf)
    exact ⟨⟨false, rfl, by simp; rintro rfl; exact hne rfl⟩, rfl⟩
  · have heq : x.length = y.length := by
      replace h : ((x.length : Int) != (y.length : Int)) = false := h
      have := bne_eq_false_iff_eq.1 h
      omega
    (conv => whnf)
    refine loop_slots [0, 1, 12, 13] (fun k vs F' => ∃ j : Nat, j + k = x.length ∧ vs = [.slice A x.length c, .slice B y.length e, .int .i64 (x.length : Int), .int .i64 (j : Int)] ∧ x.take j = y.take j ∧ F' = F) x.length ⟨0, by omega, rfl, rfl, rfl⟩ ?_
    rintro k vs F2 ρ ⟨j, hjk, rfl, htk, rfl⟩
    (conv => whnf)
    refine cond_split (fun h => ?_) (fun h => ?_)
    · have hj : j < x.length := by have := of_decide_eq_true h; omega
      obtain ⟨ad, rfl⟩ := hx.some (by rw [linesV_len]; omega)
      obtain ⟨bd, rfl⟩ := hy.some (by rw [linesV_len]; omega)
      have hxj : x[j]? = some x[j] := List.getElem?_eq_getElem hj
      have hyj : y[j]? = some (y[j]'(by omega)) := List.getElem?_eq_getElem (by omega)
      have hL1 := fun (K : Value → Prop) => line_load (K := K) hx hj
      have hL2 := fun (K : Value → Prop) => line_load (K := K) hy (j := j) (by omega)
      have hja : ad.add (Int.toNat (j : Int) * 4) = ad.add (j * 4) := by rw [Int.toNat_natCast]
      have hjb : bd.add (Int.toNat (j : Int) * 4) = bd.add (j * 4) := by rw [Int.toNat_natCast]
      rw [← hja] at hL1
      rw [← hjb] at hL2
      have hrl := run_line x[j] (y[j]'(by omega))
      have hiff := lnEq_iff x[j] (y[j]'(by omega))
      generalize x[j] = w at hxj hL1 hrl hiff
      generalize y[j]'(by omega) = v at hyj hL2 hrl hiff
      generalize lnEq w v = z at hrl hiff
      (conv => whnf)
      refine draw_tree tab_ok (by kernel_rfl) [] (DT.row [0, 1, 2, 3, 4, 5, 6, 7, 8] .nil) (by kernel_rfl) ?_
      (conv => whnf)
      refine ⟨⟨by omega, by omega⟩, ?_⟩
      (conv => whnf)
      refine hL1 _ ?_
      (conv => whnf)
      refine ⟨⟨by omega, by omega⟩, ?_⟩
      (conv => whnf)
      refine hL2 _ ?_
      (conv => whnf)
      refine op_neq z rfl rfl rfl (by kernel_rfl) hrl ?_
      refine ⟨Ext.refl _, ?_⟩
      cases z with
      | false =>
        (conv => whnf)
        refine ⟨⟨false, rfl, by simp; rintro rfl; rw [hxj] at hyj; have := hiff.2 (Option.some.inj hyj); cases this⟩, rfl⟩
      | true =>
        have hwv := hiff.1 rfl
        (conv => whnf)
        refine ⟨k - 1, by omega, j + 1, by omega, ?_, ?_, rfl⟩
        · have hw : IntKind.i64.wrap ((j : Int) + 1) = ((j + 1 : Nat) : Int) := by rw [IntKind.wrap_i64]; omega
          rw [← hw]
          rfl
        · rw [List.take_add_one, List.take_add_one, hxj, hyj, htk, hwv]
    · have hj : j = x.length := by have := of_decide_eq_false h; omega
      subst hj
      have hxy : x = y := by
        rw [List.take_length] at htk
        rw [htk, heq, List.take_length]
      (conv => whnf)
      exact ⟨⟨true, rfl, by simp [hxy]⟩, rfl⟩
theorem nums10 (k y x f o n p d l a : Int) (ab : Bool) (nm : ByteArray) (S : Value) (F : Heap) (hS : S.oneCell' = true) :
    FnK Try.prog 52 #[.agg (cmdC k y x f o n p d l a ab nm S)] F (fun v F' => v = .agg #[.int .i64 k, .int .i64 y, .int .i64 x, .int .i64 f, .int .i64 o, .int .i64 n, .int .i64 p, .int .i64 d, .int .i64 l, .int .i64 a] ∧ Ext F F') := by
  have o1 : ∀ v ∈ [Value.int .i64 k, .int .i64 y, .int .i64 x, .int .i64 f, .int .i64 o, .int .i64 n, .int .i64 p, .int .i64 d, .int .i64 l, .int .i64 a], v.oneCell' = true := by simp [Value.oneCell']
  (refine fn_walk tab_ok Try.func52 rfl rfl rfl rfl ?_; (conv => whnf))
  refine new_step (cmdO k y x f o n p d l a ab nm S) rfl fun b hb => ?_
  have hE := Ext.new hb (cmdO k y x f o n p d l a ab nm S)
  have hB := Heap.put_same F b (cmdO k y x f o n p d l a ab nm S)
  generalize F.put b _ = F1 at hE hB ⊢
  (conv => whnf)
  refine new_step (.cells #[.int .i64 0, .int .i64 0, .int .i64 0, .int .i64 0, .int .i64 0, .int .i64 0, .int .i64 0, .int .i64 0, .int .i64 0, .int .i64 0] 75) rfl fun q hq => ?_
  have hE2 := Ext.new hq (.cells #[.int .i64 0, .int .i64 0, .int .i64 0, .int .i64 0, .int .i64 0, .int .i64 0, .int .i64 0, .int .i64 0, .int .i64 0, .int .i64 0] 75)
  have hB2 := hE2 _ _ hB
  have hQ := Heap.put_same F1 q (.cells #[.int .i64 0, .int .i64 0, .int .i64 0, .int .i64 0, .int .i64 0, .int .i64 0, .int .i64 0, .int .i64 0, .int .i64 0, .int .i64 0] 75)
  generalize F1.put q _ = F2 at hE2 hB2 hQ ⊢
  (conv => whnf)
  refine load_blk hB2 rfl rfl ?_
  (conv => whnf)
  refine load_blk hB2 rfl rfl ?_
  (conv => whnf)
  refine load_blk hB2 rfl rfl ?_
  (conv => whnf)
  refine load_blk hB2 rfl rfl ?_
  (conv => whnf)
  refine load_blk hB2 rfl rfl ?_
  (conv => whnf)
  refine load_blk hB2 rfl rfl ?_
  (conv => whnf)
  refine load_blk hB2 rfl rfl ?_
  (conv => whnf)
  refine load_blk hB2 rfl rfl ?_
  (conv => whnf)
  refine load_blk hB2 rfl rfl ?_
  (conv => whnf)
  refine load_blk hB2 rfl rfl ?_
  (conv => whnf)
  refine store_step q 0 _ #[.int .i64 k, .int .i64 y, .int .i64 x, .int .i64 f, .int .i64 o, .int .i64 n, .int .i64 p, .int .i64 d, .int .i64 l, .int .i64 a] rfl hQ rfl rfl (.inl (Nat.le_refl 0)) o1 ?_
  (conv => whnf)
  refine res_cells tab_ok rfl rfl (Heap.put_same _ _ _) rfl ?_
  (conv => whnf)
  exact ⟨rfl, hE.trans (fun c u hc => by
    have hne : c ≠ q := fun e => by rw [e, hq] at hc; cases hc
    rw [Heap.put_other _ _ hne]
    exact hE2 c u hc)⟩
end Go.Proofs.Ytkahpaipciooiac.Al

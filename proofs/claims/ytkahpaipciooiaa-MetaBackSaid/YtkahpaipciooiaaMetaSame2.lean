/- The contract of meta.Same, over what is known of memory. -/
import Derived.Test.YtkahpaipciooiaaMetaSame
import Derived.Test.YtkahpaipciooiaaAlFork
namespace Go.Proofs.Ytkahpaipciooiaa.Al
open Go Go.Al Go.Proofs Go.RowKit
set_option maxHeartbeats 8000000
set_option maxRecDepth 100000
set_option linter.unusedVariables false
set_option linter.unusedSimpArgs false
theorem put_none {F : Heap} {p q : Nat} {o : Obj} (h : (F.put p o) q = none) : p ≠ q ∧ F q = none := by
  have hne : p ≠ q := by rintro rfl; rw [Heap.put_same] at h; cases h
  exact ⟨hne, by rwa [Heap.put_other _ _ hne.symm] at h⟩
theorem same (d f n k d' f' n' k' : Int) (l l' : List Int) (A A' : Option Addr) (c c' : Nat) (F : Heap) (hr : RowAt F A (l.map (.int .i64))) (hr' : RowAt F A' (l'.map (.int .i64))) (hl : l.length ≤ 1000) (hl' : l'.length ≤ 1000) :
    FnK Try.prog 13 #[.agg #[.int .i64 d, .int .i64 f, .int .i64 n, .int .i64 k, .slice A l.length c], .agg #[.int .i64 d', .int .i64 f', .int .i64 n', .int .i64 k', .slice A' l'.length c']] F (fun v F' => v = .bool ((d == d' && (f == f' && (n == n' && k == k'))) && l == l') ∧ Ext F F') := by
  have hXo : ∀ v ∈ [Value.int .i64 d, .int .i64 f, .int .i64 n, .int .i64 k], v.oneCell' = true := by simp [Value.oneCell']
  have hYo : ∀ v ∈ [Value.int .i64 d', .int .i64 f', .int .i64 n', .int .i64 k'], v.oneCell' = true := by simp [Value.oneCell']
  (refine fn_walk tab_ok Try.func13 rfl rfl rfl rfl ?_; (conv => whnf))
  refine new_step (.cells #[.int .i64 d, .int .i64 f, .int .i64 n, .int .i64 k, .slice A l.length c] 26) rfl fun b hb => ?_
  have hE : Ext F (F.put b (.cells #[.int .i64 d, .int .i64 f, .int .i64 n, .int .i64 k, .slice A l.length c] 26)) := Ext.new hb _
  have hB := Heap.put_same F b (.cells #[.int .i64 d, .int .i64 f, .int .i64 n, .int .i64 k, .slice A l.length c] 26)
  generalize F.put b _ = F1 at hE hB ⊢
  (conv => whnf)
  refine new_step (.cells #[.int .i64 d', .int .i64 f', .int .i64 n', .int .i64 k', .slice A' l'.length c'] 26) rfl fun b' hb' => ?_
  have hE2 := hE.trans (Ext.new hb' (.cells #[.int .i64 d', .int .i64 f', .int .i64 n', .int .i64 k', .slice A' l'.length c'] 26))
  have hC := (Ext.new hb' (.cells #[.int .i64 d', .int .i64 f', .int .i64 n', .int .i64 k', .slice A' l'.length c'] 26)) b _ hB
  have hC' := Heap.put_same F1 b' (.cells #[.int .i64 d', .int .i64 f', .int .i64 n', .int .i64 k', .slice A' l'.length c'] 26)
  generalize F1.put b' _ = F2 at hE2 hC hC' ⊢
  (conv => whnf)
  refine draw_tree tab_ok (by kernel_rfl) [1, 3, 5, 7, 10, 12, 14, 16] (DT.row [0, 1, 2, 3, 4, 5, 6, 7, 8, 9, 10, 11, 12, 13, 14, 15, 16, 17] (.fork (DT.row [18, 19, 20, 21] .nil) (DT.row [19, 18, 20, 21] .nil))) (by kernel_rfl) ?_
  (conv => whnf)
  refine load_blk hC rfl rfl ?_
  (conv => whnf)
  refine load_blk hC rfl rfl ?_
  (conv => whnf)
  refine load_blk hC rfl rfl ?_
  (conv => whnf)
  refine load_blk hC rfl rfl ?_
  (conv => whnf)
  refine load_blk hC' rfl rfl ?_
  (conv => whnf)
  refine load_blk hC' rfl rfl ?_
  (conv => whnf)
  refine load_blk hC' rfl rfl ?_
  (conv => whnf)
  refine load_blk hC' rfl rfl ?_
  (conv => whnf)
  refine ⟨?_, ?_⟩
  · (conv => whnf)
    refine new_step (.cells #[.int .i64 0, .int .i64 0, .int .i64 0, .int .i64 0] 42) rfl fun p hp => ?_
    have E1 := Ext.new hp (.cells #[.int .i64 0, .int .i64 0, .int .i64 0, .int .i64 0] 42)
    refine ⟨E1, ?_⟩
    (conv => whnf)
    refine new_step (.cells #[.int .i64 0, .int .i64 0, .int .i64 0, .int .i64 0] 42) rfl fun q hq => ?_
    have E2 := E1.trans (Ext.new hq (.cells #[.int .i64 0, .int .i64 0, .int .i64 0, .int .i64 0] 42))
    obtain ⟨hne, hq'⟩ := put_none hq
    refine ⟨E2, ?_⟩
    have hP : ((F2.put p (.cells #[.int .i64 0, .int .i64 0, .int .i64 0, .int .i64 0] 42)).put q (.cells #[.int .i64 0, .int .i64 0, .int .i64 0, .int .i64 0] 42)) p = some (.cells #[.int .i64 0, .int .i64 0, .int .i64 0, .int .i64 0] 42) := by rw [Heap.put_other _ _ hne]; exact Heap.put_same _ _ _
    have hQ : ((F2.put p (.cells #[.int .i64 0, .int .i64 0, .int .i64 0, .int .i64 0] 42)).put q (.cells #[.int .i64 0, .int .i64 0, .int .i64 0, .int .i64 0] 42)) q = some (.cells #[.int .i64 0, .int .i64 0, .int .i64 0, .int .i64 0] 42) := by exact Heap.put_same _ _ _
    have hpN : F2 p = none := hp
    have hqN : F2 q = none := hq'
    have hpq : p ≠ q := hne
    generalize (F2.put p (.cells #[.int .i64 0, .int .i64 0, .int .i64 0, .int .i64 0] 42)).put q (.cells #[.int .i64 0, .int .i64 0, .int .i64 0, .int .i64 0] 42) = G2 at E2 hP hQ ⊢
    (conv => whnf)
    refine store_step p 0 _ _ rfl hP rfl rfl (.inl (Nat.le_refl 0)) hXo ?_
    have E3 := E2.put hpN (.cells #[.int .i64 d, .int .i64 f, .int .i64 n, .int .i64 k] 42)
    have hP3 := Heap.put_same G2 p (.cells #[.int .i64 d, .int .i64 f, .int .i64 n, .int .i64 k] 42)
    have hQ3 : (G2.put p (.cells #[.int .i64 d, .int .i64 f, .int .i64 n, .int .i64 k] 42)) q = some (.cells #[.int .i64 0, .int .i64 0, .int .i64 0, .int .i64 0] 42) := by rw [Heap.put_other _ _ hpq.symm]; exact hQ
    refine ⟨E3, ?_⟩
    (conv => whnf)
    refine store_step q 0 _ _ rfl hQ3 rfl rfl (.inl (Nat.le_refl 0)) hYo ?_
    have E4 := E3.put hqN (.cells #[.int .i64 d', .int .i64 f', .int .i64 n', .int .i64 k'] 42)
    have hP4 : ((G2.put p (.cells #[.int .i64 d, .int .i64 f, .int .i64 n, .int .i64 k] 42)).put q (.cells #[.int .i64 d', .int .i64 f', .int .i64 n', .int .i64 k'] 42)) p = some (.cells #[.int .i64 d, .int .i64 f, .int .i64 n, .int .i64 k] 42) := by rw [Heap.put_other _ _ hpq]; exact hP3
    have hQ4 := Heap.put_same (G2.put p (.cells #[.int .i64 d, .int .i64 f, .int .i64 n, .int .i64 k] 42)) q (.cells #[.int .i64 d', .int .i64 f', .int .i64 n', .int .i64 k'] 42)
    refine ⟨E4, ?_⟩
    have E5 := hE2.trans E4
    have hC4 := E4 _ _ hC
    have hC4' := E4 _ _ hC'
    (conv => whnf)
    refine ⟨⟨_, _, _, hP4, rfl, Nat.le_refl 4, ?_⟩⟩
    (conv => whnf)
    refine ⟨⟨_, _, _, hQ4, rfl, Nat.le_refl 4, ?_⟩⟩
    (conv => whnf)
    refine op_eq4 tab_ok d f n k d' f' n' k' rfl rfl rfl rfl rfl (by kernel_rfl) ?_
    (conv => whnf)
    refine cond_split (fun h => ?_) (fun h => ?_)
    · (conv => whnf)
      refine load_blk hC4 rfl rfl ?_
      (conv => whnf)
      refine load_blk hC4' rfl rfl ?_
      (conv => whnf)
      refine call_of (slicesEqual l l' A A' c c' _ (hr.mono E5) (hr'.mono E5) (by omega) (by omega)) ?_
      rintro v F7 ⟨rfl, rfl⟩
      (conv => whnf)
      refine ⟨congrArg Value.bool ?_, E5⟩
      have h : (d == d' && (f == f' && (n == n' && k == k'))) = true := h
      rw [h]
      rfl
    · (conv => whnf)
      refine ⟨congrArg Value.bool ?_, E5⟩
      have h : (d == d' && (f == f' && (n == n' && k == k'))) = false := h
      rw [h]
      rfl
  · (conv => whnf)
    refine new_step (.cells #[.int .i64 0, .int .i64 0, .int .i64 0, .int .i64 0] 42) rfl fun q hq => ?_
    have E1 := Ext.new hq (.cells #[.int .i64 0, .int .i64 0, .int .i64 0, .int .i64 0] 42)
    refine ⟨E1, ?_⟩
    (conv => whnf)
    refine new_step (.cells #[.int .i64 0, .int .i64 0, .int .i64 0, .int .i64 0] 42) rfl fun p hp => ?_
    have E2 := E1.trans (Ext.new hp (.cells #[.int .i64 0, .int .i64 0, .int .i64 0, .int .i64 0] 42))
    obtain ⟨hne, hp'⟩ := put_none hp
    refine ⟨E2, ?_⟩
    have hP : ((F2.put q (.cells #[.int .i64 0, .int .i64 0, .int .i64 0, .int .i64 0] 42)).put p (.cells #[.int .i64 0, .int .i64 0, .int .i64 0, .int .i64 0] 42)) p = some (.cells #[.int .i64 0, .int .i64 0, .int .i64 0, .int .i64 0] 42) := by exact Heap.put_same _ _ _
    have hQ : ((F2.put q (.cells #[.int .i64 0, .int .i64 0, .int .i64 0, .int .i64 0] 42)).put p (.cells #[.int .i64 0, .int .i64 0, .int .i64 0, .int .i64 0] 42)) q = some (.cells #[.int .i64 0, .int .i64 0, .int .i64 0, .int .i64 0] 42) := by rw [Heap.put_other _ _ hne]; exact Heap.put_same _ _ _
    have hpN : F2 p = none := hp'
    have hqN : F2 q = none := hq
    have hpq : p ≠ q := hne.symm
    generalize (F2.put q (.cells #[.int .i64 0, .int .i64 0, .int .i64 0, .int .i64 0] 42)).put p (.cells #[.int .i64 0, .int .i64 0, .int .i64 0, .int .i64 0] 42) = G2 at E2 hP hQ ⊢
    (conv => whnf)
    refine store_step p 0 _ _ rfl hP rfl rfl (.inl (Nat.le_refl 0)) hXo ?_
    have E3 := E2.put hpN (.cells #[.int .i64 d, .int .i64 f, .int .i64 n, .int .i64 k] 42)
    have hP3 := Heap.put_same G2 p (.cells #[.int .i64 d, .int .i64 f, .int .i64 n, .int .i64 k] 42)
    have hQ3 : (G2.put p (.cells #[.int .i64 d, .int .i64 f, .int .i64 n, .int .i64 k] 42)) q = some (.cells #[.int .i64 0, .int .i64 0, .int .i64 0, .int .i64 0] 42) := by rw [Heap.put_other _ _ hpq.symm]; exact hQ
    refine ⟨E3, ?_⟩
    (conv => whnf)
    refine store_step q 0 _ _ rfl hQ3 rfl rfl (.inl (Nat.le_refl 0)) hYo ?_
    have E4 := E3.put hqN (.cells #[.int .i64 d', .int .i64 f', .int .i64 n', .int .i64 k'] 42)
    have hP4 : ((G2.put p (.cells #[.int .i64 d, .int .i64 f, .int .i64 n, .int .i64 k] 42)).put q (.cells #[.int .i64 d', .int .i64 f', .int .i64 n', .int .i64 k'] 42)) p = some (.cells #[.int .i64 d, .int .i64 f, .int .i64 n, .int .i64 k] 42) := by rw [Heap.put_other _ _ hpq]; exact hP3
    have hQ4 := Heap.put_same (G2.put p (.cells #[.int .i64 d, .int .i64 f, .int .i64 n, .int .i64 k] 42)) q (.cells #[.int .i64 d', .int .i64 f', .int .i64 n', .int .i64 k'] 42)
    refine ⟨E4, ?_⟩
    have E5 := hE2.trans E4
    have hC4 := E4 _ _ hC
    have hC4' := E4 _ _ hC'
    (conv => whnf)
    refine ⟨⟨_, _, _, hP4, rfl, Nat.le_refl 4, ?_⟩⟩
    (conv => whnf)
    refine ⟨⟨_, _, _, hQ4, rfl, Nat.le_refl 4, ?_⟩⟩
    (conv => whnf)
    refine op_eq4 tab_ok d f n k d' f' n' k' rfl rfl rfl rfl rfl (by kernel_rfl) ?_
    (conv => whnf)
    refine cond_split (fun h => ?_) (fun h => ?_)
    · (conv => whnf)
      refine load_blk hC4 rfl rfl ?_
      (conv => whnf)
      refine load_blk hC4' rfl rfl ?_
      (conv => whnf)
      refine call_of (slicesEqual l l' A A' c c' _ (hr.mono E5) (hr'.mono E5) (by omega) (by omega)) ?_
      rintro v F7 ⟨rfl, rfl⟩
      (conv => whnf)
      refine ⟨congrArg Value.bool ?_, E5⟩
      have h : (d == d' && (f == f' && (n == n' && k == k'))) = true := h
      rw [h]
      rfl
    · (conv => whnf)
      refine ⟨congrArg Value.bool ?_, E5⟩
      have h : (d == d' && (f == f' && (n == n' && k == k'))) = false := h
      rw [h]
      rfl
end Go.Proofs.Ytkahpaipciooiaa.Al

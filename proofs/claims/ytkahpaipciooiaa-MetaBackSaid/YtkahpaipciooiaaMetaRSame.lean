/- The contract of the reference's Same, over what is known of memory. -/
import Derived.Test.YtkahpaipciooiaaMetaSame2
namespace Go.Proofs.Ytkahpaipciooiaa.Al
open Go Go.Al Go.Proofs Go.RowKit
set_option maxHeartbeats 8000000
set_option maxRecDepth 100000
set_option linter.unusedVariables false
set_option linter.unusedSimpArgs false
theorem metaEq_iff (d f n k d' f' n' k' : Int) (l l' : List Int) : ((d == d' && (f == f' && (n == n' && k == k'))) && l == l') = true ↔ d = d' ∧ f = f' ∧ n = n' ∧ k = k' ∧ l = l' := by
  simp only [Bool.and_eq_true, beq_iff_eq]
  constructor
  · rintro ⟨⟨h1, h2, h3, h4⟩, h5⟩; exact ⟨h1, h2, h3, h4, h5⟩
  · rintro ⟨h1, h2, h3, h4, h5⟩; exact ⟨⟨h1, h2, h3, h4⟩, h5⟩
theorem rsame (d f n k d' f' n' k' : Int) (l l' : List Int) (A A' : Option Addr) (c c' : Nat) (F : Heap) (hr : RowAt F A (l.map (.int .i64))) (hr' : RowAt F A' (l'.map (.int .i64))) (hl : l.length ≤ 1000) (hl' : l'.length ≤ 1000) :
    FnK Try.prog 9 #[.agg #[.int .i64 d, .int .i64 f, .int .i64 n, .int .i64 k, .slice A l.length c], .agg #[.int .i64 d', .int .i64 f', .int .i64 n', .int .i64 k', .slice A' l'.length c']] F (fun v F' => v = .bool ((d == d' && (f == f' && (n == n' && k == k'))) && l == l') ∧ Ext F F') := by
  have hm := metaEq_iff d f n k d' f' n' k' l l'
  generalize ((d == d' && (f == f' && (n == n' && k == k'))) && l == l') = q at hm ⊢
  have no : ∀ F', ¬ (q = true) → Ext F F' → (Value.bool false = .bool q ∧ Ext F F') := by
    intro F' h hE
    rw [Bool.not_eq_true] at h
    exact ⟨by rw [h], hE⟩
  have yes : ∀ F', q = true → Ext F F' → (Value.bool true = .bool q ∧ Ext F F') := by
    intro F' h hE
    exact ⟨by rw [h], hE⟩
  (refine fn_walk tab_ok Try.func9 rfl rfl rfl rfl ?_; (conv => whnf))
  refine new_step (.cells #[.int .i64 d, .int .i64 f, .int .i64 n, .int .i64 k, .slice A l.length c] 26) rfl fun b hb => ?_
  have hE : Ext F (F.put b (.cells #[.int .i64 d, .int .i64 f, .int .i64 n, .int .i64 k, .slice A l.length c] 26)) := Ext.new hb _
  have hB := Heap.put_same F b (.cells #[.int .i64 d, .int .i64 f, .int .i64 n, .int .i64 k, .slice A l.length c] 26)
  generalize F.put b _ = F1 at hE hB ⊢
  (conv => whnf)
  refine new_step (.cells #[.int .i64 d', .int .i64 f', .int .i64 n', .int .i64 k', .slice A' l'.length c'] 26) rfl fun b' hb' => ?_
  have hE2 := hE.trans (Ext.new hb' (.cells #[.int .i64 d', .int .i64 f', .int .i64 n', .int .i64 k', .slice A' l'.length c'] 26))
  have hC := (Ext.new hb' (.cells #[.int .i64 d', .int .i64 f', .int .i64 n', .int .i64 k', .slice A' l'.length c'] 26)) b _ hB
  have hC' := Heap.put_same F1 b' (.cells #[.int .i64 d', .int .i64 f', .int .i64 n', .int .i64 k', .slice A' l'.length c'] 26)
  generalize F1.put b' _ = F2 at hE2 hC hC' ⊢
  have hx := hr.mono hE2
  have hy := hr'.mono hE2
  (conv => whnf)
  refine load_blk hC rfl rfl ?_
  (conv => whnf)
  refine load_blk hC' rfl rfl ?_
  (conv => whnf)
  refine cond_split (fun h => ?_) (fun h => ?_)
  case refine_2 =>
    have h1 : d ≠ d' := by have h : (!(d != d')) = false := h; simpa using h
    (conv => whnf)
    exact no _ (fun h => h1 (hm.1 h).1) hE2
  have h1 : d = d' := by have h : (!(d != d')) = true := h; simpa using h
  (conv => whnf)
  refine load_blk hC rfl rfl ?_
  (conv => whnf)
  refine load_blk hC' rfl rfl ?_
  (conv => whnf)
  refine cond_split (fun h => ?_) (fun h => ?_)
  case refine_2 =>
    have h2 : f ≠ f' := by have h : (!(f != f')) = false := h; simpa using h
    (conv => whnf)
    exact no _ (fun h => h2 (hm.1 h).2.1) hE2
  have h2 : f = f' := by have h : (!(f != f')) = true := h; simpa using h
  (conv => whnf)
  refine load_blk hC rfl rfl ?_
  (conv => whnf)
  refine load_blk hC' rfl rfl ?_
  (conv => whnf)
  refine cond_split (fun h => ?_) (fun h => ?_)
  case refine_2 =>
    have h3 : n ≠ n' := by have h : (!(n != n')) = false := h; simpa using h
    (conv => whnf)
    exact no _ (fun h => h3 (hm.1 h).2.2.1) hE2
  have h3 : n = n' := by have h : (!(n != n')) = true := h; simpa using h
  (conv => whnf)
  refine load_blk hC rfl rfl ?_
  (conv => whnf)
  refine load_blk hC' rfl rfl ?_
  (conv => whnf)
  refine cond_split (fun h => ?_) (fun h => ?_)
  case refine_2 =>
    have h4 : k ≠ k' := by have h : (!(k != k')) = false := h; simpa using h
    (conv => whnf)
    exact no _ (fun h => h4 (hm.1 h).2.2.2.1) hE2
  have h4 : k = k' := by have h : (!(k != k')) = true := h; simpa using h
  (conv => whnf)
  refine load_blk hC rfl rfl ?_
  (conv => whnf)
  refine load_blk hC' rfl rfl ?_
  (conv => whnf)
  refine cond_split (fun h => ?_) (fun h => ?_)
  · have h5 : l.length ≠ l'.length := by
      have h : ((l.length : Int) != (l'.length : Int)) = true := h
      intro e
      rw [e] at h
      simp at h
    (conv => whnf)
    exact no _ (fun h => h5 (by rw [(hm.1 h).2.2.2.2])) hE2
  have heq : l.length = l'.length := by
    have h : ((l.length : Int) != (l'.length : Int)) = false := h
    have := bne_eq_false_iff_eq.1 h
    omega
  (conv => whnf)
  refine loop_slots [2, 3, 5] (fun k vs F' => ∃ j : Nat, j + k = l.length ∧ vs = [.pointer (some ⟨b, 0, none⟩), .pointer (some ⟨b', 0, none⟩), .int .i64 (j : Int)] ∧ l.take j = l'.take j ∧ F' = F2) l.length ⟨0, by omega, rfl, rfl, rfl⟩ ?_
  rintro m vs F3 ρ ⟨j, hjk, rfl, htk, rfl⟩
  (conv => whnf)
  refine load_blk hC rfl rfl ?_
  (conv => whnf)
  refine cond_split (fun h => ?_) (fun h => ?_)
  · have hj : j < l.length := by have := of_decide_eq_true h; omega
    obtain ⟨ad, rfl⟩ := hx.some (by simp; omega)
    obtain ⟨bd, rfl⟩ := hy.some (by simp; omega)
    have hxj : l[j]? = some l[j] := List.getElem?_eq_getElem hj
    have hyj : l'[j]? = some (l'[j]'(by omega)) := List.getElem?_eq_getElem (by omega)
    (conv => whnf)
    refine draw_walk tab_ok (by kernel_rfl) [0, 1, 2, 3, 4, 5, 6, 7, 8, 9, 10] (by kernel_rfl) ?_
    (conv => whnf)
    refine load_blk hC rfl rfl ?_
    (conv => whnf)
    refine ⟨⟨by omega, by omega⟩, ?_⟩
    (conv => whnf)
    refine load_step (v := .int .i64 l[j]) ?_ ?_
    · show F3.cell? (ad.add (Int.toNat (j : Int) * 1)) = _
      rw [Int.toNat_natCast, Nat.mul_one]
      exact hx.cell (by simp [hxj])
    (conv => whnf)
    refine load_blk hC' rfl rfl ?_
    (conv => whnf)
    refine ⟨⟨by omega, by omega⟩, ?_⟩
    (conv => whnf)
    refine load_step (v := .int .i64 (l'[j]'(by omega))) ?_ ?_
    · show F3.cell? (bd.add (Int.toNat (j : Int) * 1)) = _
      rw [Int.toNat_natCast, Nat.mul_one]
      exact hy.cell (by simp [hyj])
    (conv => whnf)
    refine cond_split (fun h => ?_) (fun h => ?_)
    · have hne : l ≠ l' := by
        rintro rfl
        simp at h
      (conv => whnf)
      exact no _ (fun h => hne (hm.1 h).2.2.2.2) hE2
    · have h : ((l[j] : Int) != l'[j]'(by omega)) = false := h
      (conv => whnf)
      refine ⟨m - 1, by omega, j + 1, by omega, ?_, ?_, rfl⟩
      · have hw : IntKind.i64.wrap ((j : Int) + 1) = ((j + 1 : Nat) : Int) := by rw [IntKind.wrap_i64]; omega
        rw [← hw]
        rfl
      · have h := bne_eq_false_iff_eq.1 h
        rw [List.take_add_one, List.take_add_one, hxj, hyj, h, htk]
  · have hj : j = l.length := by have := of_decide_eq_false h; omega
    subst hj
    have hxy : l = l' := by
      rw [List.take_length] at htk
      rw [htk, heq, List.take_length]
    (conv => whnf)
    exact yes _ (hm.2 ⟨h1, h2, h3, h4, hxy⟩) hE2
end Go.Proofs.Ytkahpaipciooiaa.Al

/- The contracts of script.Same, its reference, and the laws' same, over what is known of memory. -/
import Derived.Test.YtkahpaipciooiadScrB
namespace Go.Proofs.Ytkahpaipciooiad.Al
open Go Go.Al Go.Proofs Go.RowKit
set_option maxHeartbeats 8000000
set_option maxRecDepth 100000
set_option linter.unusedVariables false
set_option linter.unusedSimpArgs false
theorem ev_iff (k n k' n' : Int) (bs bs' : List UInt8) (ks ks' : List Int) : ((⟨k, n, bs, ks⟩ : ED) = ⟨k', n', bs', ks'⟩) ↔ k = k' ∧ n = n' ∧ bs = bs' ∧ ks = ks' := by
  rw [ED.mk.injEq]
theorem same (k n : Int) (bs : List UInt8) (ks : List Int) (k' n' : Int) (bs' : List UInt8) (ks' : List Int) (A : Option Addr) (c : Nat) (B : Option Addr) (cc : Nat) (A' : Option Addr) (c' : Nat) (B' : Option Addr) (cc' : Nat) (F : Heap) (ha : RowAt F A (bytesOf bs)) (hr : RowAt F B (ks.map (.int .i64))) (ha' : RowAt F A' (bytesOf bs')) (hr' : RowAt F B' (ks'.map (.int .i64))) (hl : ks.length ≤ 1000) (hl' : ks'.length ≤ 1000) :
    FnK Try.prog 32 #[.agg (evC k n (.slice A bs.length c) (.slice B ks.length cc)), .agg (evC k' n' (.slice A' bs'.length c') (.slice B' ks'.length cc'))] F (fun v F' => (∃ z : Bool, v = .bool z ∧ (z = true ↔ (⟨k, n, bs, ks⟩ : ED) = ⟨k', n', bs', ks'⟩)) ∧ Ext F F') := by
  have hiff := ev_iff k n k' n' bs bs' ks ks'
  have no : ∀ F', ¬ ((⟨k, n, bs, ks⟩ : ED) = ⟨k', n', bs', ks'⟩) → Ext F F' → (∃ z : Bool, Value.bool false = .bool z ∧ (z = true ↔ (⟨k, n, bs, ks⟩ : ED) = ⟨k', n', bs', ks'⟩)) ∧ Ext F F' := fun F' h hX => ⟨⟨false, rfl, ⟨fun e => (by cases e), fun e => absurd e h⟩⟩, hX⟩
  (refine fn_walk tab_ok Try.func32 rfl rfl rfl rfl ?_; (conv => whnf))
  refine new_step (evO k n (.slice A bs.length c) (.slice B ks.length cc)) rfl fun b hb => ?_
  have hE := Ext.new hb (evO k n (.slice A bs.length c) (.slice B ks.length cc))
  have hB := Heap.put_same F b (evO k n (.slice A bs.length c) (.slice B ks.length cc))
  generalize F.put b _ = F1 at hE hB ⊢
  (conv => whnf)
  refine new_step (evO k' n' (.slice A' bs'.length c') (.slice B' ks'.length cc')) rfl fun b' hb' => ?_
  have hE2 := hE.trans (Ext.new hb' (evO k' n' (.slice A' bs'.length c') (.slice B' ks'.length cc')))
  have hC := (Ext.new hb' (evO k' n' (.slice A' bs'.length c') (.slice B' ks'.length cc'))) b _ hB
  have hC' := Heap.put_same F1 b' (evO k' n' (.slice A' bs'.length c') (.slice B' ks'.length cc'))
  generalize F1.put b' _ = F2 at hE2 hC hC' ⊢
  (conv => whnf)
  refine load_blk hC rfl rfl ?_
  (conv => whnf)
  refine load_blk hC' rfl rfl ?_
  (conv => whnf)
  refine cond_split (fun h => ?_) (fun h => ?_)
  case refine_2 =>
    have h : (k == k') = false := h
    (conv => whnf)
    exact no _ (fun e => by rw [(hiff.1 e).1] at h; simp at h) hE2
  have h1 : k = k' := by
    have h : (k == k') = true := h
    simpa using h
  (conv => whnf)
  refine load_blk hC rfl rfl ?_
  (conv => whnf)
  refine load_blk hC' rfl rfl ?_
  (conv => whnf)
  refine cond_split (fun h => ?_) (fun h => ?_)
  case refine_2 =>
    have h : (n == n') = false := h
    (conv => whnf)
    exact no _ (fun e => by rw [(hiff.1 e).2.1] at h; simp at h) hE2
  have h2 : n = n' := by
    have h : (n == n') = true := h
    simpa using h
  (conv => whnf)
  refine load_blk hC rfl rfl ?_
  (conv => whnf)
  refine load_blk hC' rfl rfl ?_
  have hbe := bytesEqual bs bs' A A' c c' F2 (ha.mono hE2) (ha'.mono hE2)
  have hbi : (bs == bs') = true ↔ bs = bs' := beq_iff_eq
  generalize (bs == bs') = z at hbe hbi
  (conv => whnf)
  refine call_of hbe ?_
  rintro v F2 ⟨rfl, rfl⟩
  cases z with
  | false =>
    (conv => whnf)
    exact no _ (fun e => by have := hbi.2 (hiff.1 e).2.2.1; cases this) hE2
  | true =>
  have h3 := hbi.1 rfl
  (conv => whnf)
  refine load_blk hC rfl rfl ?_
  (conv => whnf)
  refine load_blk hC' rfl rfl ?_
  have hse := slicesEqual ks ks' B B' cc cc' F2 (hr.mono hE2) (hr'.mono hE2) (by omega) (by omega)
  have hsi : (ks == ks') = true ↔ ks = ks' := beq_iff_eq
  generalize (ks == ks') = z at hse hsi
  (conv => whnf)
  refine call_of hse ?_
  rintro v F2 ⟨rfl, rfl⟩
  (conv => whnf)
  exact ⟨⟨z, rfl, by rw [hsi, hiff]; exact ⟨fun h => ⟨h1, h2, h3, h⟩, fun h => h.2.2.2⟩⟩, hE2⟩
theorem rsame (k n : Int) (bs : List UInt8) (ks : List Int) (k' n' : Int) (bs' : List UInt8) (ks' : List Int) (A : Option Addr) (c : Nat) (B : Option Addr) (cc : Nat) (A' : Option Addr) (c' : Nat) (B' : Option Addr) (cc' : Nat) (F : Heap) (ha : RowAt F A (bytesOf bs)) (hr : RowAt F B (ks.map (.int .i64))) (ha' : RowAt F A' (bytesOf bs')) (hr' : RowAt F B' (ks'.map (.int .i64))) (hl : ks.length ≤ 1000) (hl' : ks'.length ≤ 1000) :
    FnK Try.prog 33 #[.agg (evC k n (.slice A bs.length c) (.slice B ks.length cc)), .agg (evC k' n' (.slice A' bs'.length c') (.slice B' ks'.length cc'))] F (fun v F' => (∃ z : Bool, v = .bool z ∧ (z = true ↔ (⟨k, n, bs, ks⟩ : ED) = ⟨k', n', bs', ks'⟩)) ∧ Ext F F') := by
  have hiff := ev_iff k n k' n' bs bs' ks ks'
  have no : ∀ F', ¬ ((⟨k, n, bs, ks⟩ : ED) = ⟨k', n', bs', ks'⟩) → Ext F F' → (∃ z : Bool, Value.bool false = .bool z ∧ (z = true ↔ (⟨k, n, bs, ks⟩ : ED) = ⟨k', n', bs', ks'⟩)) ∧ Ext F F' := fun F' h hX => ⟨⟨false, rfl, ⟨fun e => (by cases e), fun e => absurd e h⟩⟩, hX⟩
  have hsb := str_beq bs bs'
  (refine fn_walk tab_ok Try.func33 rfl rfl rfl rfl ?_; (conv => whnf))
  refine new_step (evO k n (.slice A bs.length c) (.slice B ks.length cc)) rfl fun b hb => ?_
  have hE := Ext.new hb (evO k n (.slice A bs.length c) (.slice B ks.length cc))
  have hB := Heap.put_same F b (evO k n (.slice A bs.length c) (.slice B ks.length cc))
  generalize F.put b _ = F1 at hE hB ⊢
  (conv => whnf)
  refine new_step (evO k' n' (.slice A' bs'.length c') (.slice B' ks'.length cc')) rfl fun b' hb' => ?_
  have hE2 := hE.trans (Ext.new hb' (evO k' n' (.slice A' bs'.length c') (.slice B' ks'.length cc')))
  have hC := (Ext.new hb' (evO k' n' (.slice A' bs'.length c') (.slice B' ks'.length cc'))) b _ hB
  have hC' := Heap.put_same F1 b' (evO k' n' (.slice A' bs'.length c') (.slice B' ks'.length cc'))
  generalize F1.put b' _ = F2 at hE2 hC hC' ⊢
  have hx := hr.mono hE2
  have hy := hr'.mono hE2
  (conv => whnf)
  refine load_blk hC rfl rfl ?_
  (conv => whnf)
  refine load_blk hC' rfl rfl ?_
  (conv => whnf)
  refine cond_split (fun h => ?_) (fun h => ?_)
  case refine_2 =>
    have h : (!(k != k')) = false := h
    (conv => whnf)
    exact no _ (fun e => by rw [(hiff.1 e).1] at h; simp at h) hE2
  have h1 : k = k' := by
    have h : (!(k != k')) = true := h
    simpa using h
  (conv => whnf)
  refine load_blk hC rfl rfl ?_
  (conv => whnf)
  refine load_blk hC' rfl rfl ?_
  (conv => whnf)
  refine cond_split (fun h => ?_) (fun h => ?_)
  case refine_2 =>
    have h : (!(n != n')) = false := h
    (conv => whnf)
    exact no _ (fun e => by rw [(hiff.1 e).2.1] at h; simp at h) hE2
  have h2 : n = n' := by
    have h : (!(n != n')) = true := h
    simpa using h
  (conv => whnf)
  refine load_blk hC rfl rfl ?_
  (conv => whnf)
  refine conv_str tab_ok bs rfl rfl rfl rfl rfl (ha.mono hE2) ?_
  (conv => whnf)
  refine load_blk hC' rfl rfl ?_
  (conv => whnf)
  refine conv_str tab_ok bs' rfl rfl rfl rfl rfl (ha'.mono hE2) ?_
  (conv => whnf)
  refine cond_split (fun h => ?_) (fun h => ?_)
  case refine_2 =>
    have h : (!((⟨bs.toArray⟩ : ByteArray).toList != (⟨bs'.toArray⟩ : ByteArray).toList)) = false := h
    unfold bne at h
    rw [hsb] at h
    (conv => whnf)
    exact no _ (fun e => by rw [(hiff.1 e).2.2.1] at h; simp at h) hE2
  have h3 : bs = bs' := by
    have h : (!((⟨bs.toArray⟩ : ByteArray).toList != (⟨bs'.toArray⟩ : ByteArray).toList)) = true := h
    unfold bne at h
    rw [hsb] at h
    simpa using h
  (conv => whnf)
  refine load_blk hC rfl rfl ?_
  (conv => whnf)
  refine load_blk hC' rfl rfl ?_
  (conv => whnf)
  refine cond_split (fun h => ?_) (fun h => ?_)
  · have hn : ks.length ≠ ks'.length := by
      have h : ((ks.length : Int) != (ks'.length : Int)) = true := h
      intro e
      rw [e] at h
      simp at h
    (conv => whnf)
    exact no _ (fun e => hn (by rw [(hiff.1 e).2.2.2])) hE2
  have heq : ks.length = ks'.length := by
    have h : ((ks.length : Int) != (ks'.length : Int)) = false := h
    have := bne_eq_false_iff_eq.1 h
    omega
  (conv => whnf)
  refine loop_slots [2, 3, 5] (fun mm vs F' => ∃ j : Nat, j + mm = ks.length ∧ vs = [.pointer (some ⟨b, 0, none⟩), .pointer (some ⟨b', 0, none⟩), .int .i64 (j : Int)] ∧ ks.take j = ks'.take j ∧ F' = F2) ks.length ⟨0, by omega, rfl, rfl, rfl⟩ ?_
  rintro mm vs F3 ρ ⟨j, hjk, rfl, htk, rfl⟩
  (conv => whnf)
  refine load_blk hC rfl rfl ?_
  (conv => whnf)
  refine cond_split (fun h => ?_) (fun h => ?_)
  · have hj : j < ks.length := by have := of_decide_eq_true h; omega
    obtain ⟨ad, rfl⟩ := hx.some (by simp; omega)
    obtain ⟨bd, rfl⟩ := hy.some (by simp; omega)
    have hxj : ks[j]? = some ks[j] := List.getElem?_eq_getElem hj
    have hyj : ks'[j]? = some (ks'[j]'(by omega)) := List.getElem?_eq_getElem (by omega)
    (conv => whnf)
    refine draw_walk tab_ok (by kernel_rfl) [0, 1, 2, 3, 4, 5, 6, 7, 8, 9, 10] (by kernel_rfl) ?_
    (conv => whnf)
    refine load_blk hC rfl rfl ?_
    (conv => whnf)
    refine ⟨⟨by omega, by omega⟩, ?_⟩
    (conv => whnf)
    refine load_step (v := .int .i64 ks[j]) ?_ ?_
    · show F3.cell? (ad.add (Int.toNat (j : Int) * 1)) = _
      rw [Int.toNat_natCast, Nat.mul_one]
      exact hx.cell (by simp [hxj])
    (conv => whnf)
    refine load_blk hC' rfl rfl ?_
    (conv => whnf)
    refine ⟨⟨by omega, by omega⟩, ?_⟩
    (conv => whnf)
    refine load_step (v := .int .i64 (ks'[j]'(by omega))) ?_ ?_
    · show F3.cell? (bd.add (Int.toNat (j : Int) * 1)) = _
      rw [Int.toNat_natCast, Nat.mul_one]
      exact hy.cell (by simp [hyj])
    (conv => whnf)
    refine cond_split (fun h => ?_) (fun h => ?_)
    · have hne : ks ≠ ks' := by
        rintro rfl
        simp at h
      (conv => whnf)
      exact no _ (fun e => hne (hiff.1 e).2.2.2) hE2
    · have h : ((ks[j] : Int) != ks'[j]'(by omega)) = false := h
      (conv => whnf)
      refine ⟨mm - 1, by omega, j + 1, by omega, ?_, ?_, rfl⟩
      · have hw : IntKind.i64.wrap ((j : Int) + 1) = ((j + 1 : Nat) : Int) := by rw [IntKind.wrap_i64]; omega
        rw [← hw]
        rfl
      · have h := bne_eq_false_iff_eq.1 h
        rw [List.take_add_one, List.take_add_one, hxj, hyj, h, htk]
  · have hj : j = ks.length := by have := of_decide_eq_false h; omega
    subst hj
    have hxy : ks = ks' := by
      rw [List.take_length] at htk
      rw [htk, heq, List.take_length]
    (conv => whnf)
    exact ⟨⟨true, rfl, ⟨fun _ => hiff.2 ⟨h1, h2, h3, hxy⟩, fun _ => rfl⟩⟩, hE2⟩
end Go.Proofs.Ytkahpaipciooiad.Al

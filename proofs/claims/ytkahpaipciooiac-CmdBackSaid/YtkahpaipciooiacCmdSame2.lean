/- The contracts of cmd.Same and of its reference, 2. -/
import Derived.Test.YtkahpaipciooiacCmdSame
namespace Go.Proofs.Ytkahpaipciooiac.Al
open Go Go.Al Go.Proofs Go.RowKit
set_option maxHeartbeats 8000000
set_option maxRecDepth 100000
set_option linter.unusedVariables false
set_option linter.unusedSimpArgs false
def tenEq (k y x f o n p d l a k' y' x' f' o' n' p' d' l' a' : Int) : Bool := k == k' && (y == y' && (x == x' && (f == f' && (o == o' && (n == n' && (p == p' && (d == d' && (l == l' && (a == a' && true)))))))))
theorem run_ten (k y x f o n p d l a k' y' x' f' o' n' p' d' l' a' : Int) (W : World) : (Op.equalIn 10000 75 (.agg #[.int .i64 k, .int .i64 y, .int .i64 x, .int .i64 f, .int .i64 o, .int .i64 n, .int .i64 p, .int .i64 d, .int .i64 l, .int .i64 a]) (.agg #[.int .i64 k', .int .i64 y', .int .i64 x', .int .i64 f', .int .i64 o', .int .i64 n', .int .i64 p', .int .i64 d', .int .i64 l', .int .i64 a'])).run Try.prog W = .ok (tenEq k y x f o n p d l a k' y' x' f' o' n' p' d' l' a') W := by
  obtain ⟨hu1, _⟩ := tab_ok 75 _ rfl
  obtain ⟨hu2, i, hi, hs, _⟩ := tab_ok 3 _ rfl
  rw [show (10000 : Nat) = 9998 + 2 from rfl, run_array_ints W 9998 75 3 10 .i64 i _ _ hu1 hu2 hi hs (fun j hj => ?_)]
  · rfl
  · have h : j = 0 ∨ j = 1 ∨ j = 2 ∨ j = 3 ∨ j = 4 ∨ j = 5 ∨ j = 6 ∨ j = 7 ∨ j = 8 ∨ j = 9 := by omega
    rcases h with rfl | rfl | rfl | rfl | rfl | rfl | rfl | rfl | rfl | rfl <;> exact ⟨_, _, rfl, rfl⟩
theorem tenEq_iff (k y x f o n p d l a k' y' x' f' o' n' p' d' l' a' : Int) : tenEq k y x f o n p d l a k' y' x' f' o' n' p' d' l' a' = true ↔ k = k' ∧ y = y' ∧ x = x' ∧ f = f' ∧ o = o' ∧ n = n' ∧ p = p' ∧ d = d' ∧ l = l' ∧ a = a' := by
  unfold tenEq
  simp only [Bool.and_eq_true, beq_iff_eq, and_true]
theorem same (k y x f o n p d l a : Int) (ab : Bool) (nm : List UInt8) (ls : List LD) (k' y' x' f' o' n' p' d' l' a' : Int) (ab' : Bool) (nm' : List UInt8) (ls' : List LD) (A A' : Option Addr) (c c' : Nat) (F : Heap) (hr : RowAt F A (linesV ls)) (hr' : RowAt F A' (linesV ls')) (hl : ls.length ≤ 10000) (hl' : ls'.length ≤ 10000) :
    FnK Try.prog 30 #[.agg (cmdC k y x f o n p d l a ab ⟨nm.toArray⟩ (.slice A ls.length c)), .agg (cmdC k' y' x' f' o' n' p' d' l' a' ab' ⟨nm'.toArray⟩ (.slice A' ls'.length c'))] F (fun v F' => (∃ z : Bool, v = .bool z ∧ (z = true ↔ (⟨k, y, x, f, o, n, p, d, l, a, ab, nm, ls⟩ : CD) = ⟨k', y', x', f', o', n', p', d', l', a', ab', nm', ls'⟩)) ∧ Ext F F') := by
  have hiff : ((⟨k, y, x, f, o, n, p, d, l, a, ab, nm, ls⟩ : CD) = ⟨k', y', x', f', o', n', p', d', l', a', ab', nm', ls'⟩) ↔ (k = k' ∧ y = y' ∧ x = x' ∧ f = f' ∧ o = o' ∧ n = n' ∧ p = p' ∧ d = d' ∧ l = l' ∧ a = a') ∧ ab = ab' ∧ nm = nm' ∧ ls = ls' := by
    rw [CD.mk.injEq]
    constructor
    · rintro ⟨h1, h2, h3, h4, h5, h6, h7, h8, h9, h10, h⟩; exact ⟨⟨h1, h2, h3, h4, h5, h6, h7, h8, h9, h10⟩, h⟩
    · rintro ⟨⟨h1, h2, h3, h4, h5, h6, h7, h8, h9, h10⟩, h⟩; exact ⟨h1, h2, h3, h4, h5, h6, h7, h8, h9, h10, h⟩
  have no : ∀ F', ¬ ((⟨k, y, x, f, o, n, p, d, l, a, ab, nm, ls⟩ : CD) = ⟨k', y', x', f', o', n', p', d', l', a', ab', nm', ls'⟩) → Ext F F' → (∃ z : Bool, Value.bool false = .bool z ∧ (z = true ↔ (⟨k, y, x, f, o, n, p, d, l, a, ab, nm, ls⟩ : CD) = ⟨k', y', x', f', o', n', p', d', l', a', ab', nm', ls'⟩)) ∧ Ext F F' := fun F' h hX => ⟨⟨false, rfl, ⟨fun e => (by cases e), fun e => absurd e h⟩⟩, hX⟩
  have h10 := run_ten k y x f o n p d l a k' y' x' f' o' n' p' d' l' a'
  have i10 := tenEq_iff k y x f o n p d l a k' y' x' f' o' n' p' d' l' a'
  generalize tenEq k y x f o n p d l a k' y' x' f' o' n' p' d' l' a' = q10 at h10 i10
  have n1 := fun G => nums10 k y x f o n p d l a ab ⟨nm.toArray⟩ (.slice A ls.length c) G rfl
  have n2 := fun G => nums10 k' y' x' f' o' n' p' d' l' a' ab' ⟨nm'.toArray⟩ (.slice A' ls'.length c') G rfl
  have hsb := str_beq nm nm'
  (refine fn_walk tab_ok Try.func30 rfl rfl rfl rfl ?_; (conv => whnf))
  refine new_step (cmdO k y x f o n p d l a ab ⟨nm.toArray⟩ (.slice A ls.length c)) rfl fun b hb => ?_
  have hE := Ext.new hb (cmdO k y x f o n p d l a ab ⟨nm.toArray⟩ (.slice A ls.length c))
  have hB := Heap.put_same F b (cmdO k y x f o n p d l a ab ⟨nm.toArray⟩ (.slice A ls.length c))
  generalize F.put b _ = F1 at hE hB ⊢
  (conv => whnf)
  refine new_step (cmdO k' y' x' f' o' n' p' d' l' a' ab' ⟨nm'.toArray⟩ (.slice A' ls'.length c')) rfl fun b' hb' => ?_
  have hE2 := hE.trans (Ext.new hb' (cmdO k' y' x' f' o' n' p' d' l' a' ab' ⟨nm'.toArray⟩ (.slice A' ls'.length c')))
  have hC := (Ext.new hb' (cmdO k' y' x' f' o' n' p' d' l' a' ab' ⟨nm'.toArray⟩ (.slice A' ls'.length c'))) b _ hB
  have hC' := Heap.put_same F1 b' (cmdO k' y' x' f' o' n' p' d' l' a' ab' ⟨nm'.toArray⟩ (.slice A' ls'.length c'))
  generalize F1.put b' _ = F2 at hE2 hC hC' ⊢
  (conv => whnf)
  refine draw_tree tab_ok (by kernel_rfl) [1, 4] (DT.row [0, 1, 3, 4, 2, 5, 6, 7, 8, 9, 10, 11, 12, 13, 14, 15, 16, 17, 18, 19, 20, 21, 22, 23, 24, 25, 26, 27, 28] .nil) (by kernel_rfl) ?_
  (conv => whnf)
  refine ⟨⟨_, _, _, hC, rfl, Nat.le_refl 13, ?_⟩⟩
  (conv => whnf)
  refine ⟨⟨_, _, _, hC', rfl, Nat.le_refl 13, ?_⟩⟩
  (conv => whnf)
  refine call_of (n1 F2) ?_
  rintro v F3 ⟨rfl, hE3⟩
  refine ⟨hE3, ?_⟩
  (conv => whnf)
  refine call_of (n2 F3) ?_
  rintro v F4 ⟨rfl, hE4⟩
  replace hE4 := hE3.trans hE4
  refine ⟨hE4, ?_⟩
  (conv => whnf)
  refine op_eql q10 rfl rfl rfl (by kernel_rfl) h10 ?_
  refine ⟨hE4, ?_⟩
  replace hC := hE4 _ _ hC
  replace hC' := hE4 _ _ hC'
  have hE5 := hE2.trans hE4
  cases q10 with
  | false =>
    (conv => whnf)
    exact no _ (fun h => by have := i10.2 (hiff.1 h).1; cases this) hE5
  | true =>
  have h1 := i10.1 rfl
  (conv => whnf)
  refine load_blk hC rfl rfl ?_
  (conv => whnf)
  refine load_blk hC' rfl rfl ?_
  (conv => whnf)
  refine cond_split (fun h => ?_) (fun h => ?_)
  case refine_2 =>
    have h : (ab == ab') = false := h
    (conv => whnf)
    exact no _ (fun e => by rw [(hiff.1 e).2.1] at h; simp at h) hE5
  have h2 : ab = ab' := by
    have h : (ab == ab') = true := h
    simpa using h
  (conv => whnf)
  refine load_blk hC rfl rfl ?_
  (conv => whnf)
  refine load_blk hC' rfl rfl ?_
  (conv => whnf)
  refine cond_split (fun h => ?_) (fun h => ?_)
  case refine_2 =>
    have h : ((⟨nm.toArray⟩ : ByteArray).toList == (⟨nm'.toArray⟩ : ByteArray).toList) = false := h
    rw [hsb] at h
    (conv => whnf)
    exact no _ (fun e => by rw [(hiff.1 e).2.2.1] at h; simp at h) hE5
  have h3 : nm = nm' := by
    have h : ((⟨nm.toArray⟩ : ByteArray).toList == (⟨nm'.toArray⟩ : ByteArray).toList) = true := h
    rw [hsb] at h
    simpa using h
  (conv => whnf)
  refine load_blk hC rfl rfl ?_
  (conv => whnf)
  refine load_blk hC' rfl rfl ?_
  (conv => whnf)
  refine call_of (slicesEqualL ls ls' A A' c c' F4 (hr.mono hE5) (hr'.mono hE5) (by omega) (by omega)) ?_
  rintro v F5 ⟨⟨z, rfl, hz⟩, rfl⟩
  refine ⟨hE4, ?_⟩
  (conv => whnf)
  exact ⟨⟨z, rfl, by rw [hz, hiff]; exact ⟨fun h => ⟨h1, h2, h3, h⟩, fun h => h.2.2.2⟩⟩, hE5⟩
theorem rsame (k y x f o n p d l a : Int) (ab : Bool) (nm : List UInt8) (ls : List LD) (k' y' x' f' o' n' p' d' l' a' : Int) (ab' : Bool) (nm' : List UInt8) (ls' : List LD) (A A' : Option Addr) (c c' : Nat) (F : Heap) (hr : RowAt F A (linesV ls)) (hr' : RowAt F A' (linesV ls')) (hl : ls.length ≤ 10000) (hl' : ls'.length ≤ 10000) :
    FnK Try.prog 22 #[.agg (cmdC k y x f o n p d l a ab ⟨nm.toArray⟩ (.slice A ls.length c)), .agg (cmdC k' y' x' f' o' n' p' d' l' a' ab' ⟨nm'.toArray⟩ (.slice A' ls'.length c'))] F (fun v F' => (∃ z : Bool, v = .bool z ∧ (z = true ↔ (⟨k, y, x, f, o, n, p, d, l, a, ab, nm, ls⟩ : CD) = ⟨k', y', x', f', o', n', p', d', l', a', ab', nm', ls'⟩)) ∧ Ext F F') := by
  have hiff : ((⟨k, y, x, f, o, n, p, d, l, a, ab, nm, ls⟩ : CD) = ⟨k', y', x', f', o', n', p', d', l', a', ab', nm', ls'⟩) ↔ (k = k' ∧ y = y' ∧ x = x' ∧ f = f' ∧ o = o' ∧ n = n' ∧ p = p' ∧ d = d' ∧ l = l' ∧ a = a') ∧ ab = ab' ∧ nm = nm' ∧ ls = ls' := by
    rw [CD.mk.injEq]
    constructor
    · rintro ⟨h1, h2, h3, h4, h5, h6, h7, h8, h9, h10, h⟩; exact ⟨⟨h1, h2, h3, h4, h5, h6, h7, h8, h9, h10⟩, h⟩
    · rintro ⟨⟨h1, h2, h3, h4, h5, h6, h7, h8, h9, h10⟩, h⟩; exact ⟨h1, h2, h3, h4, h5, h6, h7, h8, h9, h10, h⟩
  have no : ∀ F', ¬ ((⟨k, y, x, f, o, n, p, d, l, a, ab, nm, ls⟩ : CD) = ⟨k', y', x', f', o', n', p', d', l', a', ab', nm', ls'⟩) → Ext F F' → (∃ z : Bool, Value.bool false = .bool z ∧ (z = true ↔ (⟨k, y, x, f, o, n, p, d, l, a, ab, nm, ls⟩ : CD) = ⟨k', y', x', f', o', n', p', d', l', a', ab', nm', ls'⟩)) ∧ Ext F F' := fun F' h hX => ⟨⟨false, rfl, ⟨fun e => (by cases e), fun e => absurd e h⟩⟩, hX⟩
  have hsb := str_beq nm nm'
  (refine fn_walk tab_ok Try.func22 rfl rfl rfl rfl ?_; (conv => whnf))
  refine new_step (cmdO k y x f o n p d l a ab ⟨nm.toArray⟩ (.slice A ls.length c)) rfl fun b hb => ?_
  have hE := Ext.new hb (cmdO k y x f o n p d l a ab ⟨nm.toArray⟩ (.slice A ls.length c))
  have hB := Heap.put_same F b (cmdO k y x f o n p d l a ab ⟨nm.toArray⟩ (.slice A ls.length c))
  generalize F.put b _ = F1 at hE hB ⊢
  (conv => whnf)
  refine new_step (cmdO k' y' x' f' o' n' p' d' l' a' ab' ⟨nm'.toArray⟩ (.slice A' ls'.length c')) rfl fun b' hb' => ?_
  have hE2 := hE.trans (Ext.new hb' (cmdO k' y' x' f' o' n' p' d' l' a' ab' ⟨nm'.toArray⟩ (.slice A' ls'.length c')))
  have hC := (Ext.new hb' (cmdO k' y' x' f' o' n' p' d' l' a' ab' ⟨nm'.toArray⟩ (.slice A' ls'.length c'))) b _ hB
  have hC' := Heap.put_same F1 b' (cmdO k' y' x' f' o' n' p' d' l' a' ab' ⟨nm'.toArray⟩ (.slice A' ls'.length c'))
  generalize F1.put b' _ = F2 at hE2 hC hC' ⊢
  have hx := hr.mono hE2
  have hy := hr'.mono hE2
  (conv => whnf)
  refine load_blk hC rfl rfl ?_
  (conv => whnf)
  refine load_blk hC' rfl rfl ?_
  (conv => whnf)
  refine cond_split (fun h => ?_) (fun h => ?_)
  case refine_2 =>
    have e0 : k ≠ k' := by have h : (!(k != k')) = false := h; simpa using h
    (conv => whnf)
    exact no _ (fun h => e0 (by replace h := hiff.1 h; exact h.1.1)) hE2
  have e0 : k = k' := by have h : (!(k != k')) = true := h; simpa using h
  (conv => whnf)
  refine load_blk hC rfl rfl ?_
  (conv => whnf)
  refine load_blk hC' rfl rfl ?_
  (conv => whnf)
  refine cond_split (fun h => ?_) (fun h => ?_)
  case refine_2 =>
    have e1 : y ≠ y' := by have h : (!(y != y')) = false := h; simpa using h
    (conv => whnf)
    exact no _ (fun h => e1 (by replace h := hiff.1 h; exact h.1.2.1)) hE2
  have e1 : y = y' := by have h : (!(y != y')) = true := h; simpa using h
  (conv => whnf)
  refine load_blk hC rfl rfl ?_
  (conv => whnf)
  refine load_blk hC' rfl rfl ?_
  (conv => whnf)
  refine cond_split (fun h => ?_) (fun h => ?_)
  case refine_2 =>
    have e2 : x ≠ x' := by have h : (!(x != x')) = false := h; simpa using h
    (conv => whnf)
    exact no _ (fun h => e2 (by replace h := hiff.1 h; exact h.1.2.2.1)) hE2
  have e2 : x = x' := by have h : (!(x != x')) = true := h; simpa using h
  (conv => whnf)
  refine load_blk hC rfl rfl ?_
  (conv => whnf)
  refine load_blk hC' rfl rfl ?_
  (conv => whnf)
  refine cond_split (fun h => ?_) (fun h => ?_)
  case refine_2 =>
    have e3 : f ≠ f' := by have h : (!(f != f')) = false := h; simpa using h
    (conv => whnf)
    exact no _ (fun h => e3 (by replace h := hiff.1 h; exact h.1.2.2.2.1)) hE2
  have e3 : f = f' := by have h : (!(f != f')) = true := h; simpa using h
  (conv => whnf)
  refine load_blk hC rfl rfl ?_
  (conv => whnf)
  refine load_blk hC' rfl rfl ?_
  (conv => whnf)
  refine cond_split (fun h => ?_) (fun h => ?_)
  case refine_2 =>
    have e4 : o ≠ o' := by have h : (!(o != o')) = false := h; simpa using h
    (conv => whnf)
    exact no _ (fun h => e4 (by replace h := hiff.1 h; exact h.1.2.2.2.2.1)) hE2
  have e4 : o = o' := by have h : (!(o != o')) = true := h; simpa using h
  (conv => whnf)
  refine load_blk hC rfl rfl ?_
  (conv => whnf)
  refine load_blk hC' rfl rfl ?_
  (conv => whnf)
  refine cond_split (fun h => ?_) (fun h => ?_)
  case refine_2 =>
    have e5 : n ≠ n' := by have h : (!(n != n')) = false := h; simpa using h
    (conv => whnf)
    exact no _ (fun h => e5 (by replace h := hiff.1 h; exact h.1.2.2.2.2.2.1)) hE2
  have e5 : n = n' := by have h : (!(n != n')) = true := h; simpa using h
  (conv => whnf)
  refine load_blk hC rfl rfl ?_
  (conv => whnf)
  refine load_blk hC' rfl rfl ?_
  (conv => whnf)
  refine cond_split (fun h => ?_) (fun h => ?_)
  · have e6 : p ≠ p' := by have h : (p != p') = true := h; simpa using h
    (conv => whnf)
    exact no _ (fun h => e6 (by replace h := hiff.1 h; exact h.1.2.2.2.2.2.2.1)) hE2
  have e6 : p = p' := by have h : (p != p') = false := h; simpa using h
  refine short [2, 3] [.pointer (some ⟨b, 0, none⟩), .pointer (some ⟨b', 0, none⟩)] rfl fun ρ => ?_
  (conv => whnf)
  refine load_blk hC rfl rfl ?_
  (conv => whnf)
  refine load_blk hC' rfl rfl ?_
  (conv => whnf)
  refine cond_split (fun h => ?_) (fun h => ?_)
  case refine_2 =>
    have e7 : d ≠ d' := by have h : (!(d != d')) = false := h; simpa using h
    (conv => whnf)
    exact no _ (fun h => e7 (by replace h := hiff.1 h; exact h.1.2.2.2.2.2.2.2.1)) hE2
  have e7 : d = d' := by have h : (!(d != d')) = true := h; simpa using h
  (conv => whnf)
  refine load_blk hC rfl rfl ?_
  (conv => whnf)
  refine load_blk hC' rfl rfl ?_
  (conv => whnf)
  refine cond_split (fun h => ?_) (fun h => ?_)
  case refine_2 =>
    have e8 : l ≠ l' := by have h : (!(l != l')) = false := h; simpa using h
    (conv => whnf)
    exact no _ (fun h => e8 (by replace h := hiff.1 h; exact h.1.2.2.2.2.2.2.2.2.1)) hE2
  have e8 : l = l' := by have h : (!(l != l')) = true := h; simpa using h
  (conv => whnf)
  refine load_blk hC rfl rfl ?_
  (conv => whnf)
  refine load_blk hC' rfl rfl ?_
  (conv => whnf)
  refine cond_split (fun h => ?_) (fun h => ?_)
  case refine_2 =>
    have e9 : a ≠ a' := by have h : (!(a != a')) = false := h; simpa using h
    (conv => whnf)
    exact no _ (fun h => e9 (by replace h := hiff.1 h; exact h.1.2.2.2.2.2.2.2.2.2)) hE2
  have e9 : a = a' := by have h : (!(a != a')) = true := h; simpa using h
  (conv => whnf)
  refine load_blk hC rfl rfl ?_
  (conv => whnf)
  refine load_blk hC' rfl rfl ?_
  (conv => whnf)
  refine cond_split (fun h => ?_) (fun h => ?_)
  case refine_2 =>
    have h : (!(!(ab == ab'))) = false := h
    (conv => whnf)
    exact no _ (fun e => by rw [(hiff.1 e).2.1] at h; simp at h) hE2
  have h2 : ab = ab' := by
    have h : (!(!(ab == ab'))) = true := h
    simpa using h
  (conv => whnf)
  refine load_blk hC rfl rfl ?_
  (conv => whnf)
  refine load_blk hC' rfl rfl ?_
  (conv => whnf)
  refine cond_split (fun h => ?_) (fun h => ?_)
  case refine_2 =>
    have h : (!((⟨nm.toArray⟩ : ByteArray).toList != (⟨nm'.toArray⟩ : ByteArray).toList)) = false := h
    unfold bne at h
    rw [hsb] at h
    (conv => whnf)
    exact no _ (fun e => by rw [(hiff.1 e).2.2.1] at h; simp at h) hE2
  have h3 : nm = nm' := by
    have h : (!((⟨nm.toArray⟩ : ByteArray).toList != (⟨nm'.toArray⟩ : ByteArray).toList)) = true := h
    unfold bne at h
    rw [hsb] at h
    simpa using h
  (conv => whnf)
  refine load_blk hC rfl rfl ?_
  (conv => whnf)
  refine load_blk hC' rfl rfl ?_
  (conv => whnf)
  refine cond_split (fun h => ?_) (fun h => ?_)
  · have hn : ls.length ≠ ls'.length := by
      have h : ((ls.length : Int) != (ls'.length : Int)) = true := h
      intro e
      rw [e] at h
      simp at h
    (conv => whnf)
    exact no _ (fun e => hn (by rw [(hiff.1 e).2.2.2])) hE2
  have heq : ls.length = ls'.length := by
    have h : ((ls.length : Int) != (ls'.length : Int)) = false := h
    have := bne_eq_false_iff_eq.1 h
    omega
  refine short [2, 3] [.pointer (some ⟨b, 0, none⟩), .pointer (some ⟨b', 0, none⟩)] rfl fun ρ => ?_
  (conv => whnf)
  refine loop_slots [2, 3, 5] (fun mm vs F' => ∃ j : Nat, j + mm = ls.length ∧ vs = [.pointer (some ⟨b, 0, none⟩), .pointer (some ⟨b', 0, none⟩), .int .i64 (j : Int)] ∧ ls.take j = ls'.take j ∧ F' = F2) ls.length ⟨0, by omega, rfl, rfl, rfl⟩ ?_
  rintro mm vs F3 ρ ⟨j, hjk, rfl, htk, rfl⟩
  (conv => whnf)
  refine load_blk hC rfl rfl ?_
  (conv => whnf)
  refine cond_split (fun h => ?_) (fun h => ?_)
  · have hj : j < ls.length := by have := of_decide_eq_true h; omega
    obtain ⟨ad, rfl⟩ := hx.some (by rw [linesV_len]; omega)
    obtain ⟨bd, rfl⟩ := hy.some (by rw [linesV_len]; omega)
    have hxj : ls[j]? = some ls[j] := List.getElem?_eq_getElem hj
    have hyj : ls'[j]? = some (ls'[j]'(by omega)) := List.getElem?_eq_getElem (by omega)
    have hL1 := fun (K : Value → Prop) => line_load (K := K) hx hj
    have hL2 := fun (K : Value → Prop) => line_load (K := K) hy (j := j) (by omega)
    have hja : ad.add (Int.toNat (j : Int) * 4) = ad.add (j * 4) := by rw [Int.toNat_natCast]
    have hjb : bd.add (Int.toNat (j : Int) * 4) = bd.add (j * 4) := by rw [Int.toNat_natCast]
    rw [← hja] at hL1
    rw [← hjb] at hL2
    have hrl := run_line ls[j] (ls'[j]'(by omega))
    have hli := lnEq_iff ls[j] (ls'[j]'(by omega))
    generalize ls[j] = w at hxj hL1 hrl hli
    generalize ls'[j]'(by omega) = v at hyj hL2 hrl hli
    generalize lnEq w v = z at hrl hli
    (conv => whnf)
    refine draw_tree tab_ok (by kernel_rfl) [] (DT.row [0, 1, 2, 3, 4, 5, 6, 7, 8, 9, 10] .nil) (by kernel_rfl) ?_
    (conv => whnf)
    refine load_blk hC rfl rfl ?_
    (conv => whnf)
    refine ⟨⟨by omega, by omega⟩, ?_⟩
    (conv => whnf)
    refine hL1 _ ?_
    (conv => whnf)
    refine load_blk hC' rfl rfl ?_
    (conv => whnf)
    refine ⟨⟨by omega, by omega⟩, ?_⟩
    (conv => whnf)
    refine hL2 _ ?_
    (conv => whnf)
    refine op_neq z rfl rfl rfl (by kernel_rfl) hrl ?_
    refine ⟨Ext.refl _, ?_⟩
    cases z with
    | false =>
      (conv => whnf)
      exact no _ (fun e => by
        have e := (hiff.1 e).2.2.2
        rw [e] at hxj
        rw [hxj] at hyj
        have := hli.2 (Option.some.inj hyj)
        cases this) hE2
    | true =>
      have hwv := hli.1 rfl
      (conv => whnf)
      refine ⟨mm - 1, by omega, j + 1, by omega, ?_, ?_, rfl⟩
      · have hw : IntKind.i64.wrap ((j : Int) + 1) = ((j + 1 : Nat) : Int) := by rw [IntKind.wrap_i64]; omega
        rw [← hw]
        rfl
      · rw [List.take_add_one, List.take_add_one, hxj, hyj, htk, hwv]
  · have hj : j = ls.length := by have := of_decide_eq_false h; omega
    subst hj
    have hxy : ls = ls' := by
      rw [List.take_length] at htk
      rw [htk, heq, List.take_length]
    (conv => whnf)
    exact ⟨⟨true, rfl, ⟨fun _ => hiff.2 ⟨⟨e0, e1, e2, e3, e4, e5, e6, e7, e8, e9⟩, h2, h3, hxy⟩, fun _ => rfl⟩⟩, hE2⟩
end Go.Proofs.Ytkahpaipciooiac.Al

/- The contract of the reference's may, over what is known of memory. -/
import Derived.Test.YtkahpaipciooiacCmdMay
namespace Go.Proofs.Ytkahpaipciooiac.Al
open Go Go.Al Go.Proofs Go.RowKit
set_option maxHeartbeats 8000000
set_option maxRecDepth 100000
set_option linter.unusedVariables false
set_option linter.unusedSimpArgs false
theorem line_cell {F : Heap} {ad : Addr} {ls : List LD} {j : Nat} (hr : RowAt F (some ad) (linesV ls)) (hj : j < ls.length) (q : Nat) (v : Value) (hq : (lineV ls[j])[q]? = some v) : F.cell? ((ad.add (Int.toNat (j : Int) * 4)).add q) = some v := by
  have hx : ls[j]? = some ls[j] := List.getElem?_eq_getElem hj
  rw [add_add, Int.toNat_natCast]
  refine hr.cell ?_
  have h4 : q < 4 := (List.getElem?_eq_some_iff.1 hq).1
  have := linesV_at ls j _ hx
  rw [← this, List.getElem?_take, if_pos h4, List.getElem?_drop] at hq
  exact hq
theorem rmay (k y x f o n p d l a : Int) (ab : Bool) (nm : List UInt8) (ls : List LD) (A : Option Addr) (c : Nat) (F : Heap) (hr : RowAt F A (linesV ls)) (hn : nm.length ≤ 100000) (hl : ls.length ≤ 10000) :
    FnK Try.prog 50 #[.agg (cmdC k y x f o n p d l a ab ⟨nm.toArray⟩ (.slice A ls.length c))] F (fun v F' => v = .bool (mayB ⟨k, y, x, f, o, n, p, d, l, a, ab, nm, ls⟩) ∧ Ext F F') := by
  have hm := mayB_iff ⟨k, y, x, f, o, n, p, d, l, a, ab, nm, ls⟩
  generalize mayB ⟨k, y, x, f, o, n, p, d, l, a, ab, nm, ls⟩ = q at hm ⊢
  dsimp only at hm
  have no : ∀ F', ¬ (q = true) → Ext F F' → (Value.bool false = .bool q ∧ Ext F F') := by
    intro F' h hE
    rw [Bool.not_eq_true] at h
    exact ⟨by rw [h], hE⟩
  have c1 := rknown k
  generalize knownB k = z1 at c1 hm
  have c2 := fun A F hr => rright 2 (.inr (.inl rfl)) [y, x, f, o, n, p] A 6 F hr (by simp)
  generalize ([y, x, f, o, n, p] : List Int).all (inM 2) = z2 at c2 hm
  have c3 := fun A F hr => rright 4 (.inr (.inr (.inl rfl))) [d] A 1 F hr (by simp)
  generalize ([d] : List Int).all (inM 4) = z3 at c3 hm
  have c4 := fun A F hr => rright 1 (.inl rfl) [l] A 1 F hr (by simp)
  generalize ([l] : List Int).all (inM 1) = z4 at c4 hm
  have c5 := fun (q : LD) A F hr => rright 2 (.inr (.inl rfl)) [q.f, q.o, q.n] A 3 F hr (by simp)
  (refine fn_walk tab_ok Try.func50 rfl rfl rfl rfl ?_; (conv => whnf))
  refine new_step (cmdO k y x f o n p d l a ab ⟨nm.toArray⟩ (.slice A ls.length c)) rfl fun b hb => ?_
  have hE := Ext.new hb (cmdO k y x f o n p d l a ab ⟨nm.toArray⟩ (.slice A ls.length c))
  have hB := Heap.put_same F b (cmdO k y x f o n p d l a ab ⟨nm.toArray⟩ (.slice A ls.length c))
  generalize F.put b _ = F1 at hE hB ⊢
  (conv => whnf)
  refine load_blk hB rfl rfl ?_
  (conv => whnf)
  refine call_of (c1 _) ?_
  rintro v F1 ⟨rfl, rfl⟩
  cases z1 with
  | false =>
    (conv => whnf)
    exact no _ (fun h => by cases (hm.1 h).1) hE
  | true =>
  (conv => whnf)
  refine load_blk hB rfl rfl ?_
  (conv => whnf)
  refine load_blk hB rfl rfl ?_
  (conv => whnf)
  refine load_blk hB rfl rfl ?_
  (conv => whnf)
  refine load_blk hB rfl rfl ?_
  (conv => whnf)
  refine load_blk hB rfl rfl ?_
  (conv => whnf)
  refine load_blk hB rfl rfl ?_
  (conv => whnf)
  refine new_step (.cells (([y, x, f, o, n, p] : List Int).map (Value.int .i64)).toArray 3) rfl fun g hg => ?_
  have hE2 := hE.trans (Ext.new hg (.cells (([y, x, f, o, n, p] : List Int).map (Value.int .i64)).toArray 3))
  have hB2 := (Ext.new hg (.cells (([y, x, f, o, n, p] : List Int).map (Value.int .i64)).toArray 3)) _ _ hB
  have hG := Heap.put_same F1 g (.cells (([y, x, f, o, n, p] : List Int).map (Value.int .i64)).toArray 3)
  generalize F1.put g _ = F2 at hE2 hB2 hG ⊢
  (conv => whnf)
  refine call_of (c2 (some ⟨g, 0, none⟩) F2 (row_new hG)) ?_
  rintro v F3 ⟨rfl, rfl⟩
  refine short [1, 8, 22] [.pointer (some ⟨b, 0, none⟩), .bool false, .bool z2] rfl fun ρ => ?_
  cases z2 with
  | false =>
    (conv => whnf)
    exact no _ (fun h => by cases (hm.1 h).2.2.2.1) hE2
  | true =>
  (conv => whnf)
  refine load_blk hB2 rfl rfl ?_
  (conv => whnf)
  refine new_step (.cells (([d] : List Int).map (Value.int .i64)).toArray 3) rfl fun g hg => ?_
  have hE4 := hE2.trans (Ext.new hg (.cells (([d] : List Int).map (Value.int .i64)).toArray 3))
  have hB4 := (Ext.new hg (.cells (([d] : List Int).map (Value.int .i64)).toArray 3)) _ _ hB2
  have hG := Heap.put_same F3 g (.cells (([d] : List Int).map (Value.int .i64)).toArray 3)
  generalize F3.put g _ = F4 at hE4 hB4 hG ⊢
  (conv => whnf)
  refine call_of (c3 (some ⟨g, 0, none⟩) F4 (row_new hG)) ?_
  rintro v F5 ⟨rfl, rfl⟩
  cases z3 with
  | false =>
    (conv => whnf)
    exact no _ (fun h => by cases (hm.1 h).2.2.2.2.1) hE4
  | true =>
  (conv => whnf)
  refine load_blk hB4 rfl rfl ?_
  (conv => whnf)
  refine new_step (.cells (([l] : List Int).map (Value.int .i64)).toArray 3) rfl fun g hg => ?_
  have hE6 := hE4.trans (Ext.new hg (.cells (([l] : List Int).map (Value.int .i64)).toArray 3))
  have hB6 := (Ext.new hg (.cells (([l] : List Int).map (Value.int .i64)).toArray 3)) _ _ hB4
  have hG := Heap.put_same F5 g (.cells (([l] : List Int).map (Value.int .i64)).toArray 3)
  generalize F5.put g _ = F6 at hE6 hB6 hG ⊢
  (conv => whnf)
  refine call_of (c4 (some ⟨g, 0, none⟩) F6 (row_new hG)) ?_
  rintro v F7 ⟨rfl, rfl⟩
  cases z4 with
  | false =>
    (conv => whnf)
    exact no _ (fun h => by cases (hm.1 h).2.2.2.2.2.1) hE6
  | true =>
  (conv => whnf)
  refine loop_slots [1, 3] (fun mm vs F' => ∃ j : Nat, j + mm = ls.length ∧ vs = [.pointer (some ⟨b, 0, none⟩), .int .i64 (j : Int)] ∧ (ls.take j).all lineOk = true ∧ Ext F F' ∧ F' b = some (cmdO k y x f o n p d l a ab ⟨nm.toArray⟩ (.slice A ls.length c))) ls.length ⟨0, by omega, rfl, rfl, hE6, hB6⟩ ?_
  rintro m vs F8 ρ ⟨j, hjm, rfl, hall, hE8, hB8⟩
  (conv => whnf)
  refine load_blk hB8 rfl rfl ?_
  (conv => whnf)
  refine cond_split (fun h => ?_) (fun h => ?_)
  · have hj : j < ls.length := by have := of_decide_eq_true h; omega
    obtain ⟨ad, rfl⟩ := hr.some (by rw [linesV_len]; omega)
    obtain ⟨ht1, ht2⟩ := all_take hj hall
    have c6 := c5 ls[j]
    change ∀ A F, _ → FnK _ _ _ _ (fun v F' => v = .bool (lineOk ls[j]) ∧ _) at c6
    generalize lineOk ls[j] = z5 at ht1 ht2 c6
    have hc0 := line_cell (hr.mono hE8) hj 0 _ rfl
    have hc1 := line_cell (hr.mono hE8) hj 1 _ rfl
    have hc2 := line_cell (hr.mono hE8) hj 2 _ rfl
    generalize ls[j] = w at c6 hc0 hc1 hc2
    obtain ⟨wf, wo, wn, wa⟩ := w
    dsimp only at c6 hc0 hc1 hc2
    (conv => whnf)
    refine draw_walk tab_ok (by kernel_rfl) [0, 1, 2, 3, 4, 5, 6, 7, 8, 9, 10, 11, 12, 13, 14, 15, 16, 17, 18, 19, 20] (by kernel_rfl) ?_
    (conv => whnf)
    refine load_blk hB8 rfl rfl ?_
    (conv => whnf)
    refine ⟨⟨by omega, by omega⟩, ?_⟩
    (conv => whnf)
    refine load_step hc0 ?_
    (conv => whnf)
    refine load_blk hB8 rfl rfl ?_
    (conv => whnf)
    refine ⟨⟨by omega, by omega⟩, ?_⟩
    (conv => whnf)
    refine load_step hc1 ?_
    (conv => whnf)
    refine load_blk hB8 rfl rfl ?_
    (conv => whnf)
    refine ⟨⟨by omega, by omega⟩, ?_⟩
    (conv => whnf)
    refine load_step hc2 ?_
    (conv => whnf)
    refine new_step (.cells (([wf, wo, wn] : List Int).map (Value.int .i64)).toArray 3) rfl fun g hg => ?_
    have hE9 := hE8.trans (Ext.new hg (.cells (([wf, wo, wn] : List Int).map (Value.int .i64)).toArray 3))
    have hB9 := (Ext.new hg (.cells (([wf, wo, wn] : List Int).map (Value.int .i64)).toArray 3)) _ _ hB8
    have hG := Heap.put_same F8 g (.cells (([wf, wo, wn] : List Int).map (Value.int .i64)).toArray 3)
    generalize F8.put g _ = F9 at hE9 hB9 hG ⊢
    (conv => whnf)
    refine call_of (c6 (some ⟨g, 0, none⟩) F9 (row_new hG)) ?_
    rintro v F9 ⟨rfl, rfl⟩
    cases z5 with
    | false =>
      (conv => whnf)
      exact no _ (fun h => by have := (hm.1 h).2.2.2.2.2.2; rw [ht2 rfl] at this; cases this) hE9
    | true =>
      (conv => whnf)
      refine ⟨m - 1, by omega, j + 1, by omega, ?_, ht1, hE9, hB9⟩
      have hw : IntKind.i64.wrap ((j : Int) + 1) = ((j + 1 : Nat) : Int) := by rw [IntKind.wrap_i64]; omega
      rw [← hw]
      rfl
  · have hj : j = ls.length := by have := of_decide_eq_false h; omega
    subst hj
    rw [List.take_length] at hall
    (conv => whnf)
    refine load_blk hB8 rfl rfl ?_
    (conv => whnf)
    refine cond_split (fun h => ?_) (fun h => ?_)
    · have h1 : decide (((nm.length : Nat) : Int) ≤ 255) = true := h
      have h1 := of_decide_eq_true h1
      (conv => whnf)
      refine load_blk hB8 rfl rfl ?_
      (conv => whnf)
      refine ⟨congrArg Value.bool ?_, hE8⟩
      show decide (((ls.length : Nat) : Int) ≤ 255) = q
      rw [Bool.eq_iff_iff, decide_eq_true_iff, hm]
      constructor
      · intro h2; exact ⟨rfl, by omega, by omega, rfl, rfl, rfl, hall⟩
      · intro h2; have := h2.2.2.1; omega
    · have h1 : decide (((nm.length : Nat) : Int) ≤ 255) = false := h
      have h1 := of_decide_eq_false h1
      (conv => whnf)
      exact no _ (fun h => by have := (hm.1 h).2.1; omega) hE8
end Go.Proofs.Ytkahpaipciooiac.Al

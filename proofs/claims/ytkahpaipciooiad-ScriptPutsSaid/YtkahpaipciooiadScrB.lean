/- The contract of the reference's Check, over what is known of memory. -/
import Derived.Test.YtkahpaipciooiadScrA
namespace Go.Proofs.Ytkahpaipciooiad.Al
open Go Go.Al Go.Proofs Go.RowKit
set_option maxHeartbeats 8000000
set_option maxRecDepth 100000
set_option linter.unusedVariables false
set_option linter.unusedSimpArgs false
theorem aloneB_iff (k n : Int) (lb lk : Nat) : aloneB k n lb lk = true ↔ (k = 1 ∧ n = 0 ∧ lk = 0) ∨ (k = 2 ∧ lb = 0 ∧ lk = 0) ∨ (k = 3 ∧ n = 0 ∧ lb = 0) := by
  unfold aloneB
  cases h1 : (k == 1) with
  | true =>
    rw [beq_iff_eq] at h1
    subst h1
    simp
  | false =>
    rw [cond_false]
    have h1 : k ≠ 1 := by simpa using h1
    cases h2 : (k == 2) with
    | true =>
      rw [beq_iff_eq] at h2
      subst h2
      simp
    | false =>
      rw [cond_false]
      have h2 : k ≠ 2 := by simpa using h2
      cases h3 : (k == 3) with
      | true =>
        rw [beq_iff_eq] at h3
        subst h3
        simp
      | false =>
        have h3 : k ≠ 3 := by simpa using h3
        rw [cond_false]
        constructor
        · intro h; cases h
        · rintro (h | h | h)
          · exact absurd h.1 h1
          · exact absurd h.1 h2
          · exact absurd h.1 h3
theorem rcheck (k n : Int) (bs : List UInt8) (ks : List Int) (A : Option Addr) (c : Nat) (B : Option Addr) (cc : Nat) (F : Heap) (hr : RowAt F B (ks.map (.int .i64))) (hl : ks.length ≤ 100000) :
    FnK Try.prog 30 #[.agg (evC k n (.slice A bs.length c) (.slice B ks.length cc))] F (fun v F' => v = .bool (checkB ⟨k, n, bs, ks⟩) ∧ Ext F F') := by
  have hm := checkB_iff ⟨k, n, bs, ks⟩
  generalize checkB ⟨k, n, bs, ks⟩ = q at hm ⊢
  dsimp only at hm
  rw [aloneB_iff] at hm
  have hpl : placeB n = true ↔ 0 ≤ n ∧ n ≤ 65535 := by unfold placeB; simp
  rw [hpl] at hm
  have no : ∀ F', ¬ (q = true) → Ext F F' → (Value.bool false = .bool q ∧ Ext F F') := by
    intro F' h hE
    rw [Bool.not_eq_true] at h
    exact ⟨by rw [h], hE⟩
  have yes : ∀ F', q = true → Ext F F' → (Value.bool true = .bool q ∧ Ext F F') := by
    intro F' h hE
    exact ⟨by rw [h], hE⟩
  (refine fn_walk tab_ok Try.func30 rfl rfl rfl rfl ?_; (conv => whnf))
  refine new_step (evO k n (.slice A bs.length c) (.slice B ks.length cc)) rfl fun b hb => ?_
  have hE := Ext.new hb (evO k n (.slice A bs.length c) (.slice B ks.length cc))
  have hB := Heap.put_same F b (evO k n (.slice A bs.length c) (.slice B ks.length cc))
  generalize F.put b _ = F1 at hE hB ⊢
  have hr1 := hr.mono hE
  (conv => whnf)
  refine load_blk hB rfl rfl ?_
  (conv => whnf)
  refine cond_split (fun h => ?_) (fun h => ?_)
  case refine_2 =>
    have h : (!decide (k < 1)) = false := h
    (conv => whnf)
    exact no _ (fun e => by have := (hm.1 e).2.2.2.1; simp at h; omega) hE
  have h1 : ¬ k < 1 := by
    have h : (!decide (k < 1)) = true := h
    simpa using h
  (conv => whnf)
  refine load_blk hB rfl rfl ?_
  (conv => whnf)
  refine cond_split (fun h => ?_) (fun h => ?_)
  case refine_2 =>
    have h : (!decide (k > 3)) = false := h
    (conv => whnf)
    exact no _ (fun e => by have := (hm.1 e).2.2.2.1; simp at h; omega) hE
  have h2 : ¬ k > 3 := by
    have h : (!decide (k > 3)) = true := h
    simpa using h
  (conv => whnf)
  refine load_blk hB rfl rfl ?_
  (conv => whnf)
  refine cond_split (fun h => ?_) (fun h => ?_)
  case refine_2 =>
    have h : (!decide (n < 0)) = false := h
    (conv => whnf)
    exact no _ (fun e => by have := (hm.1 e).1.1; simp at h; omega) hE
  have h3 : ¬ n < 0 := by
    have h : (!decide (n < 0)) = true := h
    simpa using h
  (conv => whnf)
  refine load_blk hB rfl rfl ?_
  (conv => whnf)
  refine cond_split (fun h => ?_) (fun h => ?_)
  case refine_2 =>
    have h : (!decide (n > 65535)) = false := h
    (conv => whnf)
    exact no _ (fun e => by have := (hm.1 e).1.2; simp at h; omega) hE
  have h4 : ¬ n > 65535 := by
    have h : (!decide (n > 65535)) = true := h
    simpa using h
  (conv => whnf)
  refine load_blk hB rfl rfl ?_
  (conv => whnf)
  refine cond_split (fun h => ?_) (fun h => ?_)
  case refine_2 =>
    have h : (!decide ((bs.length : Int) > 4000)) = false := h
    (conv => whnf)
    exact no _ (fun e => by have := (hm.1 e).2.1; simp at h; omega) hE
  have h5 : bs.length ≤ 4000 := by
    have h : (!decide ((bs.length : Int) > 4000)) = true := h
    simp at h
    omega
  (conv => whnf)
  refine load_blk hB rfl rfl ?_
  (conv => whnf)
  refine cond_split (fun h => ?_) (fun h => ?_)
  · have h : decide ((ks.length : Int) > 200) = true := h
    have h := of_decide_eq_true h
    (conv => whnf)
    exact no _ (fun e => by have := (hm.1 e).2.2.1; omega) hE
  have h6 : ks.length ≤ 200 := by
    have h : decide ((ks.length : Int) > 200) = false := h
    have := of_decide_eq_false h
    omega
  (conv => whnf)
  refine loop_slots [1, 3] (fun mm vs F' => ∃ j : Nat, j + mm = ks.length ∧ vs = [.pointer (some ⟨b, 0, none⟩), .int .i64 (j : Int)] ∧ (ks.take j).all placeB = true ∧ F' = F1) ks.length ⟨0, by omega, rfl, rfl, rfl⟩ ?_
  rintro mm vs F2 ρ ⟨j, hjm, rfl, hall, rfl⟩
  (conv => whnf)
  refine load_blk hB rfl rfl ?_
  (conv => whnf)
  refine cond_split (fun h => ?_) (fun h => ?_)
  · have hj : j < ks.length := by have := of_decide_eq_true h; omega
    obtain ⟨ad, rfl⟩ := hr1.some (by simp; omega)
    have hx : ks[j]? = some ks[j] := List.getElem?_eq_getElem hj
    have hz : (ks.take (j + 1)).all placeB = placeB ks[j] := by
      rw [List.take_add_one, hx, List.all_append, hall]
      simp
    have hz2 : placeB ks[j] = false → ks.all placeB = false := fun e => by
      rw [← Bool.not_eq_true, List.all_eq_true]
      intro h
      rw [h _ (List.getElem_mem hj)] at e
      cases e
    have hpx : placeB ks[j] = (decide (0 ≤ ks[j]) && decide (ks[j] ≤ 65535)) := rfl
    have hcell : F2.cell? (ad.add (Int.toNat (j : Int) * 1)) = some (.int .i64 ks[j]) := by
      rw [Int.toNat_natCast, Nat.mul_one]
      exact hr1.cell (by simp [hx])
    generalize placeB ks[j] = z at hz hz2 hpx
    generalize ks[j] = x at hpx hcell
    have bad : z = false → ¬ q = true := fun e h => by
      have := (hm.1 h).2.2.2.2
      rw [hz2 e] at this
      cases this
    (conv => whnf)
    refine load_blk hB rfl rfl ?_
    (conv => whnf)
    refine ⟨⟨by omega, by omega⟩, ?_⟩
    (conv => whnf)
    refine load_step hcell ?_
    (conv => whnf)
    refine cond_split (fun h => ?_) (fun h => ?_)
    case refine_2 =>
      have h : (!decide (x < 0)) = false := h
      have hz0 : z = false := by rw [hpx]; simp at h ⊢; intro; omega
      (conv => whnf)
      exact no _ (bad hz0) hE
    have hx0 : 0 ≤ x := by
      have h : (!decide (x < 0)) = true := h
      simpa using h
    (conv => whnf)
    refine load_blk hB rfl rfl ?_
    (conv => whnf)
    refine ⟨⟨by omega, by omega⟩, ?_⟩
    (conv => whnf)
    refine load_step hcell ?_
    (conv => whnf)
    refine cond_split (fun h => ?_) (fun h => ?_)
    · have h : decide (x > 65535) = true := h
      have h := of_decide_eq_true h
      have hz0 : z = false := by rw [hpx]; simp; omega
      (conv => whnf)
      exact no _ (bad hz0) hE
    · have h : decide (x > 65535) = false := h
      have h := of_decide_eq_false h
      have hz1 : z = true := by rw [hpx]; simp; omega
      (conv => whnf)
      refine ⟨mm - 1, by omega, j + 1, by omega, ?_, by rw [hz, hz1], rfl⟩
      have hw : IntKind.i64.wrap ((j : Int) + 1) = ((j + 1 : Nat) : Int) := by rw [IntKind.wrap_i64]; omega
      rw [← hw]
      rfl
  · have hj : j = ks.length := by have := of_decide_eq_false h; omega
    subst hj
    rw [List.take_length] at hall
    have hk : k = 1 ∨ k = 2 ∨ k = 3 := by omega
    have hq : q = true ↔ (k = 1 ∧ n = 0 ∧ ks.length = 0) ∨ (k = 2 ∧ bs.length = 0 ∧ ks.length = 0) ∨ (k = 3 ∧ n = 0 ∧ bs.length = 0) := by
      rw [hm]
      exact ⟨fun h => h.2.2.2.1, fun h => ⟨⟨by omega, by omega⟩, h5, h6, h, hall⟩⟩
    clear hm h
    rcases hk with rfl | rfl | rfl
    · (conv => whnf)
      refine load_blk hB rfl rfl ?_
      (conv => whnf)
      refine load_blk hB rfl rfl ?_
      (conv => whnf)
      refine load_blk hB rfl rfl ?_
      (conv => whnf)
      refine cond_split (fun h => ?_) (fun h => ?_)
      · have h : (n == 0) = true := h
        rw [beq_iff_eq] at h
        (conv => whnf)
        refine load_blk hB rfl rfl ?_
        (conv => whnf)
        refine load_blk hB rfl rfl ?_
        (conv => whnf)
        refine ⟨congrArg Value.bool ?_, hE⟩
        show ((ks.length : Int) == 0) = q
        rw [Bool.eq_iff_iff, hq, beq_iff_eq]
        omega
      · have h : (n == 0) = false := h
        have h : n ≠ 0 := by simpa using h
        (conv => whnf)
        exact no _ (fun e => by have := hq.1 e; omega) hE
    · (conv => whnf)
      refine load_blk hB rfl rfl ?_
      (conv => whnf)
      refine load_blk hB rfl rfl ?_
      (conv => whnf)
      refine cond_split (fun h => ?_) (fun h => ?_)
      · have h : ((bs.length : Int) == 0) = true := h
        rw [beq_iff_eq] at h
        (conv => whnf)
        refine load_blk hB rfl rfl ?_
        (conv => whnf)
        refine load_blk hB rfl rfl ?_
        (conv => whnf)
        refine load_blk hB rfl rfl ?_
        (conv => whnf)
        refine ⟨congrArg Value.bool ?_, hE⟩
        show ((ks.length : Int) == 0) = q
        rw [Bool.eq_iff_iff, hq, beq_iff_eq]
        omega
      · have h : ((bs.length : Int) == 0) = false := h
        have h : bs.length ≠ 0 := by intro e; rw [e] at h; exact absurd h (by decide)
        (conv => whnf)
        exact no _ (fun e => by have := hq.1 e; omega) hE
    · (conv => whnf)
      refine load_blk hB rfl rfl ?_
      (conv => whnf)
      refine load_blk hB rfl rfl ?_
      (conv => whnf)
      refine cond_split (fun h => ?_) (fun h => ?_)
      · have h : ((bs.length : Int) == 0) = true := h
        rw [beq_iff_eq] at h
        (conv => whnf)
        refine load_blk hB rfl rfl ?_
        (conv => whnf)
        refine load_blk hB rfl rfl ?_
        (conv => whnf)
        refine cond_split (fun h' => ?_) (fun h' => ?_)
        · have h' : (n == 0) = true := h'
          rw [beq_iff_eq] at h'
          (conv => whnf)
          refine load_blk hB rfl rfl ?_
          (conv => whnf)
          exact yes _ (by rw [hq]; omega) hE
        · have h' : (n == 0) = false := h'
          have h' : n ≠ 0 := by simpa using h'
          (conv => whnf)
          exact no _ (fun e => by have := hq.1 e; omega) hE
      · have h : ((bs.length : Int) == 0) = false := h
        have h : bs.length ≠ 0 := by intro e; rw [e] at h; exact absurd h (by decide)
        (conv => whnf)
        exact no _ (fun e => by have := hq.1 e; omega) hE
end Go.Proofs.Ytkahpaipciooiad.Al

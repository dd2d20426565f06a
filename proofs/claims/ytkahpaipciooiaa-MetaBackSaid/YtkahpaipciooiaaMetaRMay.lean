/- The contract of the reference's may, over what is known of memory. -/
import Derived.Test.YtkahpaipciooiaaMetaMay
namespace Go.Proofs.Ytkahpaipciooiaa.Al
open Go Go.Al Go.Proofs Go.RowKit
set_option maxHeartbeats 8000000
set_option maxRecDepth 100000
set_option linter.unusedVariables false
set_option linter.unusedSimpArgs false
theorem mayB_iff (d f n k : Int) (l : List Int) : mayB d f n k l = true ↔ (0 ≤ d ∧ d ≤ 10) ∧ (1 ≤ l.length ∧ l.length ≤ 20) ∧ (in4 f = true ∧ in4 n = true ∧ in4 k = true) ∧ l.all in4 = true := by
  unfold mayB
  simp only [Bool.and_eq_true, decide_eq_true_eq]
  constructor
  · rintro ⟨⟨⟨h1, h2⟩, h3, h4⟩, h5, h6⟩
    exact ⟨⟨h1, h2⟩, ⟨by omega, by omega⟩, h5, h6⟩
  · rintro ⟨⟨h1, h2⟩, ⟨h3, h4⟩, h5, h6⟩
    exact ⟨⟨⟨h1, h2⟩, by omega, by omega⟩, h5, h6⟩
theorem rmay (d f n k : Int) (l : List Int) (A : Option Addr) (c : Nat) (F : Heap) (hr : RowAt F A (l.map (.int .i64))) (hl : l.length ≤ 1000) :
    FnK Try.prog 18 #[.agg #[.int .i64 d, .int .i64 f, .int .i64 n, .int .i64 k, .slice A l.length c]] F (fun v F' => v = .bool (mayB d f n k l) ∧ Ext F F') := by
  have no : ∀ F', ¬ (mayB d f n k l = true) → Ext F F' → (Value.bool false = .bool (mayB d f n k l) ∧ Ext F F') := by
    intro F' h hE
    rw [Bool.not_eq_true] at h
    exact ⟨by rw [h], hE⟩
  have hm := mayB_iff d f n k l
  (refine fn_walk tab_ok Try.func18 rfl rfl rfl rfl ?_; (conv => whnf))
  refine new_step (.cells #[.int .i64 d, .int .i64 f, .int .i64 n, .int .i64 k, .slice A l.length c] 26) rfl fun b hb => ?_
  have hE : Ext F (F.put b (.cells #[.int .i64 d, .int .i64 f, .int .i64 n, .int .i64 k, .slice A l.length c] 26)) := Ext.new hb _
  have hB := Heap.put_same F b (.cells #[.int .i64 d, .int .i64 f, .int .i64 n, .int .i64 k, .slice A l.length c] 26)
  generalize F.put b _ = F1 at hE hB ⊢
  have hr1 := hr.mono hE
  (conv => whnf)
  refine load_blk hB rfl rfl ?_
  (conv => whnf)
  refine cond_split (fun h => ?_) (fun h => ?_)
  case refine_2 =>
    have h1 : (!decide (d < 0)) = false := h
    (conv => whnf)
    exact no _ (fun h => by have := (hm.1 h).1; simp at h1; omega) hE
  have h1 : (!decide (d < 0)) = true := h
  simp at h1
  (conv => whnf)
  refine load_blk hB rfl rfl ?_
  (conv => whnf)
  refine cond_split (fun h => ?_) (fun h => ?_)
  case refine_2 =>
    have h2 : (!decide (d > 10)) = false := h
    (conv => whnf)
    exact no _ (fun h => by have := (hm.1 h).1; simp at h2; omega) hE
  have h2 : (!decide (d > 10)) = true := h
  simp at h2
  (conv => whnf)
  refine load_blk hB rfl rfl ?_
  (conv => whnf)
  have c3 := rin f F1
  generalize h3 : in4 f = x3 at c3
  refine call_of c3 ?_
  rintro r _ ⟨rfl, rfl⟩
  cases x3 with
  | false =>
    (conv => whnf)
    exact no _ (fun h => by have := (hm.1 h).2.2.1.1; rw [h3] at this; cases this) hE
  | true =>
    (conv => whnf)
    refine load_blk hB rfl rfl ?_
    (conv => whnf)
    have c4 := fun G => rin n G
    generalize h4 : in4 n = x4 at c4
    refine call_of (c4 _) ?_
    rintro r _ ⟨rfl, rfl⟩
    cases x4 with
    | false =>
      (conv => whnf)
      exact no _ (fun h => by have := (hm.1 h).2.2.1.2.1; rw [h4] at this; cases this) hE
    | true =>
      (conv => whnf)
      refine load_blk hB rfl rfl ?_
      (conv => whnf)
      have c5 := fun G => rin k G
      generalize h5 : in4 k = x5 at c5
      refine call_of (c5 _) ?_
      rintro r F2 ⟨rfl, rfl⟩
      cases x5 with
      | false =>
        (conv => whnf)
        exact no _ (fun h => by have := (hm.1 h).2.2.1.2.2; rw [h5] at this; cases this) hE
      | true =>
        (conv => whnf)
        refine load_blk hB rfl rfl ?_
        (conv => whnf)
        refine cond_split (fun h => ?_) (fun h => ?_)
        case refine_2 =>
          have h6 : (!decide ((l.length : Int) < 1)) = false := h
          (conv => whnf)
          exact no _ (fun h => by have := (hm.1 h).2.1; simp at h6; omega) hE
        have h6 : (!decide ((l.length : Int) < 1)) = true := h
        (conv => whnf)
        refine load_blk hB rfl rfl ?_
        (conv => whnf)
        refine cond_split (fun h7 => ?_) (fun h7 => ?_)
        · have h7 := of_decide_eq_true h7
          (conv => whnf)
          exact no _ (fun h => by have := (hm.1 h).2.1; omega) hE
        · have h7 := of_decide_eq_false h7
          simp only [Bool.not_eq_true', decide_eq_false_iff_not] at h6
          have yes : l.all in4 = true → mayB d f n k l = true := fun h => hm.2 ⟨⟨by omega, by omega⟩, ⟨by omega, by omega⟩, ⟨h3, h4, h5⟩, h⟩
          (conv => whnf)
          refine loop_slots [1, 3] (fun k vs F3 => ∃ j : Nat, j + k = l.length ∧ vs = [.pointer (some ⟨b, 0, none⟩), .int .i64 (j : Int)] ∧ (l.take j).all in4 = true ∧ F3 = F2) l.length ⟨0, by omega, rfl, rfl, rfl⟩ ?_
          rintro m vs F3 ρ ⟨j, hjk, rfl, hall, rfl⟩
          (conv => whnf)
          refine load_blk hB rfl rfl ?_
          (conv => whnf)
          refine cond_split (fun h => ?_) (fun h => ?_)
          · have hj : j < l.length := by have := of_decide_eq_true h; omega
            obtain ⟨ad, rfl⟩ := hr1.some (by simp; omega)
            have hx : l[j]? = some l[j] := List.getElem?_eq_getElem hj
            (conv => whnf)
            refine load_blk hB rfl rfl ?_
            (conv => whnf)
            refine ⟨⟨by omega, by omega⟩, ?_⟩
            (conv => whnf)
            refine load_step (v := .int .i64 l[j]) ?_ ?_
            · show F3.cell? (ad.add (Int.toNat (j : Int) * 1)) = _
              rw [Int.toNat_natCast, Nat.mul_one]
              exact hr1.cell (by simp [hx])
            (conv => whnf)
            have hf := rin l[j] F3
            have hstep : (l.take (j + 1)).all in4 = ((l.take j).all in4 && in4 l[j]) := by
              rw [List.take_add_one, hx, Option.toList_some, List.all_append]
              simp
            have hex : in4 l[j] = false → ¬ (l.all in4 = true) := fun e h => by
              have := List.all_eq_true.1 h l[j] (List.getElem_mem hj)
              rw [e] at this
              cases this
            generalize in4 l[j] = z at hf hstep hex
            refine call_of hf ?_
            rintro v _ ⟨rfl, rfl⟩
            cases z with
            | true =>
              (conv => whnf)
              refine ⟨m - 1, by omega, j + 1, by omega, ?_, by rw [hstep, hall]; rfl, rfl⟩
              have hw : IntKind.i64.wrap ((j : Int) + 1) = ((j + 1 : Nat) : Int) := by rw [IntKind.wrap_i64]; omega
              rw [← hw]
              rfl
            | false =>
              (conv => whnf)
              exact no _ (fun h => hex rfl (hm.1 h).2.2.2) hE
          · have hj : j = l.length := by have := of_decide_eq_false h; omega
            subst hj
            rw [List.take_length] at hall
            have hy := yes hall
            (conv => whnf)
            exact ⟨congrArg Value.bool hy.symm, hE⟩
end Go.Proofs.Ytkahpaipciooiaa.Al

/- The contracts of the functions of package amount and of its reference, over what is known of memory. -/
import Derived.Test.YtnengolkenbhoabText
import Derived.Test.YtnengolkenbhoabAlOpen
namespace Go.Proofs.Ytnengolkenbhoab.Al
open Go Go.Al Go.Proofs Go.RowKit
set_option maxHeartbeats 8000000
set_option maxRecDepth 100000
set_option linter.unusedVariables false
set_option linter.unusedSimpArgs false
def fitsB (n : Int) : Bool := decide (-4611686018427387904 ≤ n) && decide (n ≤ 4611686018427387904)
def rightB (n : Int) : Bool := decide (1 ≤ n) && decide (n ≤ 9007199254740992)
theorem fits (n : Int) (F : Heap) : FnK Try.prog 27 #[.int .i64 n] F (fun v F' => v = .bool (fitsB n) ∧ F' = F) := by
  unfold fitsB
  (refine fn_walk tab_ok Try.func27 rfl rfl rfl rfl ?_; (conv => whnf))
  refine cond_split (fun h => ?_) (fun h => ?_)
  · (conv => whnf)
    replace h : decide (-4611686018427387904 ≤ n) = true := h
    exact ⟨by rw [h]; rfl, rfl⟩
  · (conv => whnf)
    replace h : decide (-4611686018427387904 ≤ n) = false := h
    exact ⟨by rw [h]; rfl, rfl⟩
theorem rfits (n : Int) (F : Heap) : FnK Try.prog 28 #[.int .i64 n] F (fun v F' => v = .bool (fitsB n) ∧ F' = F) := by
  unfold fitsB
  (refine fn_walk tab_ok Try.func28 rfl rfl rfl rfl ?_; (conv => whnf))
  refine cond_split (fun h => ?_) (fun h => ?_)
  · (conv => whnf)
    replace h : decide (-4611686018427387904 ≤ n) = true := h
    exact ⟨by rw [h]; rfl, rfl⟩
  · (conv => whnf)
    replace h : decide (-4611686018427387904 ≤ n) = false := h
    exact ⟨by rw [h]; rfl, rfl⟩
theorem right (n : Int) (F : Heap) : FnK Try.prog 29 #[.int .i64 n] F (fun v F' => v = .bool (rightB n) ∧ F' = F) := by
  unfold rightB
  (refine fn_walk tab_ok Try.func29 rfl rfl rfl rfl ?_; (conv => whnf))
  refine cond_split (fun h => ?_) (fun h => ?_)
  · (conv => whnf)
    replace h : decide (1 ≤ n) = true := h
    exact ⟨by rw [h]; rfl, rfl⟩
  · (conv => whnf)
    replace h : decide (1 ≤ n) = false := h
    exact ⟨by rw [h]; rfl, rfl⟩
theorem rright (n : Int) (F : Heap) : FnK Try.prog 30 #[.int .i64 n] F (fun v F' => v = .bool (rightB n) ∧ F' = F) := by
  unfold rightB
  (refine fn_walk tab_ok Try.func30 rfl rfl rfl rfl ?_; (conv => whnf))
  refine cond_split (fun h => ?_) (fun h => ?_)
  · (conv => whnf)
    replace h : decide (1 ≤ n) = true := h
    exact ⟨by rw [h]; rfl, rfl⟩
  · (conv => whnf)
    replace h : decide (1 ≤ n) = false := h
    exact ⟨by rw [h]; rfl, rfl⟩
/-- Two totals together, and the error. -/
def addS (a b : Int) : Int × Int := if fitsB a && fitsB b && fitsB (IntKind.i64.wrap (a + b)) then (IntKind.i64.wrap (a + b), 0) else (0, 9)
def pairV (p : Int × Int) : Value := .tuple #[.int .i64 p.1, .int .i64 p.2]
theorem add (a b : Int) (F : Heap) : FnK Try.prog 23 #[.int .i64 a, .int .i64 b] F (fun v F' => v = pairV (addS a b) ∧ F' = F) := by
  have ha := fits a F
  have hb := fits b F
  have hc := fits (IntKind.i64.wrap (a + b)) F
  cases hA : fitsB a <;> rw [hA] at ha
  · have hs : addS a b = (0, 9) := by unfold addS; rw [hA]; rfl
    rw [hs]
    (refine fn_walk tab_ok Try.func23 rfl rfl rfl rfl ?_; (conv => whnf))
    refine call_of ha ?_
    rintro v _ ⟨rfl, rfl⟩
    (conv => whnf)
    exact ⟨rfl, rfl⟩
  · cases hB : fitsB b <;> rw [hB] at hb
    · have hs : addS a b = (0, 9) := by unfold addS; rw [hA, hB]; rfl
      rw [hs]
      (refine fn_walk tab_ok Try.func23 rfl rfl rfl rfl ?_; (conv => whnf))
      refine call_of ha ?_
      rintro v _ ⟨rfl, rfl⟩
      (conv => whnf)
      refine call_of hb ?_
      rintro v _ ⟨rfl, rfl⟩
      (conv => whnf)
      exact ⟨rfl, rfl⟩
    · cases hC : fitsB (IntKind.i64.wrap (a + b)) <;> rw [hC] at hc
      · have hs : addS a b = (0, 9) := by unfold addS; rw [hA, hB, hC]; rfl
        rw [hs]
        (refine fn_walk tab_ok Try.func23 rfl rfl rfl rfl ?_; (conv => whnf))
        refine call_of ha ?_
        rintro v _ ⟨rfl, rfl⟩
        (conv => whnf)
        refine call_of hb ?_
        rintro v _ ⟨rfl, rfl⟩
        (conv => whnf)
        refine call_of hc ?_
        rintro v _ ⟨rfl, rfl⟩
        (conv => whnf)
        exact ⟨rfl, rfl⟩
      · have hs : addS a b = (IntKind.i64.wrap (a + b), 0) := by unfold addS; rw [hA, hB, hC]; rfl
        rw [hs]
        (refine fn_walk tab_ok Try.func23 rfl rfl rfl rfl ?_; (conv => whnf))
        refine call_of ha ?_
        rintro v _ ⟨rfl, rfl⟩
        (conv => whnf)
        refine call_of hb ?_
        rintro v _ ⟨rfl, rfl⟩
        (conv => whnf)
        refine call_of hc ?_
        rintro v _ ⟨rfl, rfl⟩
        (conv => whnf)
        exact ⟨rfl, rfl⟩
theorem fitsB_iff (n : Int) : fitsB n = true ↔ (-4611686018427387904 ≤ n ∧ n ≤ 4611686018427387904) := by unfold fitsB; rw [Bool.and_eq_true, decide_eq_true_eq, decide_eq_true_eq]
theorem radd (a b : Int) (F : Heap) : FnK Try.prog 24 #[.int .i64 a, .int .i64 b] F (fun v F' => v = pairV (addS a b) ∧ F' = F) := by
  have ha := rfits a F
  have hb := rfits b F
  cases hA : fitsB a <;> rw [hA] at ha
  · have hs : addS a b = (0, 9) := by unfold addS; rw [hA]; rfl
    rw [hs]
    (refine fn_walk tab_ok Try.func24 rfl rfl rfl rfl ?_; (conv => whnf))
    refine call_of ha ?_
    rintro v _ ⟨rfl, rfl⟩
    (conv => whnf)
    exact ⟨rfl, rfl⟩
  · cases hB : fitsB b <;> rw [hB] at hb
    · have hs : addS a b = (0, 9) := by unfold addS; rw [hA, hB]; rfl
      rw [hs]
      (refine fn_walk tab_ok Try.func24 rfl rfl rfl rfl ?_; (conv => whnf))
      refine call_of ha ?_
      rintro v _ ⟨rfl, rfl⟩
      (conv => whnf)
      refine call_of hb ?_
      rintro v _ ⟨rfl, rfl⟩
      (conv => whnf)
      exact ⟨rfl, rfl⟩
    · obtain ⟨a1, a2⟩ := (fitsB_iff a).1 hA
      obtain ⟨b1, b2⟩ := (fitsB_iff b).1 hB
      have bad : ¬ (-4611686018427387904 ≤ a + b ∧ a + b ≤ 4611686018427387904) → addS a b = (0, 9) := by
        intro h
        have : fitsB (IntKind.i64.wrap (a + b)) = false := by
          rw [Bool.eq_false_iff]
          intro e
          have := (fitsB_iff _).1 e
          rw [IntKind.wrap_i64] at this
          omega
        unfold addS
        rw [hA, hB, this]
        rfl
      have good : (-4611686018427387904 ≤ a + b ∧ a + b ≤ 4611686018427387904) → addS a b = (IntKind.i64.wrap (a + b), 0) := by
        intro h
        have : fitsB (IntKind.i64.wrap (a + b)) = true := by
          rw [fitsB_iff, IntKind.wrap_i64]
          omega
        unfold addS
        rw [hA, hB, this]
        rfl
      have e1 : 0 < a → IntKind.i64.wrap (4611686018427387904 - a) = 4611686018427387904 - a := fun h => by rw [IntKind.wrap_i64]; omega
      have e2 : IntKind.i64.wrap (-4611686018427387904 - a) = -4611686018427387904 - a := by rw [IntKind.wrap_i64]; omega
      (refine fn_walk tab_ok Try.func24 rfl rfl rfl rfl ?_; (conv => whnf))
      refine call_of ha ?_
      rintro v _ ⟨rfl, rfl⟩
      (conv => whnf)
      refine call_of hb ?_
      rintro v _ ⟨rfl, rfl⟩
      (conv => whnf)
      have key : ∀ c p q : Bool, decide (b > IntKind.i64.wrap (4611686018427387904 - a)) = p → decide (b < IntKind.i64.wrap (-4611686018427387904 - a)) = q → c = (decide (a > 0) && p || decide (a < 0) && q) → addS a b = if c then (0, 9) else (IntKind.i64.wrap (a + b), 0) := by
        intro c p q hp hq hc
        subst hp
        subst hq
        by_cases hz : -4611686018427387904 ≤ a + b ∧ a + b ≤ 4611686018427387904
        · rw [good hz]
          have : c = false := by
            rw [hc, Bool.eq_false_iff]
            intro e
            rw [Bool.or_eq_true, Bool.and_eq_true, Bool.and_eq_true, decide_eq_true_eq, decide_eq_true_eq, decide_eq_true_eq, decide_eq_true_eq] at e
            rcases e with ⟨h1, h2⟩ | ⟨h1, h2⟩
            · rw [e1 h1] at h2; omega
            · rw [e2] at h2; omega
          rw [this]
          rfl
        · rw [bad hz]
          have : c = true := by
            rw [hc, Bool.or_eq_true, Bool.and_eq_true, Bool.and_eq_true, decide_eq_true_eq, decide_eq_true_eq, decide_eq_true_eq, decide_eq_true_eq]
            by_cases h1 : 0 < a
            · left; exact ⟨h1, by rw [e1 h1]; omega⟩
            · right; exact ⟨by omega, by rw [e2]; omega⟩
          rw [this]
          rfl
      cases h1 : decide (a > 0) <;> rw [h1] at key
      · (conv => whnf)
        refine cond_split (fun h => ?_) (fun h => ?_)
        · replace h : decide (a < 0) = true := h
          rw [h] at key
          (conv => whnf)
          refine cond_split (fun h => ?_) (fun h => ?_)
          · rw [key true _ true rfl h rfl, if_pos rfl]
            (conv => whnf)
            exact ⟨rfl, rfl⟩
          · rw [key false _ false rfl h rfl, if_neg (by decide)]
            (conv => whnf)
            exact ⟨rfl, rfl⟩
        · replace h : decide (a < 0) = false := h
          rw [h] at key
          rw [key false _ _ rfl rfl rfl, if_neg (by decide)]
          (conv => whnf)
          exact ⟨rfl, rfl⟩
      · have h2 : decide (a < 0) = false := by
          have := of_decide_eq_true h1
          exact decide_eq_false (by omega)
        rw [h2] at key
        (conv => whnf)
        refine cond_split (fun h => ?_) (fun h => ?_)
        · replace h : (!decide (b > IntKind.i64.wrap (4611686018427387904 - a))) = true := h
          rw [Bool.not_eq_true'] at h
          rw [key false false _ h rfl rfl, if_neg (by decide)]
          (conv => whnf)
          refine cond_split (fun h => absurd (h.symm.trans h2) (by decide)) (fun _ => ?_)
          (conv => whnf)
          exact ⟨rfl, rfl⟩
        · replace h : (!decide (b > IntKind.i64.wrap (4611686018427387904 - a))) = false := h
          rw [Bool.not_eq_false'] at h
          rw [key true true _ h rfl rfl, if_pos rfl]
          (conv => whnf)
          exact ⟨rfl, rfl⟩
end Go.Proofs.Ytnengolkenbhoab.Al

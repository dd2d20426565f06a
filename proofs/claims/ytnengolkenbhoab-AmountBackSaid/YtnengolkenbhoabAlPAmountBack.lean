/- The law AmountBack holds of the program: proved over what is known of memory, each function by its contract. -/
import Derived.Test.YtnengolkenbhoabAlLawAmountBack
import Derived.Test.YtnengolkenbhoabAmtLaw
namespace Go.Proofs.Ytnengolkenbhoab.AlAmountBack
open Go Go.Al Go.Proofs Go.RowKit Go.Proofs.Ytnengolkenbhoab.Al
set_option maxHeartbeats 8000000
set_option maxRecDepth 100000
set_option linter.unusedVariables false
set_option linter.unusedSimpArgs false
theorem law : LawK := by
  intro F a wa b wb
  obtain ⟨ha0, ha1⟩ : -9223372036854775808 ≤ a ∧ a < 9223372036854775808 := wf64 wa
  obtain ⟨hb0, hb1⟩ : -9223372036854775808 ≤ b ∧ b < 9223372036854775808 := wf64 wb
  have hcomm : addS b a = addS a b := by
    unfold addS
    rw [Int.add_comm b a, Bool.and_comm (fitsB b) (fitsB a)]
  have h1 := add a b F
  have h2 := add b a F
  rw [hcomm] at h2
  by_cases hz : (fitsB a && fitsB b && fitsB (IntKind.i64.wrap (a + b))) = true
  · have hs : addS a b = (IntKind.i64.wrap (a + b), 0) := by unfold addS; rw [if_pos hz]
    rw [Bool.and_eq_true, Bool.and_eq_true] at hz
    obtain ⟨⟨hA, hB⟩, hC⟩ := hz
    obtain ⟨a1, a2⟩ := (fitsB_iff a).1 hA
    obtain ⟨b1, b2⟩ := (fitsB_iff b).1 hB
    have hw : IntKind.i64.wrap (a + b) = a + b ∨ a + b = 9223372036854775808 := by rw [IntKind.wrap_i64]; omega
    have hne : a + b ≠ 9223372036854775808 := by
      intro e
      rw [e] at hC
      exact absurd hC (by decide +kernel)
    have hw : IntKind.i64.wrap (a + b) = a + b := by rw [IntKind.wrap_i64]; omega
    have hnb : IntKind.i64.wrap (0 - b) = -b := by rw [IntKind.wrap_i64]; omega
    have h3 : addS (IntKind.i64.wrap (a + b)) (IntKind.i64.wrap (0 - b)) = (a, 0) := by
      have e1 : IntKind.i64.wrap (IntKind.i64.wrap (a + b) + IntKind.i64.wrap (0 - b)) = a := by rw [hw, hnb, IntKind.wrap_i64]; omega
      have e2 : fitsB (IntKind.i64.wrap (0 - b)) = true := by rw [hnb, fitsB_iff]; omega
      unfold addS
      rw [e1, hC, e2, hA]
      rfl
    rw [hs] at h1 h2
    have h4 := add (IntKind.i64.wrap (a + b)) (IntKind.i64.wrap (0 - b)) F
    rw [h3] at h4
    have h5 := fits (IntKind.i64.wrap (a + b)) F
    rw [hC] at h5
    (refine fn_walk tab_ok Try.func8 rfl rfl rfl rfl ?_; (conv => whnf))
    refine call_of h1 ?_
    rintro v _ ⟨rfl, rfl⟩
    (conv => whnf)
    refine call_of h2 ?_
    rintro v _ ⟨rfl, rfl⟩
    (conv => whnf)
    refine cond_split (fun h => ?_) (fun h => absurd h (by simp))
    (conv => whnf)
    refine call_of h4 ?_
    rintro v _ ⟨rfl, rfl⟩
    (conv => whnf)
    (refine cond_split (fun _ => ?_) (fun h_ => absurd h_ (by simp)); (conv => whnf))
    refine call_of h5 ?_
    rintro v _ ⟨rfl, rfl⟩
    (conv => whnf)
    refine call_of (awake _) ?_
    rintro v F2 ⟨rfl, hF2⟩
    (conv => whnf)
    exact ⟨rfl, hF2⟩
  · have hs : addS a b = (0, 9) := by unfold addS; rw [if_neg hz]
    rw [hs] at h1 h2
    (refine fn_walk tab_ok Try.func8 rfl rfl rfl rfl ?_; (conv => whnf))
    refine call_of h1 ?_
    rintro v _ ⟨rfl, rfl⟩
    (conv => whnf)
    refine call_of h2 ?_
    rintro v _ ⟨rfl, rfl⟩
    (conv => whnf)
    refine call_of (awake _) ?_
    rintro v F2 ⟨rfl, hF2⟩
    (conv => whnf)
    exact ⟨rfl, hF2⟩
end Go.Proofs.Ytnengolkenbhoab.AlAmountBack

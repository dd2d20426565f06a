/- The law AmountAdds holds of the program: proved over what is known of memory, each function by its contract. -/
import Derived.Test.YtnengolkenbhoabAlLawAmountAdds
import Derived.Test.YtnengolkenbhoabAmtLaw
namespace Go.Proofs.Ytnengolkenbhoab.AlAmountAdds
open Go Go.Al Go.Proofs Go.RowKit Go.Proofs.Ytnengolkenbhoab.Al
set_option maxHeartbeats 8000000
set_option maxRecDepth 100000
set_option linter.unusedVariables false
set_option linter.unusedSimpArgs false
theorem law : LawK := by
  intro F a wa b wb l wl A c hc hK
  have hrow := elems_row hK
  obtain ⟨ha0, ha1⟩ : -9223372036854775808 ≤ a ∧ a < 9223372036854775808 := wf64 wa
  (refine fn_walk tab_ok Try.func7 rfl rfl rfl rfl ?_; (conv => whnf))
  refine cond_split (fun _ => ?_) (fun h => ?_)
  · (conv => whnf)
    refine call_of (awake F) ?_
    rintro v F' ⟨rfl, hF⟩
    (conv => whnf)
    exact ⟨rfl, hF⟩
  · have hl : l.length ≤ 1099511627776 := by have := of_decide_eq_false h; omega
    have h1 := add a b F
    have h2 := radd a b F
    have h3 := sum l A c F hrow hl
    have h4 := rsum l A c F hrow hl
    have h5 := fits a F
    have h6 := rfits a F
    have h7 := right a F
    have h8 := rright a F
    have h9 := text a ha0 ha1 F
    have h10 := fun G => rtext a ha0 ha1 G
    generalize addS a b = s at h1 h2
    generalize sumS 0 l = s at h3 h4
    generalize fitsB a = s at h5 h6
    generalize rightB a = s at h7 h8
    generalize txt a = s at h9 h10
    clear h
    (conv => whnf)
    refine call_of h1 ?_
    rintro v _ ⟨rfl, rfl⟩
    (conv => whnf)
    refine call_of h2 ?_
    rintro v _ ⟨rfl, rfl⟩
    (conv => whnf)
    refine call_of h3 ?_
    rintro v _ ⟨rfl, rfl⟩
    (conv => whnf)
    refine call_of h4 ?_
    rintro v _ ⟨rfl, rfl⟩
    (conv => whnf)
    (refine cond_split (fun _ => ?_) (fun h_ => absurd h_ (by simp)); (conv => whnf))
    (refine cond_split (fun _ => ?_) (fun h_ => absurd h_ (by simp)); (conv => whnf))
    (refine cond_split (fun _ => ?_) (fun h_ => absurd h_ (by simp)); (conv => whnf))
    (refine cond_split (fun _ => ?_) (fun h_ => absurd h_ (by simp)); (conv => whnf))
    refine call_of h5 ?_
    rintro v _ ⟨rfl, rfl⟩
    (conv => whnf)
    refine call_of h6 ?_
    rintro v _ ⟨rfl, rfl⟩
    (conv => whnf)
    (refine cond_split (fun _ => ?_) (fun h_ => absurd h_ (by simp)); (conv => whnf))
    refine call_of h7 ?_
    rintro v _ ⟨rfl, rfl⟩
    (conv => whnf)
    refine call_of h8 ?_
    rintro v _ ⟨rfl, rfl⟩
    (conv => whnf)
    (refine cond_split (fun _ => ?_) (fun h_ => absurd h_ (by simp)); (conv => whnf))
    refine call_of h9 ?_
    rintro v F1 ⟨rfl, hF1⟩
    (conv => whnf)
    refine call_of (h10 _) ?_
    rintro v _ ⟨rfl, rfl⟩
    (conv => whnf)
    (refine cond_split (fun _ => ?_) (fun h_ => absurd h_ (by simp)); (conv => whnf))
    refine call_of (awake _) ?_
    rintro v F2 ⟨rfl, hF2⟩
    (conv => whnf)
    refine ⟨?_, hF1.trans hF2⟩
    (conv => lhs; whnf)
end Go.Proofs.Ytnengolkenbhoab.AlAmountAdds

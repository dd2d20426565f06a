/- The law CodeTells holds of the program: proved over what is known of memory, each function by its contract. -/
import Derived.Test.YtkahpaipciooiabAlLawCodeTells
import Derived.Test.YtkahpaipciooiabCodeLaw
namespace Go.Proofs.Ytkahpaipciooiab.AlCodeTells
open Go Go.Al Go.Proofs Go.RowKit Go.Proofs.Ytkahpaipciooiab.Al
set_option maxHeartbeats 8000000
set_option maxRecDepth 100000
set_option linter.unusedVariables false
set_option linter.unusedSimpArgs false
theorem law : LawK := by
  intro F a wa b wb s ws
  obtain ⟨a0, a1⟩ := wf64 wa
  obtain ⟨b0, b1⟩ := wf64 wb
  obtain ⟨l, rfl⟩ : ∃ l : List UInt8, s = ⟨l.toArray⟩ := ⟨s.data.toList, by simp⟩
  (refine fn_walk tab_ok Try.func7 rfl rfl rfl rfl ?_; (conv => whnf))
  refine cond_split (fun _ => ?_) (fun h => ?_)
  · (conv => whnf)
    refine call_of (awake F) ?_
    rintro v F' ⟨rfl, hF⟩
    (conv => whnf)
    exact ⟨rfl, hF⟩
  · have hl : l.length ≤ 300 := by
      replace h : decide (((l.length : Nat) : Int) > 300) = false := h
      have := of_decide_eq_false h
      omega
    have h1 := parse l (by omega) F
    have h2 := fun G => rparse l (by omega) G
    rw [parse_eq] at h2
    have h3 := fun G => fund a G
    have h4 := fun G => rfund a G
    have h5 := fun G => object b G
    have h6 := fun G => robject b G
    have h7 := fun G => class_ b G
    have h8 := fun G => rclass b G
    have h9 := fun G => fixed b G
    have h10 := fun G => rfixed b G
    have h11 := fun G => print a b G
    have h12 := fun G => rprint a b G
    generalize parseV l = t at h1 h2
    generalize inB 100 999 a = t3 at h3 h4
    generalize inB 1000 5999 b = t4 at h5 h6
    generalize classI b = t5 at h7 h8
    generalize fixedB b = t6 at h9 h10
    generalize printS a b = t7 at h11 h12
    clear h
    (conv => whnf)
    refine call_of h1 ?_
    rintro v F1 ⟨rfl, hF1⟩
    (conv => whnf)
    refine call_of (h2 _) ?_
    rintro v _ ⟨rfl, rfl⟩
    (conv => whnf)
    refine call_of (h3 _) ?_
    rintro v _ ⟨rfl, rfl⟩
    (conv => whnf)
    refine call_of (h4 _) ?_
    rintro v _ ⟨rfl, rfl⟩
    (conv => whnf)
    (refine cond_split (fun _ => ?_) (fun h_ => absurd h_ (by simp)); (conv => whnf))
    refine call_of (h5 _) ?_
    rintro v _ ⟨rfl, rfl⟩
    (conv => whnf)
    refine call_of (h6 _) ?_
    rintro v _ ⟨rfl, rfl⟩
    (conv => whnf)
    (refine cond_split (fun _ => ?_) (fun h_ => absurd h_ (by simp)); (conv => whnf))
    refine call_of (h7 _) ?_
    rintro v _ ⟨rfl, rfl⟩
    (conv => whnf)
    refine call_of (h8 _) ?_
    rintro v _ ⟨rfl, rfl⟩
    (conv => whnf)
    (refine cond_split (fun _ => ?_) (fun h_ => absurd h_ (by simp)); (conv => whnf))
    refine call_of (h9 _) ?_
    rintro v _ ⟨rfl, rfl⟩
    (conv => whnf)
    refine call_of (h10 _) ?_
    rintro v _ ⟨rfl, rfl⟩
    (conv => whnf)
    (refine cond_split (fun _ => ?_) (fun h_ => absurd h_ (by simp)); (conv => whnf))
    refine call_of (h11 _) ?_
    rintro v F2 ⟨rfl, hF2⟩
    (conv => whnf)
    refine call_of (h12 _) ?_
    rintro v _ ⟨rfl, rfl⟩
    (conv => whnf)
    (refine cond_split (fun _ => ?_) (fun h_ => absurd h_ (by simp)); (conv => whnf))
    (refine cond_split (fun _ => ?_) (fun h_ => absurd h_ (by simp)); (conv => whnf))
    (refine cond_split (fun _ => ?_) (fun h_ => absurd h_ (by simp)); (conv => whnf))
    (refine cond_split (fun _ => ?_) (fun h_ => absurd h_ (by simp)); (conv => whnf))
    refine call_of (awake _) ?_
    rintro v F3 ⟨rfl, hF3⟩
    (conv => whnf)
    refine ⟨?_, hF1.trans (hF2.trans hF3)⟩
    (conv => lhs; whnf)
end Go.Proofs.Ytkahpaipciooiab.AlCodeTells

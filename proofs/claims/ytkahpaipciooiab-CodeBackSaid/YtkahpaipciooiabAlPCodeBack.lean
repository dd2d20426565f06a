/- The law CodeBack holds of the program: proved over what is known of memory, each function by its contract. -/
import Derived.Test.YtkahpaipciooiabAlLawCodeBack
import Derived.Test.YtkahpaipciooiabCodeLaw
namespace Go.Proofs.Ytkahpaipciooiab.AlCodeBack
open Go Go.Al Go.Proofs Go.RowKit Go.Proofs.Ytkahpaipciooiab.Al
set_option maxHeartbeats 8000000
set_option maxRecDepth 100000
set_option linter.unusedVariables false
set_option linter.unusedSimpArgs false
theorem parse_cases (l : List UInt8) : parseV l = (0, 0, false) ∨ ∃ n m, parseV l = (n, m, true) ∧ printS n m = l := by
  unfold parseV
  by_cases h8 : l.length = 8
  · rw [if_pos h8]
    unfold sayS
    by_cases h : printS (numI (l.take 3)) (numI (l.drop 4)) = l
    · exact .inr ⟨_, _, by rw [beq_iff_eq.2 h]; rfl, h⟩
    · exact .inl (by rw [beq_eq_false_iff_ne.2 h]; rfl)
  · exact .inl (if_neg h8)
theorem law : LawK := by
  intro F a wa b wb s ws
  obtain ⟨a0, a1⟩ := wf64 wa
  obtain ⟨b0, b1⟩ := wf64 wb
  obtain ⟨l, rfl⟩ : ∃ l : List UInt8, s = ⟨l.toArray⟩ := ⟨s.data.toList, by simp⟩
  have h1 := print a b F
  have h2 : printS a b ≠ [] → ∀ G, FnK Try.prog 38 #[.string ⟨(printS a b).toArray⟩] G (fun v F' => v = triV (a, b, true) ∧ Ext G F') := by
    intro hz G
    have := parse (printS a b) (by obtain ⟨_, _, _, _, _, _, _, e, _⟩ := say_dig rfl hz; rw [e]; show (8 : Nat) ≤ 9223372036854775807; decide) G
    rwa [print_parse a b hz] at this
  have hq : ((⟨(printS a b).toArray⟩ : ByteArray).toList == (⟨#[]⟩ : ByteArray).toList) = (printS a b == []) := str_beq _ []
  have hz : (printS a b == []) = false → printS a b ≠ [] := fun h => by simpa using h
  generalize (⟨(printS a b).toArray⟩ : ByteArray) = g at h1 h2 hq
  generalize (printS a b == []) = z at hq hz
  (refine fn_walk tab_ok Try.func8 rfl rfl rfl rfl ?_; (conv => whnf))
  refine call_of h1 ?_
  rintro v F1 ⟨rfl, hF1⟩
  (conv => whnf)
  refine cond_split (fun h => ?_) (fun h => ?_)
  · have hz0 : z = false := by rw [← hq]; simpa using h
    (conv => whnf)
    refine call_of (h2 (hz hz0) _) ?_
    rintro v F2 ⟨rfl, hF2⟩
    replace hF2 := hF1.trans hF2
    (conv => whnf)
    (refine cond_split (fun _ => ?_) (fun h_ => absurd h_ (by simp)); (conv => whnf))
    refine cond_split (fun h => absurd h (by simp)) (fun _ => ?_)
    (conv => whnf)
    refine cond_split (fun _ => ?_) (fun h => ?_)
    · (conv => whnf)
      refine call_of (awake _) ?_
      rintro v F9 ⟨rfl, hF9⟩
      (conv => whnf)
      exact ⟨rfl, hF2.trans hF9⟩
    · have hl : l.length ≤ 300 := by
        replace h : decide (((l.length : Nat) : Int) > 300) = false := h
        have := of_decide_eq_false h
        omega
      have k1 := fun G => parse l (by omega) G
      clear h
      (conv => whnf)
      rcases parse_cases l with hp | ⟨n, m, hp, hl'⟩
      · rw [hp] at k1
        refine call_of (k1 _) ?_
        rintro v F4 ⟨rfl, hF4⟩
        (conv => whnf)
        refine call_of (awake _) ?_
        rintro v F9 ⟨rfl, hF9⟩
        (conv => whnf)
        refine ⟨?_, hF2.trans (hF4.trans hF9)⟩
        (conv => lhs; whnf)
      · rw [hp] at k1
        have k2 := fun G => print n m G
        rw [hl'] at k2
        refine call_of (k1 _) ?_
        rintro v F4 ⟨rfl, hF4⟩
        (conv => whnf)
        refine call_of (k2 _) ?_
        rintro v F5 ⟨rfl, hF5⟩
        (conv => whnf)
        (refine cond_split (fun _ => ?_) (fun h_ => absurd h_ (by simp)); (conv => whnf))
        refine call_of (awake _) ?_
        rintro v F9 ⟨rfl, hF9⟩
        (conv => whnf)
        refine ⟨?_, hF2.trans (hF4.trans (hF5.trans hF9))⟩
        (conv => lhs; whnf)
  · (conv => whnf)
    refine cond_split (fun _ => ?_) (fun h => ?_)
    · (conv => whnf)
      refine call_of (awake _) ?_
      rintro v F9 ⟨rfl, hF9⟩
      (conv => whnf)
      exact ⟨rfl, hF1.trans hF9⟩
    · have hl : l.length ≤ 300 := by
        replace h : decide (((l.length : Nat) : Int) > 300) = false := h
        have := of_decide_eq_false h
        omega
      have k1 := fun G => parse l (by omega) G
      clear h
      (conv => whnf)
      rcases parse_cases l with hp | ⟨n, m, hp, hl'⟩
      · rw [hp] at k1
        refine call_of (k1 _) ?_
        rintro v F4 ⟨rfl, hF4⟩
        (conv => whnf)
        refine call_of (awake _) ?_
        rintro v F9 ⟨rfl, hF9⟩
        (conv => whnf)
        refine ⟨?_, hF1.trans (hF4.trans hF9)⟩
        (conv => lhs; whnf)
      · rw [hp] at k1
        have k2 := fun G => print n m G
        rw [hl'] at k2
        refine call_of (k1 _) ?_
        rintro v F4 ⟨rfl, hF4⟩
        (conv => whnf)
        refine call_of (k2 _) ?_
        rintro v F5 ⟨rfl, hF5⟩
        (conv => whnf)
        (refine cond_split (fun _ => ?_) (fun h_ => absurd h_ (by simp)); (conv => whnf))
        refine call_of (awake _) ?_
        rintro v F9 ⟨rfl, hF9⟩
        (conv => whnf)
        refine ⟨?_, hF1.trans (hF4.trans (hF5.trans hF9))⟩
        (conv => lhs; whnf)
end Go.Proofs.Ytkahpaipciooiab.AlCodeBack

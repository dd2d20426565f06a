/- The law ScriptParses holds of the program: proved over what is known of memory, each function by its contract. -/
import Derived.Test.YtkahpaipciooiadAlLawScriptParses
import Derived.Test.YtkahpaipciooiadScrAwake
import Derived.Test.YtkahpaipciooiadScrK
namespace Go.Proofs.Ytkahpaipciooiad.AlScriptParses
open Go Go.Al Go.Proofs Go.RowKit Go.Proofs.Ytkahpaipciooiad.Al
set_option maxHeartbeats 8000000
set_option maxRecDepth 100000
set_option linter.unusedVariables false
set_option linter.unusedSimpArgs false
theorem parseG_ok : ∀ (n : Nat) (b : List UInt8), (∀ e ∈ parseG n b, e.ks.length ≤ 1000) ∧ (parseG n b).length ≤ n := by
  intro n
  induction n with
  | zero => intro b; exact ⟨fun e h => (by cases h), Nat.le_refl 0⟩
  | succ n ih =>
    intro b
    show (∀ e ∈ (if firstOk b then evOf b :: parseG n (b.drop (firstN b)) else []), _) ∧ (if firstOk b then evOf b :: parseG n (b.drop (firstN b)) else []).length ≤ _
    obtain ⟨h1, h2⟩ := ih (b.drop (firstN b))
    split
    · next h =>
      refine ⟨fun e he => ?_, by rw [List.length_cons]; omega⟩
      rcases List.mem_cons.1 he with rfl | he
      · have := ((checkB_iff _).1 h.2.2.2).2.2.1
        omega
      · exact h1 e he
    · exact ⟨fun e h => (by cases h), Nat.zero_le _⟩
theorem law : LawK := by
  intro F xx w A c hc hK
  obtain ⟨b, rfl⟩ := bytes_of_wf w.2
  have hr : RowAt F A (bytesOf b) := elems_bytes hK
  clear hK w
  rw [List.length_map] at hc
  simp only [List.length_map]
  have h1 := Go.Proofs.Ytkahpaipciooiad.Al.parse b A c
  have h2 := Go.Proofs.Ytkahpaipciooiad.Al.rparse b A c
  obtain ⟨hks, hln⟩ := parseG_ok b.length b
  change ∀ e ∈ parseS b, _ at hks
  change (parseS b).length ≤ _ at hln
  generalize parseS b = es at h1 h2 hks hln
  (refine fn_walk tab_ok Try.func6 rfl rfl rfl rfl ?_; (conv => whnf))
  refine cond_split (fun h => ?_) (fun h => ?_)
  · (conv => whnf)
    refine call_of (awake _) ?_
    rintro v F9 ⟨rfl, hF9⟩
    (conv => whnf)
    exact ⟨rfl, hF9⟩
  · have hb : b.length ≤ 3000 := by
      have h : decide ((b.length : Int) > 3000) = false := h
      have := of_decide_eq_false h
      omega
    clear h
    (conv => whnf)
    refine call_of (h1 F hr (by omega) hc) ?_
    rintro v F1 ⟨⟨rs, A1, c1, he1, rfl, hr1, ho1⟩, hE1⟩
    (conv => whnf)
    refine call_of (h2 F1 (hr.mono hE1) (by omega) hc) ?_
    rintro v F2 ⟨⟨ss, A2, c2, he2, rfl, hr2, ho2⟩, hE2⟩
    have hk : ∀ (ts : List ER), ts.map (·.e) = es → (∀ r ∈ ts, r.e.ks.length ≤ 1000) ∧ ts.length ≤ 50000 := by
      intro ts ht
      refine ⟨fun r hr => hks _ (by rw [← ht]; exact List.mem_map_of_mem hr), ?_⟩
      have := congrArg List.length ht
      rw [List.length_map] at this
      omega
    (conv => whnf)
    refine call_of (sameL rs ss A1 A2 c1 c2 F2 (hr1.mono hE2) hr2 (fun r hr => (ho1 r hr).mono hE2) ho2 (hk rs he1).1 (hk ss he2).1 (hk rs he1).2 (hk ss he2).2) ?_
    rintro v F3 ⟨⟨z, rfl, hz⟩, hE3⟩
    obtain rfl : z = true := hz.2 (by rw [he1, he2])
    (conv => whnf)
    refine call_of (awake _) ?_
    rintro v F9 ⟨rfl, hF9⟩
    (conv => whnf)
    exact ⟨rfl, hE1.trans (hE2.trans (hE3.trans hF9))⟩
end Go.Proofs.Ytkahpaipciooiad.AlScriptParses

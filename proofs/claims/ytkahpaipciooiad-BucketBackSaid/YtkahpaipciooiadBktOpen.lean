/- Buckets as arguments. -/
import Derived.Test.YtkahpaipciooiadBktAwake
namespace Go.Proofs.Ytkahpaipciooiad.Al
open Go Go.Al Go.Proofs Go.RowKit
set_option linter.unusedVariables false
abbrev bkWf : Int × (Int × List (List Int × List Int)) → Prop := (fun p => (fun n => (Lit.int .i64 n).wf = true) p.1 ∧ (fun p => (fun n => (Lit.int .i64 n).wf = true) p.1 ∧ (fun xs => xs.length ≤ maxLen ∧ ∀ x ∈ xs, (fun p => (fun xs => xs.length ≤ maxLen ∧ ∀ x ∈ xs, (fun n => (Lit.int .u8 n).wf = true) x) p.1 ∧ (fun xs => xs.length ≤ maxLen ∧ ∀ x ∈ xs, (fun n => (Lit.int .u8 n).wf = true) x) p.2) x) p.2) p.2)
abbrev bkK : Kind (Int × (Int × List (List Int × List Int))) := kPair 1 (kInt .i64) (kPair 1 (kInt .i64) (kSlice 2 (kPair 1 (kSlice 1 (kInt .u8)) (kSlice 1 (kInt .u8)))))
theorem bk_open {F : Heap} {x : Int × (Int × List (List Int × List Int))} {cs : Array Value} (w : bkWf x) (h : bkK F x cs.toList) : ∃ (d nx : Int) (rs : List PR) (A : Option Addr) (c : Nat), cs = bkC d nx (.slice A rs.length c) ∧ rs.length ≤ c ∧ RowAt F A (prsV rs) ∧ ∀ r ∈ rs, PrOk F r := by
  obtain ⟨d, nx, ps⟩ := x
  obtain ⟨c1, d1, e1, _, rfl, c2, d2, rfl, _, rfl, A, c, rfl, hc, hE⟩ := h
  obtain ⟨rs, hl, hr, hok⟩ := prs_open w.2.2.2 hE
  refine ⟨d, nx, rs, A, c, ?_, ?_, hr, hok⟩
  · rw [← Array.toList_inj, e1, hl]
    rfl
  · rw [hl]; exact hc
theorem few_sm {rs : List PR} (h : fewB rs 60 = true) : Sm rs := by
  obtain ⟨h1, h2⟩ := fewB_iff h
  exact ⟨by omega, fun r hr => by have := h2 r hr; omega⟩
end Go.Proofs.Ytkahpaipciooiad.Al

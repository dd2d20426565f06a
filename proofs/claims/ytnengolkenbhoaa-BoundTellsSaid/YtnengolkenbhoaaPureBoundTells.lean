/- The statement about how much a ledger and a command need, over numbers and lists: for every two whole numbers of 64 bits and every command the law's printed function answers true. Its conditions are those of the arguments' kinds. -/
import Derived.Test.YtnengolkenbhoaaPBoundTellsy
namespace Go.Proofs.Ytnengolkenbhoaa.Pure
open Go.RowKit Go.Proofs.Ytnengolkenbhoaa.PBoundTells Go.Proofs.YtnengolkenbhoaaW.PrintWords Go.Proofs.YtnengolkenbhoaaW.PrintLast Go.Proofs.YtnengolkenbhoaaW.PrintMore Go Go
theorem held_same (n : Int) : ∃ h, bound_held.f n = some h ∧ exchequerref46_held.f n = some h ∧ 0 ≤ h ∧ h ≤ 1048576 := by
  refine ⟨mn (mx n 0) 1048576, rfl, rfl, ?_, ?_⟩ <;> unfold mn mx <;> split <;> split <;> omega
theorem bound_awake : exchequerlaw46_awake.f = some true := by decide +kernel
theorem BoundTells : exchequerlaw46_BoundTells.Pure := by
  intro a b x _ _ _
  obtain ⟨h, h1, h2, h3⟩ := held_same a
  obtain ⟨g, g1, g2, g3⟩ := held_same b
  have e1 : bound_Sectors.f a = exchequerref46_Sectors.f a := by
    unfold bound_Sectors.f exchequerref46_Sectors.f bound_twice.f
    rw [h1, h2, Option.bind_some, Option.bind_some, Option.bind_some]
    congr 1
    unfold wrap64
    omega
  have e2 : bound_Writes.f b = exchequerref46_Writes.f b := by
    unfold bound_Writes.f exchequerref46_Writes.f bound_twice.f
    rw [g1, g2, Option.bind_some, Option.bind_some, Option.bind_some]
    congr 1
    unfold wrap64
    omega
  have s1 : ∃ r, exchequerref46_Sectors.f a = some r := by unfold exchequerref46_Sectors.f; rw [h2]; exact ⟨_, rfl⟩
  have s2 : ∃ r, exchequerref46_Writes.f b = some r := by unfold exchequerref46_Writes.f; rw [g2]; exact ⟨_, rfl⟩
  obtain ⟨r1, s1⟩ := s1
  obtain ⟨r2, s2⟩ := s2
  have e3 : ∀ c0 c1 c2 c3 c4 c5 c6 c7 c8 c9 c10 c11 l, ∃ r, bound_Records.f c0 c1 c2 c3 c4 c5 c6 c7 c8 c9 c10 c11 l = some r ∧ exchequerref46_Records.f c0 c1 c2 c3 c4 c5 c6 c7 c8 c9 c10 c11 l = some r := by
    intro c0 c1 c2 c3 c4 c5 c6 c7 c8 c9 c10 c11 l
    unfold bound_Records.f exchequerref46_Records.f bound_by.f
    by_cases hc : c0 = 13
    · simp only [if_pos hc]; exact ⟨_, rfl, rfl⟩
    · simp only [if_neg hc]; exact ⟨_, rfl, rfl⟩
  have e4 : ∀ c0 c1 c2 c3 c4 c5 c6 c7 c8 c9 c10 c11 l, ∃ r, bound_Keys.f c0 c1 c2 c3 c4 c5 c6 c7 c8 c9 c10 c11 l = some r ∧ exchequerref46_Keys.f c0 c1 c2 c3 c4 c5 c6 c7 c8 c9 c10 c11 l = some r := by
    intro c0 c1 c2 c3 c4 c5 c6 c7 c8 c9 c10 c11 l
    unfold bound_Keys.f exchequerref46_Keys.f bound_by.f
    by_cases hc : c0 = 13
    · simp only [if_pos hc]; exact ⟨_, rfl, rfl⟩
    · simp only [if_neg hc]; exact ⟨_, rfl, rfl⟩
  obtain ⟨r3, p3, q3⟩ := e3 x.f0 x.f1 x.f2 x.f3 x.f4 x.f5 x.f6 x.f7 x.f8 x.f9 x.f10 x.f11 x.f12
  obtain ⟨r4, p4, q4⟩ := e4 x.f0 x.f1 x.f2 x.f3 x.f4 x.f5 x.f6 x.f7 x.f8 x.f9 x.f10 x.f11 x.f12
  unfold exchequerlaw46_BoundTells.f
  rw [e1, e2, s1, s2, p3, q3, p4, q4, bound_awake]
  simp only [Option.bind_some, if_true]

end Go.Proofs.Ytnengolkenbhoaa.Pure

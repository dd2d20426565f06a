/- The statement about places that are apart, over numbers: for every three whole numbers of 16 bits without a sign the law's printed function answers true. No condition beside the kinds of the arguments. -/
import Derived.Test.YtnengolkenbhoabPLayoutApartx1
import Derived.OpenShut
namespace Go.Proofs.Ytnengolkenbhoab.Pure
open Go.RowKit Go.Proofs.Ytnengolkenbhoab.PLayoutApart Go.Proofs.YtnengolkenbhoabW.PrintWords Go.Proofs.YtnengolkenbhoabW.PrintLast Go Go Go
theorem pages_some (n : Int) (h0 : 0 ≤ n) : ∃ p, layout_Pages.f n = some p ∧ 0 ≤ p ∧ 2 * p ≤ n := by
  unfold layout_Pages.f
  by_cases h : n < 3
  · exact ⟨0, by rw [if_pos h], by omega, by omega⟩
  · by_cases h2 : n > 65536
    · exact ⟨0, by rw [if_neg h, if_pos h2], by omega, by omega⟩
    · refine ⟨(n - 1) / 2, ?_, by omega, by omega⟩
      rw [if_neg h, if_neg h2]
      congr 1
      rw [show wrap64 (n - 1) = n - 1 by unfold wrap64; omega, Int.tdiv_eq_ediv_of_nonneg (by omega)]
      unfold wrap64
      omega
theorem pages_lt (n : Int) (p : Int) (h : layout_Pages.f n = some p) (hp : 0 < p) : 2 * p < n := by
  unfold layout_Pages.f at h
  by_cases h1 : n < 3
  · rw [if_pos h1] at h; injection h with h; omega
  · by_cases h2 : n > 65536
    · rw [if_neg h1, if_pos h2] at h; injection h with h; omega
    · rw [if_neg h1, if_neg h2, show wrap64 (n - 1) = n - 1 by unfold wrap64; omega, Int.tdiv_eq_ediv_of_nonneg (by omega)] at h
      injection h with h
      unfold wrap64 at h
      omega
theorem slot_at (n i p : Int) (h : layout_Pages.f n = some p) (hi : 0 ≤ i ∧ i ≤ 65535) : layout_Slot.f n i = some (if i < p then (i + 1, true) else (0, false)) := by
  unfold layout_Slot.f layout_slots.f layout_area_at.f
  rw [h]
  simp only [Option.bind_some]
  rw [if_neg (by omega)]
  by_cases hp : i < p
  · rw [if_neg (by omega), if_pos hp]; simp only [Option.bind_some]; rw [show wrap64 (1 + i) = i + 1 by unfold wrap64; omega]
  · rw [if_pos (by omega), if_neg hp]; rfl
theorem home_at (n i p : Int) (h : layout_Pages.f n = some p) (hi : 0 ≤ i ∧ i ≤ 65535) (hp : 0 ≤ p ∧ p ≤ 65535) : layout_Home.f n i = some (if i < p then (i + 1 + p, true) else (0, false)) := by
  unfold layout_Home.f layout_homes.f layout_slots.f layout_area_at.f
  rw [h]
  simp only [Option.bind_some]
  rw [if_neg (by omega)]
  by_cases hp : i < p
  · rw [if_neg (by omega), if_pos hp]; simp only [Option.bind_some]; rw [show wrap64 (wrap64 (1 + p) + i) = i + 1 + p by unfold wrap64; omega]
  · rw [if_pos (by omega), if_neg hp]; rfl
theorem LayoutApart : exchequerlaw05_LayoutApart.Pure := by
  intro a0 a1 a2 w0 w1 w2
  have b0 := bounds_u16 w0
  have b1 := bounds_u16 w1
  have b2 := bounds_u16 w2
  have hb : exchequerlaw05_awake.f = some true := by decide +kernel
  have hm : layout_Mark.f = some 0 := rfl
  have e : ∀ a : Int, 0 ≤ a ∧ a ≤ 65535 → wrap64 a = a := by intro a h; unfold wrap64; omega
  obtain ⟨p, hp, p0, p1⟩ := pages_some a0 b0.1
  have pl := pages_lt a0 p hp
  have hq : 0 ≤ p ∧ p ≤ 65535 := by omega
  unfold exchequerlaw05_LayoutApart.f
  rw [e a0 b0, e a1 b1, e a2 b2, slot_at a0 a1 p hp b1, home_at a0 a2 p hp b2 hq, slot_at a0 a2 p hp b2, home_at a0 a1 p hp b1 hq, hb, hm]
  simp only [Option.bind_some]
  have beqs : ∀ c d : Int, ((a1 + c == a2 + c) == (a1 == a2)) = true ∧ ((a2 + c + d == a1 + c + d) == (a1 == a2)) = true := by
    intro c d
    by_cases h : a1 = a2
    · subst h; simp
    · have h2 : ¬ (a1 + c = a2 + c) := by omega
      have h3 : ¬ (a2 + c + d = a1 + c + d) := by omega
      rw [beq_false_of_ne h, beq_false_of_ne h2, beq_false_of_ne h3]; exact ⟨rfl, rfl⟩
  by_cases h1 : a1 < p <;> by_cases h2 : a2 < p
  · simp only [if_pos h1, if_pos h2, ↓reduceIte]
    rw [if_neg (by omega), if_neg (by omega), if_neg (by omega), if_neg (by omega), if_neg (by omega), if_pos (beqs 1 0).1, if_pos (by simpa using (beqs 1 p).2)]
  · simp only [if_pos h1, if_neg h2, ↓reduceIte]
    rw [if_neg (by omega), if_neg (by omega), if_neg (by omega), if_neg (by omega)]
    simp
  · simp only [if_neg h1, if_pos h2]
    simp
  · simp only [if_neg h1, if_neg h2]
    simp

end Go.Proofs.Ytnengolkenbhoab.Pure

/- The statement about the disk's layout, over numbers: for every two whole numbers of 64 bits the law's printed function answers true. No condition beside the kinds of the arguments. -/
import Derived.Test.YtnengolkenbhoaaPLayoutTellsx1
namespace Go.Proofs.Ytnengolkenbhoaa.Pure
open Go.RowKit Go.Proofs.Ytnengolkenbhoaa.PLayoutTells Go.Proofs.YtnengolkenbhoaaW.PrintWords Go.Proofs.YtnengolkenbhoaaW.PrintLast Go Go
theorem pages_eq (n : Int) : ∃ p, layout_Pages.f n = some p ∧ exchequerref05_Pages.f n = some p ∧ 0 ≤ p ∧ p ≤ 32768 := by
  unfold layout_Pages.f exchequerref05_Pages.f
  by_cases h : n < 3
  · exact ⟨0, by rw [if_pos h], by rw [if_pos h], by omega, by omega⟩
  · by_cases h2 : n > 65536
    · exact ⟨0, by rw [if_neg h, if_pos h2], by rw [if_neg h, if_pos h2], by omega, by omega⟩
    · refine ⟨(n - 1) / 2, ?_, ?_, by omega, by omega⟩ <;>
      · rw [if_neg h, if_neg h2]
        congr 1
        rw [show wrap64 (n - 1) = n - 1 by unfold wrap64; omega, Int.tdiv_eq_ediv_of_nonneg (by omega)]
        unfold wrap64
        omega
theorem slot_eq (n i : Int) (p : Int) (h1 : layout_Pages.f n = some p) (h2 : exchequerref05_Pages.f n = some p) : ∃ r, layout_Slot.f n i = some r ∧ exchequerref05_Slot.f n i = some r := by
  unfold layout_Slot.f exchequerref05_Slot.f layout_slots.f layout_area_at.f
  rw [h1, h2]
  simp only [Option.bind_some]
  by_cases h : i < 0
  · rw [if_pos h, if_pos h]; exact ⟨_, rfl, rfl⟩
  · rw [if_neg h, if_neg h]
    by_cases h' : i ≥ p
    · rw [if_pos h', if_pos h']; exact ⟨_, rfl, rfl⟩
    · rw [if_neg h', if_neg h', Int.add_comm 1 i]; exact ⟨_, rfl, rfl⟩
theorem home_eq (n i : Int) (p : Int) (h1 : layout_Pages.f n = some p) (h2 : exchequerref05_Pages.f n = some p) : ∃ r, layout_Home.f n i = some r ∧ exchequerref05_Home.f n i = some r := by
  unfold layout_Home.f exchequerref05_Home.f layout_homes.f layout_slots.f layout_area_at.f
  rw [h1, h2]
  simp only [Option.bind_some]
  by_cases h : i < 0
  · rw [if_pos h, if_pos h]; exact ⟨_, rfl, rfl⟩
  · rw [if_neg h, if_neg h]
    by_cases h' : i ≥ p
    · rw [if_pos h', if_pos h']; exact ⟨_, rfl, rfl⟩
    · rw [if_neg h', if_neg h']
      refine ⟨_, rfl, ?_⟩
      rw [show wrap64 (wrap64 (i + 1) + p) = wrap64 (wrap64 (1 + p) + i) by unfold wrap64; omega]
theorem LayoutTells : exchequerlaw05_LayoutTells.Pure := by
  intro a0 a1 _ _
  have hb : exchequerlaw05_awake.f = some true := by decide +kernel
  obtain ⟨p, h1, h2, _⟩ := pages_eq a0
  obtain ⟨⟨r, r'⟩, h3, h4⟩ := slot_eq a0 a1 p h1 h2
  obtain ⟨⟨q, q'⟩, h5, h6⟩ := home_eq a0 a1 p h1 h2
  unfold exchequerlaw05_LayoutTells.f
  rw [h3, h4, h5, h6, h1, h2, hb]
  simp

end Go.Proofs.Ytnengolkenbhoaa.Pure

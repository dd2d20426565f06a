/- The statement about the bound's pages, over numbers: for every count of records below 65536 the law's printed function answers true. No condition beside the kind of the argument. -/
import Derived.Test.YtnengolkenbhoaaPBoundPagesx1
import Derived.OpenShut
namespace Go.Proofs.Ytnengolkenbhoaa.Pure
open Go.RowKit Go.Proofs.Ytnengolkenbhoaa.PBoundPages Go.Proofs.YtnengolkenbhoaaW.PrintWords Go.Proofs.YtnengolkenbhoaaW.PrintLast Go Go
theorem BoundPages : exchequerlaw46_BoundPages.Pure := by
  intro a0 w0
  obtain ⟨h0, h1⟩ := bounds_u16 w0
  have hb : exchequerlaw46_awake.f = some true := by decide +kernel
  have w : wrap64 a0 = a0 := by unfold wrap64; omega
  have e1 : bound_held.f a0 = some a0 := by
    unfold bound_held.f mn mx
    rw [if_neg (show ¬ a0 < 0 by omega), if_neg (show ¬ (1048576 : Int) < a0 by omega)]
  have e2 : bound_twice.f (1200 + a0) = some (2401 + 2 * a0) := by
    unfold bound_twice.f wrap64
    congr 1
    omega
  have e3 : bound_Sectors.f a0 = some (2401 + 2 * a0) := by
    unfold bound_Sectors.f
    rw [e1]; simp only [Option.bind_some]
    rw [show wrap64 (1200 + a0) = 1200 + a0 by unfold wrap64; omega, e2]; rfl
  have e4 : Int.tmod (2401 + 2 * a0) 2 = 1 := by
    rw [Int.tmod_eq_emod_of_nonneg (by omega)]; omega
  unfold exchequerlaw46_BoundPages.f
  rw [w, e3, hb]
  simp only [Option.bind_some]
  by_cases h : 2401 + 2 * a0 > 65536
  · rw [if_pos h, if_pos e4]
  · rw [if_neg h]
    have e5 : layout_Pages.f (2401 + 2 * a0) = some (1200 + a0) := by
      unfold layout_Pages.f
      rw [if_neg (by omega), if_neg h]
      congr 1
      rw [show wrap64 (2401 + 2 * a0 - 1) = 2400 + 2 * a0 by unfold wrap64; omega, Int.tdiv_eq_ediv_of_nonneg (by omega)]
      unfold wrap64
      omega
    rw [e5]
    simp only [Option.bind_some]
    rw [if_pos (by unfold wrap64; omega), if_pos e4]

end Go.Proofs.Ytnengolkenbhoaa.Pure

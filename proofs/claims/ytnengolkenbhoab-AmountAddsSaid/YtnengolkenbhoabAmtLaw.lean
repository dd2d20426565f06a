/- The contract of the laws' awake: over what is known of memory it hands back true. -/
import Derived.Test.YtnengolkenbhoabAmt2
namespace Go.Proofs.Ytnengolkenbhoab.Al
open Go Go.Al Go.Proofs Go.RowKit
set_option maxHeartbeats 8000000
set_option maxRecDepth 100000
set_option linter.unusedVariables false
set_option linter.unusedSimpArgs false
theorem wf64 {a : Int} (w : (Lit.int .i64 a).wf = true) : -9223372036854775808 ≤ a ∧ a < 9223372036854775808 := by
  simp [Lit.wf, IntKind.min, IntKind.max, IntKind.signed, IntKind.bits] at w
  omega
theorem txt12 : txt (-12) = [45, 49, 50] := by
  have : (-12 : Int).natAbs = 12 := rfl
  unfold txt
  rw [if_pos (by decide), this, digsR_step 12, if_neg (by decide), digsR_step (12 / 10), if_pos (by decide)]
  decide
theorem awake (F : Heap) : FnK Try.prog 22 #[] F (fun v F' => v = .bool true ∧ Ext F F') := by
  (refine fn_walk tab_ok Try.func22 rfl rfl rfl rfl ?_; (conv => whnf))
  refine new_step (.cells #[.int .i64 1, .int .i64 2, .int .i64 3] 3) rfl fun b hb => ?_
  (conv => whnf)
  have hrow : RowAt (F.put b (.cells #[.int .i64 1, .int .i64 2, .int .i64 3] 3)) (some ⟨b, 0, none⟩) (([1, 2, 3] : List Int).map (.int .i64)) := fun j v hj => ⟨_, rfl, by
    rw [add_plain, Heap.cell_at (Heap.put_same _ _ _), Nat.zero_add]
    simpa using hj⟩
  have hs := sum [1, 2, 3] (some ⟨b, 0, none⟩) 3 _ hrow (by decide)
  have hv : sumS 0 [1, 2, 3] = (6, 0) := by decide +kernel
  rw [hv] at hs
  refine call_of hs ?_
  rintro v _ ⟨rfl, rfl⟩
  (conv => whnf)
  have ha := add 4611686018427387904 1 (F.put b (.cells #[.int .i64 1, .int .i64 2, .int .i64 3] 3))
  have hv2 : addS 4611686018427387904 1 = (0, 9) := by decide +kernel
  rw [hv2] at ha
  refine call_of ha ?_
  rintro v _ ⟨rfl, rfl⟩
  (conv => whnf)
  have hr := right 9007199254740992 (F.put b (.cells #[.int .i64 1, .int .i64 2, .int .i64 3] 3))
  have hv3 : rightB 9007199254740992 = true := by decide +kernel
  rw [hv3] at hr
  refine call_of hr ?_
  rintro v _ ⟨rfl, rfl⟩
  (conv => whnf)
  have ht := text (-12) (by decide) (by decide) (F.put b (.cells #[.int .i64 1, .int .i64 2, .int .i64 3] 3))
  rw [txt12] at ht
  refine call_of ht ?_
  rintro v F2 ⟨rfl, hF⟩
  (conv => whnf)
  exact ⟨congrArg Value.bool (beq_self_eq_true _), (Ext.new hb _).trans hF⟩
end Go.Proofs.Ytnengolkenbhoab.Al

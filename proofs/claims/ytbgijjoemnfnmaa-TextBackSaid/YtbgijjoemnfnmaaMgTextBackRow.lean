/- The law TextBack holds of the program, for every input that its row lets in. -/
import Derived.Test.YtbgijjoemnfnmaaRows
import Derived.Test.YtbgijjoemnfnmaaMgTextBackLaw
import Derived.Test.YtbgijjoemnfnmaaMgTextBackP
import Derived.WalkKit
import Derived.ProofKit
import Derived.OpenShut
import Derived.ShutString
import Derived.ChangeOld
import Derived.Below
import Derived.SizedLaws
import Derived.Carry
namespace Go.Proofs.Ytbgijjoemnfnmaa.textBack
open Go.ChangeShapes Go.WideShapes Go.ChangeAt Go.RowKit Go.Al
open Go.ChangeMaps (open_string shut_string)
set_option linter.unusedVariables false
theorem own : ownKnob Try.prog.godebug = none := by kernel_rfl
theorem laidOut : laidOutB Try.prog = true := by kernel_rfl
set_option maxRecDepth 100000 in
theorem lifted (os : Os) (started : os.Started) (H : Type) (enc : TypeId × Value → H) :
    ReturnsInHanded {} Try.checked os 5 .any (Rows.textBackSpec.pre6 enc Try.prog Try.f5 Rows.textBackRow.domain false) (Rows.textBackSpec.post enc Try.prog Try.f5 false true false false) := by
  refine returnsInHanded_of_change_sized (C := Try.checked) own started (by kernel_rfl) Try.func5
    (ChangeSpec.witness6 (enc := enc) (C := Try.checked) false ⟨#[], #[.agg #[(.int .i64 0), (.int .i64 0), (.int .i64 0), (.int .i64 0), (.int .i64 0), (.int .i64 0), (.int .i64 0), (.int .i64 0), (.int .i64 0), (.int .i64 0), (.bool false), (.string .empty), (.slice none 0 0)], .string .empty], []⟩ 16 (by kernel_rfl) (by kernel_rfl) (by kernel_rfl) (by kernel_rfl)) ?_
  intro W base args ds gs before hval0 hW hcnd hsz0 _
  have hval : ∀ (j : Nat) t v, Try.f5.params[j]? = some t → args[j]? = some v → Value.okWide Try.prog W .any base t v := hval0
  have hW' := hW
  obtain ⟨p, q, hA0, hV, rfl, hfz, hnd⟩ := hW
  have hA : DataW.TrodAll enc Try.prog W 0 (fun _ => true) true Try.f5.params.toList args.toList ds p := hA0
  rw [Try.params5] at hA hval
  obtain ⟨v0, vs0, d0, ds0, p0, q0, hargs, rfl, rfl, h0, r0⟩ := trodAll_cons hA
  obtain ⟨v1, vs1, d1, ds1, p1, q1, rfl, rfl, rfl, h1, r1⟩ := trodAll_cons r0
  obtain ⟨rfl, rfl, rfl⟩ := trodAll_nil r1
  obtain rfl : args = #[v0, v1] := by cases args; simp_all
  obtain ⟨rfl, rfl⟩ := trodVars_none hV
  obtain ⟨cs0, rfl, _⟩ := okWide_struct Try.underlying25 (hval 0 25 v0 rfl rfl)
  have t0 := h0
  have lt0 : ∀ x ∈ p0, x.block < W.heap.size := by obtain ⟨m, hm⟩ := t0; exact DataW.trod_lt m _ _ _ hm
  obtain ⟨x0, hK0, w0⟩ := Opens.trod (opens_struct 13 Try.underlying25 (by kernel_rfl) (part_cons 1 rfl (by kernel_rfl) (opens_int Try.underlying3) (part_cons 1 rfl (by kernel_rfl) (opens_int Try.underlying3) (part_cons 1 rfl (by kernel_rfl) (opens_int Try.underlying3) (part_cons 1 rfl (by kernel_rfl) (opens_int Try.underlying3) (part_cons 1 rfl (by kernel_rfl) (opens_int Try.underlying3) (part_cons 1 rfl (by kernel_rfl) (opens_int Try.underlying3) (part_cons 1 rfl (by kernel_rfl) (opens_int Try.underlying3) (part_cons 1 rfl (by kernel_rfl) (opens_int Try.underlying3) (part_cons 1 rfl (by kernel_rfl) (opens_int Try.underlying3) (part_cons 1 rfl (by kernel_rfl) (opens_int Try.underlying3) (part_cons 1 rfl (by kernel_rfl) (opens_bool Try.underlying4) (part_cons 1 rfl (by kernel_rfl) (opens_string Try.underlying9) (part_one 1 rfl (by kernel_rfl) (opens_slice 4 Try.underlying23 (by kernel_rfl) (opens_struct 4 Try.underlying41 (by kernel_rfl) (part_cons 1 rfl (by kernel_rfl) (opens_int Try.underlying3) (part_cons 1 rfl (by kernel_rfl) (opens_int Try.underlying3) (part_cons 1 rfl (by kernel_rfl) (opens_int Try.underlying3) (part_one 1 rfl (by kernel_rfl) (opens_int Try.underlying3))))))))))))))))))))) h0
  obtain ⟨a1, rfl, rfl, rfl, w1⟩ := open_string Try.underlying9 (hval 1 9 v1 rfl rfl) h1
  refine ((AlTextBack.law (whole W) x0 w0 cs0 hK0 a1 w1).2 W (has_whole W)).mono fun e W' he_ => ?_
  obtain ⟨v_, F', he, hF', hr', rfl, hext⟩ := he_
  have bel : Below W.heap.size W W' := below_whole hext hF' hr'
  subst he
  exact ⟨_, rfl, _, _, _, [], _, [], hW', trodAll_mk1 (shut_bool Try.underlying4 _), (trodAll_cons_mk (Below.trod laidOut (by kernel_rfl) (of_decide_eq_true (by kernel_rfl)) t0 bel lt0) (trodAll_cons_mk (shut_string Try.underlying9 w1) trodAll_mk0)), rfl, bel.frame _, fun h => by cases h⟩
theorem over : Rows.textBackRow.holds Try.pinned (OpenSpec.ofChange Rows.textBackSpec) :=
  OpenClaim.holds_of_wide 5 Try.f5 rfl rfl rfl rfl rfl rfl rfl ⟨rfl, rfl, rfl, rfl, rfl⟩ rfl rfl rfl rfl rfl (by kernel_rfl) Try.func5 (by kernel_rfl)
    (of_decide_eq_true (by kernel_rfl)) (by unfold Func.isWrapper; first | (rw [if_pos (by decide +kernel)]; kernel_rfl) | (rw [if_neg (by decide +kernel)]; exact ⟨rfl, rfl⟩))
    (fun os started H enc _ => lifted os started H enc)
theorem proved : Rows.TextBackSaid := over
#print axioms proved
end Go.Proofs.Ytbgijjoemnfnmaa.textBack
namespace Go.Proofs.Ytbgijjoemnfnmaa
/-- The row, under a short name, for the claim. -/
theorem textBack_holds : Rows.TextBackSaid := textBack.proved
end Go.Proofs.Ytbgijjoemnfnmaa

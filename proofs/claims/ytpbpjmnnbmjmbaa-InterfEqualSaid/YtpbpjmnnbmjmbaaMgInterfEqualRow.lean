/- The law InterfEqual holds of the program, for every input that its row lets in. -/
import Derived.Test.YtpbpjmnnbmjmbaaRows
import Derived.Test.YtpbpjmnnbmjmbaaMgInterfEqualLaw
import Derived.Test.YtpbpjmnnbmjmbaaMgInterfEqualP
import Derived.WalkKit
import Derived.ProofKit
import Derived.OpenShut
import Derived.ShutString
import Derived.ChangeOld
import Derived.Below
import Derived.SizedLaws
import Derived.Carry
namespace Go.Proofs.Ytpbpjmnnbmjmbaa.interfEqual
open Go.ChangeShapes Go.WideShapes Go.ChangeAt Go.RowKit Go.Al
open Go.ChangeMaps (open_string shut_string)
set_option linter.unusedVariables false
theorem own : ownKnob Try.prog.godebug = none := by kernel_rfl
theorem laidOut : laidOutB Try.prog = true := by kernel_rfl
set_option maxRecDepth 100000 in
theorem lifted (os : Os) (started : os.Started) (H : Type) (enc : TypeId × Value → H) :
    ReturnsInHanded {} Try.checked os 4 .any (Rows.interfEqualSpec.pre6 enc Try.prog Try.f4 Rows.interfEqualRow.domain false) (Rows.interfEqualSpec.post enc Try.prog Try.f4 false true false false) := by
  refine returnsInHanded_of_change_sized (C := Try.checked) own started (by kernel_rfl) Try.func4
    (ChangeSpec.witness6 (enc := enc) (C := Try.checked) false ⟨#[], #[.slice none 0 0], []⟩ 16 (by kernel_rfl) (by kernel_rfl) (by kernel_rfl) (by kernel_rfl)) ?_
  intro W base args ds gs before hval0 hW hcnd hsz0 _
  have hval : ∀ (j : Nat) t v, Try.f4.params[j]? = some t → args[j]? = some v → Value.okWide Try.prog W .any base t v := hval0
  have hW' := hW
  obtain ⟨p, q, hA0, hV, rfl, hfz, hnd⟩ := hW
  have hA : DataW.TrodAll enc Try.prog W 0 (fun _ => true) true Try.f4.params.toList args.toList ds p := hA0
  rw [Try.params4] at hA hval
  obtain ⟨v0, vs0, d0, ds0, p0, q0, hargs, rfl, rfl, h0, r0⟩ := trodAll_cons hA
  obtain ⟨rfl, rfl, rfl⟩ := trodAll_nil r0
  obtain rfl : args = #[v0] := by cases args; simp_all
  obtain ⟨rfl, rfl⟩ := trodVars_none hV
  obtain ⟨b0, len0, cap0, rfl⟩ := okWide_slice Try.underlying22 (hval 0 22 v0 rfl rfl)
  have t0 := h0
  have lt0 : ∀ x ∈ p0, x.block < W.heap.size := by obtain ⟨m, hm⟩ := t0; exact DataW.trod_lt m _ _ _ hm
  obtain ⟨x0, hK0, w0⟩ := Opens.trod (opens_slice 4 Try.underlying22 (by kernel_rfl) (opens_struct 4 Try.underlying27 (by kernel_rfl) (part_cons 1 rfl (by kernel_rfl) (opens_int Try.underlying3) (part_cons 1 rfl (by kernel_rfl) (opens_int Try.underlying3) (part_cons 1 rfl (by kernel_rfl) (opens_int Try.underlying3) (part_one 1 rfl (by kernel_rfl) (opens_int Try.underlying3))))))) h0
  obtain ⟨A0, c0, e0, hc0, hE0⟩ := hK0
  injection (List.cons.inj (show [Value.slice b0 len0 cap0] = [Value.slice A0 x0.length c0] from e0)).1 with eb0 el0 ec0
  subst eb0; subst el0; subst ec0
  refine ((AlInterfEqual.law (whole W) x0 w0 b0 cap0 hc0 hE0).2 W (has_whole W)).mono fun e W' he_ => ?_
  obtain ⟨v_, F', he, hF', hr', rfl, hext⟩ := he_
  have bel : Below W.heap.size W W' := below_whole hext hF' hr'
  subst he
  exact ⟨_, rfl, _, _, _, [], _, [], hW', trodAll_mk1 (shut_bool Try.underlying4 _), (trodAll_cons_mk (Below.trod laidOut (by kernel_rfl) (of_decide_eq_true (by kernel_rfl)) t0 bel lt0) trodAll_mk0), rfl, bel.frame _, fun h => by cases h⟩
theorem over : Rows.interfEqualRow.holds Try.pinned (OpenSpec.ofChange Rows.interfEqualSpec) :=
  OpenClaim.holds_of_wide 4 Try.f4 rfl rfl rfl rfl rfl rfl rfl ⟨rfl, rfl, rfl, rfl, rfl⟩ rfl rfl rfl rfl rfl (by kernel_rfl) Try.func4 (by kernel_rfl)
    (of_decide_eq_true (by kernel_rfl)) (by unfold Func.isWrapper; first | (rw [if_pos (by decide +kernel)]; kernel_rfl) | (rw [if_neg (by decide +kernel)]; exact ⟨rfl, rfl⟩))
    (fun os started H enc _ => lifted os started H enc)
theorem proved : Rows.InterfEqualSaid := over
#print axioms proved
end Go.Proofs.Ytpbpjmnnbmjmbaa.interfEqual
namespace Go.Proofs.Ytpbpjmnnbmjmbaa
/-- The row, under a short name, for the claim. -/
theorem interfEqual_holds : Rows.InterfEqualSaid := interfEqual.proved
end Go.Proofs.Ytpbpjmnnbmjmbaa

-- PRINTED for this claim by a program of this session's (wip/xp); Lean checks it
import Derived.Test.YtnengolkenbhoaaRows
import Derived.Test.YtnengolkenbhoaaPBoundTellsy
import Derived.Test.YtnengolkenbhoaaWXOpen
import Derived.Test.YtnengolkenbhoaaPureBoundTells
import Derived.WalkKit
import Derived.ProofKit
import Derived.OpenShut
import Derived.ShutString
import Derived.ChangeOld
import Derived.Below
import Derived.SizedLaws
import Derived.Carry
namespace Go.Proofs.Ytnengolkenbhoaa.boundTells
open Go.ChangeShapes Go.WideShapes Go.ChangeAt Go.RowKit Go.Proofs.Ytnengolkenbhoaa.PBoundTells Go.Proofs.YtnengolkenbhoaaW.XOpen Go.Proofs.YtnengolkenbhoaaW.PrintWords Go.Proofs.YtnengolkenbhoaaW.PrintLast Go.Proofs.YtnengolkenbhoaaW.PrintMore
open Go.ChangeMaps (open_string shut_string)
set_option linter.unusedVariables false
theorem own : ownKnob Try.prog.godebug = none := by kernel_rfl
theorem laidOut : laidOutB Try.prog = true := by kernel_rfl
theorem o56 : Opens Try.prog 56 k56 g56 := opens_struct (fun p_ => (⟨p_.1, p_.2.1, p_.2.2.1, p_.2.2.2⟩ : S56)) (fun _ => rfl) Try.underlying56 (by kernel_rfl) (part_cons rfl (by kernel_rfl) (opens_int Try.underlying3) (part_cons rfl (by kernel_rfl) (opens_int Try.underlying3) (part_cons rfl (by kernel_rfl) (opens_int Try.underlying3) (part_one rfl (by kernel_rfl) (opens_int Try.underlying3)))))
theorem o24 : Opens Try.prog 24 k24 g24 := opens_struct (fun p_ => (⟨p_.1, p_.2.1, p_.2.2.1, p_.2.2.2.1, p_.2.2.2.2.1, p_.2.2.2.2.2.1, p_.2.2.2.2.2.2.1, p_.2.2.2.2.2.2.2.1, p_.2.2.2.2.2.2.2.2.1, p_.2.2.2.2.2.2.2.2.2.1, p_.2.2.2.2.2.2.2.2.2.2.1, p_.2.2.2.2.2.2.2.2.2.2.2.1, p_.2.2.2.2.2.2.2.2.2.2.2.2⟩ : S24)) (fun _ => rfl) Try.underlying24 (by kernel_rfl) (part_cons rfl (by kernel_rfl) (opens_int Try.underlying3) (part_cons rfl (by kernel_rfl) (opens_int Try.underlying3) (part_cons rfl (by kernel_rfl) (opens_int Try.underlying3) (part_cons rfl (by kernel_rfl) (opens_int Try.underlying3) (part_cons rfl (by kernel_rfl) (opens_int Try.underlying3) (part_cons rfl (by kernel_rfl) (opens_int Try.underlying3) (part_cons rfl (by kernel_rfl) (opens_int Try.underlying3) (part_cons rfl (by kernel_rfl) (opens_int Try.underlying3) (part_cons rfl (by kernel_rfl) (opens_int Try.underlying3) (part_cons rfl (by kernel_rfl) (opens_int Try.underlying3) (part_cons rfl (by kernel_rfl) (opens_bool Try.underlying4) (part_cons rfl (by kernel_rfl) (opens_string Try.underlying9) (part_one rfl (by kernel_rfl) (opens_slice Try.underlying22 (by kernel_rfl) o56))))))))))))))
set_option maxRecDepth 100000 in
theorem lifted (os : Os) (started : os.Started) (H : Type) (enc : TypeId × Value → H) :
    ReturnsInHanded {} Try.checked os 3 .any (Rows.boundTellsSpec.pre6 enc Try.prog Try.f3 Rows.boundTellsRow.domain false) (Rows.boundTellsSpec.post enc Try.prog Try.f3 false true false false) := by
  refine returnsInHanded_of_change_sized (C := Try.checked) own started (by kernel_rfl) Try.func3
    (ChangeSpec.witness6 (enc := enc) (C := Try.checked) false ⟨#[], #[(.int .i64 0), (.int .i64 0), (.agg #[(.int .i64 0), (.int .i64 0), (.int .i64 0), (.int .i64 0), (.int .i64 0), (.int .i64 0), (.int .i64 0), (.int .i64 0), (.int .i64 0), (.int .i64 0), (.bool false), (.string ⟨#[]⟩), (.slice none 0 0)])], []⟩ 16 (by kernel_rfl) (by kernel_rfl) (by kernel_rfl) (by kernel_rfl)) ?_
  intro W base args ds gs before hval0 hW hcnd hsz0 _
  have hval : ∀ (j : Nat) t v, Try.f3.params[j]? = some t → args[j]? = some v → Value.okWide Try.prog W .any base t v := hval0
  have hW' := hW
  obtain ⟨p, q, hA0, hV, rfl, hfz, hnd⟩ := hW
  have hA : DataW.TrodAll enc Try.prog W 0 (fun _ => true) true Try.f3.params.toList args.toList ds p := hA0
  rw [Try.params3] at hA hval
  obtain ⟨v0, vs0, d0, ds0, p0, q0, hargs, rfl, rfl, h0, r0⟩ := trodAll_cons hA
  obtain ⟨v1, vs1, d1, ds1, p1, q1, rfl, rfl, rfl, h1, r1⟩ := trodAll_cons r0
  obtain ⟨v2, vs2, d2, ds2, p2, q2, rfl, rfl, rfl, h2, r2⟩ := trodAll_cons r1
  obtain ⟨rfl, rfl, rfl⟩ := trodAll_nil r2
  obtain rfl : args = #[v0, v1, v2] := by cases args; simp_all
  obtain ⟨rfl, rfl⟩ := trodVars_none hV
  obtain ⟨a0, rfl, rfl, rfl, w0⟩ := open_int Try.underlying3 (hval 0 3 v0 rfl rfl) h0
  obtain ⟨a1, rfl, rfl, rfl, w1⟩ := open_int Try.underlying3 (hval 1 3 v1 rfl rfl) h1
  obtain ⟨cs2, rfl, _⟩ := okWide_struct Try.underlying24 (hval 2 24 v2 rfl rfl)
  have t2 := h2
  have lt2 : ∀ x ∈ p2, x.block < W.heap.size := by obtain ⟨m, hm⟩ := t2; exact DataW.trod_lt m _ _ _ hm
  obtain ⟨x2, hK2, w2⟩ := o24.trod h2
  obtain ⟨A2_12, c2_12, e2, hc2_12, hr2_12⟩ := k24_open hK2
  obtain rfl := Array.toList_inj.1 (e2 : cs2.toList = (#[.int .i64 x2.f0, .int .i64 x2.f1, .int .i64 x2.f2, .int .i64 x2.f3, .int .i64 x2.f4, .int .i64 x2.f5, .int .i64 x2.f6, .int .i64 x2.f7, .int .i64 x2.f8, .int .i64 x2.f9, .bool x2.f10, .string x2.f11, .slice A2_12 x2.f12.length c2_12] : Array Value).toList)
  have hp := Pure.BoundTells a0 a1 x2 w0 w1 w2
  refine (exchequerlaw46_BoundTells.calls a0 a1 x2.f0 x2.f1 x2.f2 x2.f3 x2.f4 x2.f5 x2.f6 x2.f7 x2.f8 x2.f9 x2.f10 x2.f11 A2_12 c2_12 x2.f12 true W hr2_12 hc2_12 hp).mono fun e W' ⟨he, bel0⟩ => ?_
  have bel : Below W.heap.size W W' := bel0
  subst he
  exact ⟨_, rfl, _, _, _, [], _, [], hW', trodAll_mk1 (shut_bool Try.underlying4 _), (trodAll_cons_mk (shut_int Try.underlying3 w0) (trodAll_cons_mk (shut_int Try.underlying3 w1) (trodAll_cons_mk (Below.trod laidOut (by kernel_rfl) (of_decide_eq_true (by kernel_rfl)) t2 bel lt2) trodAll_mk0))), rfl, bel.frame _, fun h => by cases h⟩
theorem over : Rows.boundTellsRow.holds Try.pinned (OpenSpec.ofChange Rows.boundTellsSpec) :=
  OpenClaim.holds_of_wide 3 Try.f3 rfl rfl rfl rfl rfl rfl rfl ⟨rfl, rfl, rfl, rfl, rfl⟩ rfl rfl rfl rfl rfl (by kernel_rfl) Try.func3 (by kernel_rfl)
    (of_decide_eq_true (by kernel_rfl)) (by unfold Func.isWrapper; first | (rw [if_pos (by decide +kernel)]; kernel_rfl) | (rw [if_neg (by decide +kernel)]; exact ⟨rfl, rfl⟩))
    (fun os started H enc _ => lifted os started H enc)
theorem proved : Rows.BoundTellsSaid := over
#print axioms proved
end Go.Proofs.Ytnengolkenbhoaa.boundTells
namespace Go.Proofs.Ytnengolkenbhoaa
/-- The row, under a short name, for the claim. -/
theorem boundTells_holds : Rows.BoundTellsSaid := boundTells.proved
end Go.Proofs.Ytnengolkenbhoaa

/- The law DiffTells holds of the program, for every input that its row lets in. -/
import Derived.Test.YtlkdbmoocajjlaaRows
import Derived.Test.YtlkdbmoocajjlaaAlLawDiffTells
import Derived.Test.YtlkdbmoocajjlaaAlPDiffTells
import Derived.WalkKit
import Derived.ProofKit
import Derived.OpenShut
import Derived.ShutString
import Derived.ChangeOld
import Derived.Below
import Derived.SizedLaws
import Derived.Carry
namespace Go.Proofs.Ytlkdbmoocajjlaa.diffTells
open Go.ChangeShapes Go.WideShapes Go.ChangeAt Go.RowKit Go.Al
open Go.ChangeMaps (open_string shut_string)
set_option linter.unusedVariables false
theorem own : ownKnob Try.prog.godebug = none := by kernel_rfl
theorem laidOut : laidOutB Try.prog = true := by kernel_rfl
set_option maxRecDepth 100000 in
theorem lifted (os : Os) (started : os.Started) (H : Type) (enc : TypeId × Value → H) :
    ReturnsInHanded {} Try.checked os 4 .any (Rows.diffTellsSpec.pre6 enc Try.prog Try.f4 Rows.diffTellsRow.domain false) (Rows.diffTellsSpec.post enc Try.prog Try.f4 false true false false) := by
  refine returnsInHanded_of_change_sized (C := Try.checked) own started (by kernel_rfl) Try.func4
    (ChangeSpec.witness6 (enc := enc) (C := Try.checked) false ⟨#[], #[.slice none 0 0, .slice none 0 0, .slice none 0 0, .bool false], []⟩ 16 (by kernel_rfl) (by kernel_rfl) (by kernel_rfl) (by kernel_rfl)) ?_
  intro W base args ds gs before hval0 hW hcnd hsz0 _
  have hval : ∀ (j : Nat) t v, Try.f4.params[j]? = some t → args[j]? = some v → Value.okWide Try.prog W .any base t v := hval0
  have hW' := hW
  obtain ⟨p, q, hA0, hV, rfl, hfz, hnd⟩ := hW
  have hA : DataW.TrodAll enc Try.prog W 0 (fun _ => true) true Try.f4.params.toList args.toList ds p := hA0
  rw [Try.params4] at hA hval
  obtain ⟨v0, vs0, d0, ds0, p0, q0, hargs, rfl, rfl, h0, r0⟩ := trodAll_cons hA
  obtain ⟨v1, vs1, d1, ds1, p1, q1, rfl, rfl, rfl, h1, r1⟩ := trodAll_cons r0
  obtain ⟨v2, vs2, d2, ds2, p2, q2, rfl, rfl, rfl, h2, r2⟩ := trodAll_cons r1
  obtain ⟨v3, vs3, d3, ds3, p3, q3, rfl, rfl, rfl, h3, r3⟩ := trodAll_cons r2
  obtain ⟨rfl, rfl, rfl⟩ := trodAll_nil r3
  obtain rfl : args = #[v0, v1, v2, v3] := by cases args; simp_all
  obtain ⟨rfl, rfl⟩ := trodVars_none hV
  obtain ⟨b0, len0, cap0, rfl⟩ := okWide_slice Try.underlying43 (hval 0 43 v0 rfl rfl)
  have t0 := h0
  have lt0 : ∀ x ∈ p0, x.block < W.heap.size := by obtain ⟨m, hm⟩ := t0; exact DataW.trod_lt m _ _ _ hm
  obtain ⟨x0, hK0, w0⟩ := Opens.trod (opens_slice 2 Try.underlying43 (by kernel_rfl) (opens_struct 2 Try.underlying75 (by kernel_rfl) (part_cons 1 rfl (by kernel_rfl) (opens_slice 1 Try.underlying55 (by kernel_rfl) (opens_int Try.underlying5)) (part_one 1 rfl (by kernel_rfl) (opens_slice 1 Try.underlying55 (by kernel_rfl) (opens_int Try.underlying5)))))) h0
  obtain ⟨A0, c0, e0, hc0, hE0⟩ := hK0
  injection (List.cons.inj (show [Value.slice b0 len0 cap0] = [Value.slice A0 x0.length c0] from e0)).1 with eb0 el0 ec0
  subst eb0; subst el0; subst ec0
  obtain ⟨b1, len1, cap1, rfl⟩ := okWide_slice Try.underlying43 (hval 1 43 v1 rfl rfl)
  have t1 := h1
  have lt1 : ∀ x ∈ p1, x.block < W.heap.size := by obtain ⟨m, hm⟩ := t1; exact DataW.trod_lt m _ _ _ hm
  obtain ⟨x1, hK1, w1⟩ := Opens.trod (opens_slice 2 Try.underlying43 (by kernel_rfl) (opens_struct 2 Try.underlying75 (by kernel_rfl) (part_cons 1 rfl (by kernel_rfl) (opens_slice 1 Try.underlying55 (by kernel_rfl) (opens_int Try.underlying5)) (part_one 1 rfl (by kernel_rfl) (opens_slice 1 Try.underlying55 (by kernel_rfl) (opens_int Try.underlying5)))))) h1
  obtain ⟨A1, c1, e1, hc1, hE1⟩ := hK1
  injection (List.cons.inj (show [Value.slice b1 len1 cap1] = [Value.slice A1 x1.length c1] from e1)).1 with eb1 el1 ec1
  subst eb1; subst el1; subst ec1
  obtain ⟨b2, len2, cap2, rfl⟩ := okWide_slice Try.underlying44 (hval 2 44 v2 rfl rfl)
  have t2 := h2
  have lt2 : ∀ x ∈ p2, x.block < W.heap.size := by obtain ⟨m, hm⟩ := t2; exact DataW.trod_lt m _ _ _ hm
  obtain ⟨x2, hK2, w2⟩ := Opens.trod (opens_slice 1 Try.underlying44 (by kernel_rfl) (opens_slice 1 Try.underlying55 (by kernel_rfl) (opens_int Try.underlying5))) h2
  obtain ⟨A2, c2, e2, hc2, hE2⟩ := hK2
  injection (List.cons.inj (show [Value.slice b2 len2 cap2] = [Value.slice A2 x2.length c2] from e2)).1 with eb2 el2 ec2
  subst eb2; subst el2; subst ec2
  obtain ⟨a3, rfl, rfl, rfl⟩ := open_bool Try.underlying4 (hval 3 4 v3 rfl rfl) h3
  refine ((AlDiffTells.law (whole W) x0 w0 b0 cap0 hc0 hE0 x1 w1 b1 cap1 hc1 hE1 x2 w2 b2 cap2 hc2 hE2 a3).2 W (has_whole W)).mono fun e W' he_ => ?_
  obtain ⟨v_, F', he, hF', hr', rfl, hext⟩ := he_
  have bel : Below W.heap.size W W' := below_whole hext hF' hr'
  subst he
  exact ⟨_, rfl, _, _, _, [], _, [], hW', trodAll_mk1 (shut_bool Try.underlying4 _), (trodAll_cons_mk (Below.trod laidOut (by kernel_rfl) (of_decide_eq_true (by kernel_rfl)) t0 bel lt0) (trodAll_cons_mk (Below.trod laidOut (by kernel_rfl) (of_decide_eq_true (by kernel_rfl)) t1 bel lt1) (trodAll_cons_mk (Below.trod laidOut (by kernel_rfl) (of_decide_eq_true (by kernel_rfl)) t2 bel lt2) (trodAll_cons_mk (shut_bool Try.underlying4 _) trodAll_mk0)))), rfl, bel.frame _, fun h => by cases h⟩
theorem over : Rows.diffTellsRow.holds Try.pinned (OpenSpec.ofChange Rows.diffTellsSpec) :=
  OpenClaim.holds_of_wide 4 Try.f4 rfl rfl rfl rfl rfl rfl rfl ⟨rfl, rfl, rfl, rfl, rfl⟩ rfl rfl rfl rfl rfl (by kernel_rfl) Try.func4 (by kernel_rfl)
    (of_decide_eq_true (by kernel_rfl)) (by unfold Func.isWrapper; first | (rw [if_pos (by decide +kernel)]; kernel_rfl) | (rw [if_neg (by decide +kernel)]; exact ⟨rfl, rfl⟩))
    (fun os started H enc _ => lifted os started H enc)
theorem proved : Rows.DiffTellsSaid := over
#print axioms proved
end Go.Proofs.Ytlkdbmoocajjlaa.diffTells
namespace Go.Proofs.Ytlkdbmoocajjlaa
/-- The row, under a short name, for the claim. -/
theorem diffTells_holds : Rows.DiffTellsSaid := diffTells.proved
end Go.Proofs.Ytlkdbmoocajjlaa

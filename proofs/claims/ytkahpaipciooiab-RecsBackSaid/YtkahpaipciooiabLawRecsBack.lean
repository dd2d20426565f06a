-- PRINTED for this claim by a program of this session's (wip/xp); Lean checks it
import Derived.Test.YtkahpaipciooiabRows
import Derived.Test.YtkahpaipciooiabPRecsBacky
import Derived.Test.YtkahpaipciooiabTRecsBack
import Derived.Test.YtkahpaipciooiabPureRecsBack
import Derived.WalkKit
import Derived.ProofKit
import Derived.OpenShut
import Derived.ShutString
import Derived.ChangeOld
import Derived.Below
import Derived.SizedLaws
import Derived.Carry
namespace Go.Proofs.Ytkahpaipciooiab.recsBack
open Go.ChangeShapes Go.WideShapes Go.ChangeAt Go.RowKit Go.Proofs.Ytkahpaipciooiab.PRecsBack Go.Proofs.YtkahpaipciooiabW.XOpen Go.Proofs.YtkahpaipciooiabW.PrintWords Go.Proofs.YtkahpaipciooiabW.PrintLast Go.Proofs.YtkahpaipciooiabW.PrintMore
open Go.ChangeMaps (open_string shut_string)
set_option linter.unusedVariables false
theorem own : ownKnob Try.prog.godebug = none := by kernel_rfl
theorem laidOut : laidOutB Try.prog = true := by kernel_rfl
theorem o35 : Opens Try.prog 35 k35 g35 := opens_struct (fun p_ => (⟨p_.1, p_.2.1, p_.2.2.1, p_.2.2.2.1, p_.2.2.2.2.1, p_.2.2.2.2.2.1, p_.2.2.2.2.2.2.1, p_.2.2.2.2.2.2.2.1, p_.2.2.2.2.2.2.2.2.1, p_.2.2.2.2.2.2.2.2.2.1, p_.2.2.2.2.2.2.2.2.2.2.1, p_.2.2.2.2.2.2.2.2.2.2.2⟩ : S35)) (fun _ => rfl) Try.underlying35 (by kernel_rfl) (part_cons rfl (by kernel_rfl) (opens_int Try.underlying3) (part_cons rfl (by kernel_rfl) (opens_int Try.underlying3) (part_cons rfl (by kernel_rfl) (opens_int Try.underlying3) (part_cons rfl (by kernel_rfl) (opens_int Try.underlying3) (part_cons rfl (by kernel_rfl) (opens_int Try.underlying3) (part_cons rfl (by kernel_rfl) (opens_bool Try.underlying4) (part_cons rfl (by kernel_rfl) (opens_int Try.underlying3) (part_cons rfl (by kernel_rfl) (opens_int Try.underlying3) (part_cons rfl (by kernel_rfl) (opens_int Try.underlying3) (part_cons rfl (by kernel_rfl) (opens_int Try.underlying3) (part_cons rfl (by kernel_rfl) (opens_int Try.underlying3) (part_one rfl (by kernel_rfl) (opens_int Try.underlying3)))))))))))))
theorem o37 : Opens Try.prog 37 k37 g37 := opens_struct (fun p_ => (⟨p_.1, p_.2.1, p_.2.2.1, p_.2.2.2.1, p_.2.2.2.2⟩ : S37)) (fun _ => rfl) Try.underlying37 (by kernel_rfl) (part_cons rfl (by kernel_rfl) (opens_int Try.underlying3) (part_cons rfl (by kernel_rfl) (opens_int Try.underlying3) (part_cons rfl (by kernel_rfl) (opens_int Try.underlying3) (part_cons rfl (by kernel_rfl) (opens_int Try.underlying3) (part_one rfl (by kernel_rfl) (opens_int Try.underlying3))))))
theorem o39 : Opens Try.prog 39 k39 g39 := opens_struct (fun p_ => (⟨p_.1, p_.2.1, p_.2.2.1, p_.2.2.2⟩ : S39)) (fun _ => rfl) Try.underlying39 (by kernel_rfl) (part_cons rfl (by kernel_rfl) (opens_int Try.underlying3) (part_cons rfl (by kernel_rfl) (opens_int Try.underlying3) (part_cons rfl (by kernel_rfl) (opens_int Try.underlying3) (part_one rfl (by kernel_rfl) (opens_int Try.underlying3)))))
theorem o41 : Opens Try.prog 41 k41 g41 := opens_struct (fun p_ => (⟨p_.1, p_.2.1, p_.2.2.1, p_.2.2.2.1, p_.2.2.2.2.1, p_.2.2.2.2.2⟩ : S41)) (fun _ => rfl) Try.underlying41 (by kernel_rfl) (part_cons rfl (by kernel_rfl) (opens_int Try.underlying3) (part_cons rfl (by kernel_rfl) (opens_int Try.underlying3) (part_cons rfl (by kernel_rfl) (opens_int Try.underlying3) (part_cons rfl (by kernel_rfl) (opens_int Try.underlying3) (part_cons rfl (by kernel_rfl) (opens_int Try.underlying3) (part_one rfl (by kernel_rfl) (opens_int Try.underlying3)))))))
theorem o43 : Opens Try.prog 43 k43 g43 := opens_struct (fun p_ => (⟨p_.1, p_.2.1, p_.2.2.1, p_.2.2.2⟩ : S43)) (fun _ => rfl) Try.underlying43 (by kernel_rfl) (part_cons rfl (by kernel_rfl) (opens_int Try.underlying3) (part_cons rfl (by kernel_rfl) (opens_int Try.underlying3) (part_cons rfl (by kernel_rfl) (opens_int Try.underlying3) (part_one rfl (by kernel_rfl) (opens_int Try.underlying3)))))
theorem o65 : Opens Try.prog 65 k65 g65 := opens_array (fun p_ => (⟨p_.1, p_.2.1, p_.2.2.1, p_.2.2.2⟩ : S65)) (fun _ => rfl) [af 22 0, af 22 1, af 22 2, af 22 3] Try.underlying65 rfl (by kernel_rfl) (by kernel_rfl) (part_cons rfl (by kernel_rfl) (opens_int Try.underlying22) (part_cons rfl (by kernel_rfl) (opens_int Try.underlying22) (part_cons rfl (by kernel_rfl) (opens_int Try.underlying22) (part_one rfl (by kernel_rfl) (opens_int Try.underlying22)))))
set_option maxRecDepth 100000 in
theorem lifted (os : Os) (started : os.Started) (H : Type) (enc : TypeId × Value → H) :
    ReturnsInHanded {} Try.checked os 6 .any (Rows.recsBackSpec.pre6 enc Try.prog Try.f6 Rows.recsBackRow.domain false) (Rows.recsBackSpec.post enc Try.prog Try.f6 false true false false) := by
  refine returnsInHanded_of_change_sized (C := Try.checked) own started (by kernel_rfl) Try.func6
    (ChangeSpec.witness6 (enc := enc) (C := Try.checked) false ⟨#[], #[(.agg #[(.int .i64 0), (.int .i64 0), (.int .i64 0), (.int .i64 0), (.int .i64 0), (.bool false), (.int .i64 0), (.int .i64 0), (.int .i64 0), (.int .i64 0), (.int .i64 0), (.int .i64 0)]), (.agg #[(.int .i64 0), (.int .i64 0), (.int .i64 0), (.int .i64 0), (.int .i64 0)]), (.agg #[(.int .i64 0), (.int .i64 0), (.int .i64 0), (.int .i64 0)]), (.agg #[(.int .i64 0), (.int .i64 0), (.int .i64 0), (.int .i64 0), (.int .i64 0), (.int .i64 0)]), (.agg #[(.int .i64 0), (.int .i64 0), (.int .i64 0), (.int .i64 0)]), (.agg #[(.int .u32 0), (.int .u32 0), (.int .u32 0), (.int .u32 0)])], []⟩ 16 (by kernel_rfl) (by kernel_rfl) (by kernel_rfl) (by kernel_rfl)) ?_
  intro W base args ds gs before hval0 hW hcnd hsz0 _
  have hval : ∀ (j : Nat) t v, Try.f6.params[j]? = some t → args[j]? = some v → Value.okWide Try.prog W .any base t v := hval0
  have hW' := hW
  obtain ⟨p, q, hA0, hV, rfl, hfz, hnd⟩ := hW
  have hA : DataW.TrodAll enc Try.prog W 0 (fun _ => true) true Try.f6.params.toList args.toList ds p := hA0
  rw [Try.params6] at hA hval
  obtain ⟨v0, vs0, d0, ds0, p0, q0, hargs, rfl, rfl, h0, r0⟩ := trodAll_cons hA
  obtain ⟨v1, vs1, d1, ds1, p1, q1, rfl, rfl, rfl, h1, r1⟩ := trodAll_cons r0
  obtain ⟨v2, vs2, d2, ds2, p2, q2, rfl, rfl, rfl, h2, r2⟩ := trodAll_cons r1
  obtain ⟨v3, vs3, d3, ds3, p3, q3, rfl, rfl, rfl, h3, r3⟩ := trodAll_cons r2
  obtain ⟨v4, vs4, d4, ds4, p4, q4, rfl, rfl, rfl, h4, r4⟩ := trodAll_cons r3
  obtain ⟨v5, vs5, d5, ds5, p5, q5, rfl, rfl, rfl, h5, r5⟩ := trodAll_cons r4
  obtain ⟨rfl, rfl, rfl⟩ := trodAll_nil r5
  obtain rfl : args = #[v0, v1, v2, v3, v4, v5] := by cases args; simp_all
  obtain ⟨rfl, rfl⟩ := trodVars_none hV
  obtain ⟨cs0, rfl, _⟩ := okWide_struct Try.underlying35 (hval 0 35 v0 rfl rfl)
  have t0 := h0
  have lt0 : ∀ x ∈ p0, x.block < W.heap.size := by obtain ⟨m, hm⟩ := t0; exact DataW.trod_lt m _ _ _ hm
  obtain ⟨x0, hK0, w0⟩ := o35.trod h0
  obtain e0 := k35_open hK0
  obtain rfl := Array.toList_inj.1 (e0 : cs0.toList = (#[.int .i64 x0.f0, .int .i64 x0.f1, .int .i64 x0.f2, .int .i64 x0.f3, .int .i64 x0.f4, .bool x0.f5, .int .i64 x0.f6, .int .i64 x0.f7, .int .i64 x0.f8, .int .i64 x0.f9, .int .i64 x0.f10, .int .i64 x0.f11] : Array Value).toList)
  obtain ⟨cs1, rfl, _⟩ := okWide_struct Try.underlying37 (hval 1 37 v1 rfl rfl)
  have t1 := h1
  have lt1 : ∀ x ∈ p1, x.block < W.heap.size := by obtain ⟨m, hm⟩ := t1; exact DataW.trod_lt m _ _ _ hm
  obtain ⟨x1, hK1, w1⟩ := o37.trod h1
  obtain e1 := k37_open hK1
  obtain rfl := Array.toList_inj.1 (e1 : cs1.toList = (#[.int .i64 x1.f0, .int .i64 x1.f1, .int .i64 x1.f2, .int .i64 x1.f3, .int .i64 x1.f4] : Array Value).toList)
  obtain ⟨cs2, rfl, _⟩ := okWide_struct Try.underlying39 (hval 2 39 v2 rfl rfl)
  have t2 := h2
  have lt2 : ∀ x ∈ p2, x.block < W.heap.size := by obtain ⟨m, hm⟩ := t2; exact DataW.trod_lt m _ _ _ hm
  obtain ⟨x2, hK2, w2⟩ := o39.trod h2
  obtain e2 := k39_open hK2
  obtain rfl := Array.toList_inj.1 (e2 : cs2.toList = (#[.int .i64 x2.f0, .int .i64 x2.f1, .int .i64 x2.f2, .int .i64 x2.f3] : Array Value).toList)
  obtain ⟨cs3, rfl, _⟩ := okWide_struct Try.underlying41 (hval 3 41 v3 rfl rfl)
  have t3 := h3
  have lt3 : ∀ x ∈ p3, x.block < W.heap.size := by obtain ⟨m, hm⟩ := t3; exact DataW.trod_lt m _ _ _ hm
  obtain ⟨x3, hK3, w3⟩ := o41.trod h3
  obtain e3 := k41_open hK3
  obtain rfl := Array.toList_inj.1 (e3 : cs3.toList = (#[.int .i64 x3.f0, .int .i64 x3.f1, .int .i64 x3.f2, .int .i64 x3.f3, .int .i64 x3.f4, .int .i64 x3.f5] : Array Value).toList)
  obtain ⟨cs4, rfl, _⟩ := okWide_struct Try.underlying43 (hval 4 43 v4 rfl rfl)
  have t4 := h4
  have lt4 : ∀ x ∈ p4, x.block < W.heap.size := by obtain ⟨m, hm⟩ := t4; exact DataW.trod_lt m _ _ _ hm
  obtain ⟨x4, hK4, w4⟩ := o43.trod h4
  obtain e4 := k43_open hK4
  obtain rfl := Array.toList_inj.1 (e4 : cs4.toList = (#[.int .i64 x4.f0, .int .i64 x4.f1, .int .i64 x4.f2, .int .i64 x4.f3] : Array Value).toList)
  obtain ⟨cs5, rfl, _⟩ := okWide_array Try.underlying65 (hval 5 65 v5 rfl rfl)
  have t5 := h5
  have lt5 : ∀ x ∈ p5, x.block < W.heap.size := by obtain ⟨m, hm⟩ := t5; exact DataW.trod_lt m _ _ _ hm
  obtain ⟨x5, hK5, w5⟩ := o65.trod h5
  obtain e5 := k65_open hK5
  obtain rfl := Array.toList_inj.1 (e5 : cs5.toList = (#[.int .u32 x5.f0, .int .u32 x5.f1, .int .u32 x5.f2, .int .u32 x5.f3] : Array Value).toList)
  obtain ⟨k_, hp⟩ := Pure.RecsBack x0 x1 x2 x3 x4 x5 w0 w1 w2 w3 w4 w5
  refine (exchequerlaw19_RecsBack.calls k_ x0.f0 x0.f1 x0.f2 x0.f3 x0.f4 x0.f5 x0.f6 x0.f7 x0.f8 x0.f9 x0.f10 x0.f11 x1.f0 x1.f1 x1.f2 x1.f3 x1.f4 x2.f0 x2.f1 x2.f2 x2.f3 x3.f0 x3.f1 x3.f2 x3.f3 x3.f4 x3.f5 x4.f0 x4.f1 x4.f2 x4.f3 x5.f0 x5.f1 x5.f2 x5.f3 true W  hp).mono fun e W' ⟨he, bel0⟩ => ?_
  have bel : Below W.heap.size W W' := bel0
  subst he
  exact ⟨_, rfl, _, _, _, [], _, [], hW', trodAll_mk1 (shut_bool Try.underlying4 _), (trodAll_cons_mk (Below.trod laidOut (by kernel_rfl) (of_decide_eq_true (by kernel_rfl)) t0 bel lt0) (trodAll_cons_mk (Below.trod laidOut (by kernel_rfl) (of_decide_eq_true (by kernel_rfl)) t1 bel lt1) (trodAll_cons_mk (Below.trod laidOut (by kernel_rfl) (of_decide_eq_true (by kernel_rfl)) t2 bel lt2) (trodAll_cons_mk (Below.trod laidOut (by kernel_rfl) (of_decide_eq_true (by kernel_rfl)) t3 bel lt3) (trodAll_cons_mk (Below.trod laidOut (by kernel_rfl) (of_decide_eq_true (by kernel_rfl)) t4 bel lt4) (trodAll_cons_mk (Below.trod laidOut (by kernel_rfl) (of_decide_eq_true (by kernel_rfl)) t5 bel lt5) trodAll_mk0)))))), rfl, bel.frame _, fun h => by cases h⟩
theorem over : Rows.recsBackRow.holds Try.pinned (OpenSpec.ofChange Rows.recsBackSpec) :=
  OpenClaim.holds_of_wide 6 Try.f6 rfl rfl rfl rfl rfl rfl rfl ⟨rfl, rfl, rfl, rfl, rfl⟩ rfl rfl rfl rfl rfl (by kernel_rfl) Try.func6 (by kernel_rfl)
    (of_decide_eq_true (by kernel_rfl)) (by unfold Func.isWrapper; first | (rw [if_pos (by decide +kernel)]; kernel_rfl) | (rw [if_neg (by decide +kernel)]; exact ⟨rfl, rfl⟩))
    (fun os started H enc _ => lifted os started H enc)
theorem proved : Rows.RecsBackSaid := over
#print axioms proved
end Go.Proofs.Ytkahpaipciooiab.recsBack
namespace Go.Proofs.Ytkahpaipciooiab
/-- The row, under a short name, for the claim. -/
theorem recsBack_holds : Rows.RecsBackSaid := recsBack.proved
end Go.Proofs.Ytkahpaipciooiab

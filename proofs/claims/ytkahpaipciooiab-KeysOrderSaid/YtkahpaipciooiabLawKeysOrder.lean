-- PRINTED for this claim by a program of this session's (wip/xp); Lean checks it
import Derived.Test.YtkahpaipciooiabRows
import Derived.Test.YtkahpaipciooiabPKeysOrdery
import Derived.Test.YtkahpaipciooiabWXOpen
import Derived.Test.YtkahpaipciooiabPureKeysOrder
import Derived.WalkKit
import Derived.ProofKit
import Derived.OpenShut
import Derived.ShutString
import Derived.ChangeOld
import Derived.Below
import Derived.SizedLaws
import Derived.Carry
namespace Go.Proofs.Ytkahpaipciooiab.keysOrder
open Go.ChangeShapes Go.WideShapes Go.ChangeAt Go.RowKit Go.Proofs.Ytkahpaipciooiab.PKeysOrder Go.Proofs.YtkahpaipciooiabW.XOpen Go.Proofs.YtkahpaipciooiabW.PrintWords Go.Proofs.YtkahpaipciooiabW.PrintLast Go.Proofs.YtkahpaipciooiabW.PrintMore
open Go.ChangeMaps (open_string shut_string)
set_option linter.unusedVariables false
theorem own : ownKnob Try.prog.godebug = none := by kernel_rfl
theorem laidOut : laidOutB Try.prog = true := by kernel_rfl
theorem o23 : Opens Try.prog 23 k23 g23 := opens_array (fun p_ => (⟨p_.1, p_.2.1, p_.2.2⟩ : S23)) (fun _ => rfl) [af 22 0, af 22 1, af 22 2] Try.underlying23 rfl (by kernel_rfl) (by kernel_rfl) (part_cons rfl (by kernel_rfl) (opens_int Try.underlying22) (part_cons rfl (by kernel_rfl) (opens_int Try.underlying22) (part_one rfl (by kernel_rfl) (opens_int Try.underlying22))))
set_option maxRecDepth 100000 in
theorem lifted (os : Os) (started : os.Started) (H : Type) (enc : TypeId × Value → H) :
    ReturnsInHanded {} Try.checked os 3 .any (Rows.keysOrderSpec.pre6 enc Try.prog Try.f3 Rows.keysOrderRow.domain false) (Rows.keysOrderSpec.post enc Try.prog Try.f3 false true false false) := by
  refine returnsInHanded_of_change_sized (C := Try.checked) own started (by kernel_rfl) Try.func3
    (ChangeSpec.witness6 (enc := enc) (C := Try.checked) false ⟨#[], #[(.int .u8 0), (.agg #[(.int .u32 0), (.int .u32 0), (.int .u32 0)]), (.agg #[(.int .u32 0), (.int .u32 0), (.int .u32 0)])], []⟩ 16 (by kernel_rfl) (by kernel_rfl) (by kernel_rfl) (by kernel_rfl)) ?_
  intro W base args ds gs before hval0 hW hcnd hsz0 _
  have hval : ∀ (j : Nat) t v, Try.f3.params[j]? = some t → args[j]? = some v → Value.okWide Try.prog W .any base t v := hval0
  have hW' := hW
  obtain ⟨p, q, hA0, hV, rfl, hfz, hnd⟩ := hW
  have hA : DataW.TrodAll enc Try.prog W 0 (fun _ => true) true Try.f3.params.toList args.toList ds p := hA0
  rw [Try.params3] at hA hval
  obtain ⟨v0, vs0, d0, ds0, p0, q0, hargs, rfl, rfl, h0, r0⟩ := trodAll_cons hA
  obtain ⟨v1, vs1, d1, ds1, p1, q1, rfl, rfl, rfl, h1, r1⟩ := trodAll_cons r0
  obtain ⟨v2, vs2, d2, ds2, p2, q2, rfl, rfl, rfl, h2, r2⟩ := trodAll_cons r1
  obtain ⟨rfl, rfl, rfl⟩ := trodAll_nil r2
  obtain rfl : args = #[v0, v1, v2] := by cases args; simp_all
  obtain ⟨rfl, rfl⟩ := trodVars_none hV
  obtain ⟨a0, rfl, rfl, rfl, w0⟩ := open_int Try.underlying5 (hval 0 5 v0 rfl rfl) h0
  obtain ⟨cs1, rfl, _⟩ := okWide_array Try.underlying23 (hval 1 23 v1 rfl rfl)
  have t1 := h1
  have lt1 : ∀ x ∈ p1, x.block < W.heap.size := by obtain ⟨m, hm⟩ := t1; exact DataW.trod_lt m _ _ _ hm
  obtain ⟨x1, hK1, w1⟩ := o23.trod h1
  obtain e1 := k23_open hK1
  obtain rfl := Array.toList_inj.1 (e1 : cs1.toList = (#[.int .u32 x1.f0, .int .u32 x1.f1, .int .u32 x1.f2] : Array Value).toList)
  obtain ⟨cs2, rfl, _⟩ := okWide_array Try.underlying23 (hval 2 23 v2 rfl rfl)
  have t2 := h2
  have lt2 : ∀ x ∈ p2, x.block < W.heap.size := by obtain ⟨m, hm⟩ := t2; exact DataW.trod_lt m _ _ _ hm
  obtain ⟨x2, hK2, w2⟩ := o23.trod h2
  obtain e2 := k23_open hK2
  obtain rfl := Array.toList_inj.1 (e2 : cs2.toList = (#[.int .u32 x2.f0, .int .u32 x2.f1, .int .u32 x2.f2] : Array Value).toList)
  obtain ⟨k_, hp⟩ := Pure.KeysOrder a0 x1 x2 w0 w1 w2
  refine (exchequerlaw18_KeysOrder.calls k_ a0 x1.f0 x1.f1 x1.f2 x2.f0 x2.f1 x2.f2 true W  hp).mono fun e W' ⟨he, bel0⟩ => ?_
  have bel : Below W.heap.size W W' := bel0
  subst he
  exact ⟨_, rfl, _, _, _, [], _, [], hW', trodAll_mk1 (shut_bool Try.underlying4 _), (trodAll_cons_mk (shut_int Try.underlying5 w0) (trodAll_cons_mk (Below.trod laidOut (by kernel_rfl) (of_decide_eq_true (by kernel_rfl)) t1 bel lt1) (trodAll_cons_mk (Below.trod laidOut (by kernel_rfl) (of_decide_eq_true (by kernel_rfl)) t2 bel lt2) trodAll_mk0))), rfl, bel.frame _, fun h => by cases h⟩
theorem over : Rows.keysOrderRow.holds Try.pinned (OpenSpec.ofChange Rows.keysOrderSpec) :=
  OpenClaim.holds_of_wide 3 Try.f3 rfl rfl rfl rfl rfl rfl rfl ⟨rfl, rfl, rfl, rfl, rfl⟩ rfl rfl rfl rfl rfl (by kernel_rfl) Try.func3 (by kernel_rfl)
    (of_decide_eq_true (by kernel_rfl)) (by unfold Func.isWrapper; first | (rw [if_pos (by decide +kernel)]; kernel_rfl) | (rw [if_neg (by decide +kernel)]; exact ⟨rfl, rfl⟩))
    (fun os started H enc _ => lifted os started H enc)
theorem proved : Rows.KeysOrderSaid := over
#print axioms proved
end Go.Proofs.Ytkahpaipciooiab.keysOrder
namespace Go.Proofs.Ytkahpaipciooiab
/-- The row, under a short name, for the claim. -/
theorem keysOrder_holds : Rows.KeysOrderSaid := keysOrder.proved
end Go.Proofs.Ytkahpaipciooiab

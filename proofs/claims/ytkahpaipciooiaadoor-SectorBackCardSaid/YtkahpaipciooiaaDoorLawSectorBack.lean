-- PRINTED for this claim by a program of this session's (wip/xp); Lean checks it
import Derived.Test.YtkahpaipciooiaaDoorRows
import Derived.Test.YtkahpaipciooiaaDoorPSectorBacky
import Derived.Test.YtkahpaipciooiaaDoorWXOpen
import Derived.Test.YtkahpaipciooiaaDoorPureSectorBack
import Derived.WalkKit
import Derived.ProofKit
import Derived.OpenShut
import Derived.ShutString
import Derived.ChangeOld
import Derived.Below
import Derived.SizedLaws
import Derived.Carry
import Derived.LaidMore
import Derived.Stop.Joined
import Derived.SevenTiedAt
import Derived.Test.YtkahpaipciooiaaDoorTie
import Derived.Test.YtkahpaipciooiaaDoorCards
namespace Go.Proofs.YtkahpaipciooiaaDoor.sectorBack
open Go.ChangeShapes Go.WideShapes Go.ChangeAt Go.RowKit Go.Proofs.YtkahpaipciooiaaDoor.PSectorBack Go.Proofs.YtkahpaipciooiaaDoorW.XOpen Go.Proofs.YtkahpaipciooiaaDoorW.PrintWords Go.Proofs.YtkahpaipciooiaaDoorW.PrintLast Go.Proofs.YtkahpaipciooiaaDoorW.PrintMore
open Go.ChangeMaps (open_string shut_string)
set_option linter.unusedVariables false
theorem own : ownKnob Tryd.prog.godebug = none := by kernel_rfl
theorem laidOut : laidOutB Tryd.prog = true := by kernel_rfl
theorem gTab : Tryd.prog.globalNamed "exchequer/crc.nibbles" = some 0 := by kernel_rfl
theorem tTab : (Tryd.prog.globals[0]?).map (·.type) = some 46 := by kernel_rfl
/-- What the listed variable's reading gives the walks. -/
theorem of_laid {W : World} (h : laidMetH Tryd.prog [("exchequer/crc.nibbles", Rows.laid_exchequer_crc_nibbles)] W) : GlobAt W := by
  rw [MakeChecks.laidMetH_plain _ _ _ (by kernel_rfl)] at h
  obtain ⟨ps, ⟨g0, t0, cs0, f0, p0, q0, hg0, ht0, hv0, hd0, _⟩, _⟩ := h
  obtain rfl := Option.some.inj (gTab.symm.trans hg0)
  obtain rfl := Option.some.inj (tTab.symm.trans ht0)
  have hcs := array_ints (zs := nibL) Tryd.underlying46 Tryd.underlying36 (by kernel_rfl) (by kernel_rfl) hd0
  refine table_C (by decide) (fun i hi => ?_)
  rw [World.var?_cell hg0 hv0 i, ← Array.getElem?_toList, hcs, List.getElem?_map, List.getElem?_eq_getElem hi, Option.map_some, List.getD_eq_getElem?_getD, List.getElem?_eq_getElem hi, Option.getD_some]
theorem door_met (os : Os) (args : Array Value) : laidMetH Tryd.prog [("exchequer/crc.nibbles", Rows.laid_exchequer_crc_nibbles)] ((World.doorLaid Tryd.prog 4000 os).forCall (fun _ _ => 0) ⟨#[], args, []⟩).memory :=
  laidMetH_of_parts3 (fuel := 8) (laidMet_of_run' 8 (by kernel_rfl) (by kernel_rfl)) (by kernel_rfl) (by kernel_rfl)
set_option maxRecDepth 100000 in
theorem lifted (os : Os) (started : os.Started) (H : Type) (enc : TypeId × Value → H) :
    ReturnsInHanded {} Tryd.checked os 5 .any (fun w args => (Rows.sectorBackSpec.pre enc Tryd.prog Tryd.f5 [] false w args ∧ laidMetH Tryd.prog [("exchequer/crc.nibbles", Rows.laid_exchequer_crc_nibbles)] w) ∧ sizedMet enc Tryd.prog Tryd.f5 (OpenSpec.ofChange Rows.sectorBackSpec) false w args)
      (Rows.sectorBackSpec.post enc Tryd.prog Tryd.f5 false true false false) := by
  refine returnsInHanded_of_change_and (C := Tryd.checked) (X := fun w _ => laidMetH Tryd.prog [("exchequer/crc.nibbles", Rows.laid_exchequer_crc_nibbles)] w) (fun _ _ _ hh h => h.of_heap hh) own started (by kernel_rfl) Tryd.func5
    (ChangeSpec.witness_shaped (enc := enc) (C := Tryd.checked) (os := os) (X := fun w _ => laidMetH Tryd.prog [("exchequer/crc.nibbles", Rows.laid_exchequer_crc_nibbles)] w) false (World.doorLaid Tryd.prog 4000 os) #[(.int .i64 0), (.int .i64 0), (.slice none 0 0), (.slice none 0 0), (.int .u8 0), (.int .u8 0)] 16 rfl (World.shaped_of_RefB (by kernel_rfl) (by kernel_rfl)) (by kernel_rfl) (by kernel_rfl) (by kernel_rfl) (door_met os _)) ?_
  intro W base args ds gs before hval0 hW hcnd hsz0 hL _
  have hG := of_laid hL
  have hval : ∀ (j : Nat) t v, Tryd.f5.params[j]? = some t → args[j]? = some v → Value.okWide Tryd.prog W .any base t v := hval0
  have hW' := hW
  obtain ⟨p, q, hA0, hV, rfl, hfz, hnd⟩ := hW
  have hA : DataW.TrodAll enc Tryd.prog W 0 (fun _ => true) true Tryd.f5.params.toList args.toList ds p := hA0
  rw [Tryd.params5] at hA hval
  obtain ⟨v0, vs0, d0, ds0, p0, q0, hargs, rfl, rfl, h0, r0⟩ := trodAll_cons hA
  obtain ⟨v1, vs1, d1, ds1, p1, q1, rfl, rfl, rfl, h1, r1⟩ := trodAll_cons r0
  obtain ⟨v2, vs2, d2, ds2, p2, q2, rfl, rfl, rfl, h2, r2⟩ := trodAll_cons r1
  obtain ⟨v3, vs3, d3, ds3, p3, q3, rfl, rfl, rfl, h3, r3⟩ := trodAll_cons r2
  obtain ⟨v4, vs4, d4, ds4, p4, q4, rfl, rfl, rfl, h4, r4⟩ := trodAll_cons r3
  obtain ⟨v5, vs5, d5, ds5, p5, q5, rfl, rfl, rfl, h5, r5⟩ := trodAll_cons r4
  obtain ⟨rfl, rfl, rfl⟩ := trodAll_nil r5
  obtain rfl : args = #[v0, v1, v2, v3, v4, v5] := by cases args; simp_all
  obtain ⟨rfl, rfl⟩ := trodVars_none hV
  obtain ⟨a0, rfl, rfl, rfl, w0⟩ := open_int Tryd.underlying3 (hval 0 3 v0 rfl rfl) h0
  obtain ⟨a1, rfl, rfl, rfl, w1⟩ := open_int Tryd.underlying3 (hval 1 3 v1 rfl rfl) h1
  obtain ⟨b2, len2, cap2, rfl⟩ := okWide_slice Tryd.underlying22 (hval 2 22 v2 rfl rfl)
  have t2 := h2
  have lt2 : ∀ x ∈ p2, x.block < W.heap.size := by obtain ⟨m, hm⟩ := t2; exact DataW.trod_lt m _ _ _ hm
  obtain ⟨x2, hK2, w2⟩ := (opens_slice Tryd.underlying22 (by kernel_rfl) (opens_int Tryd.underlying5)).trod h2
  obtain ⟨A2_, c2_, e2, hc2, hr2⟩ := hK2
  injection (List.cons.inj (show [Value.slice b2 len2 cap2] = [Value.slice A2_ x2.length c2_] from e2)).1 with eb2 el2 ec2
  subst eb2; subst el2; subst ec2
  obtain ⟨b3, len3, cap3, rfl⟩ := okWide_slice Tryd.underlying22 (hval 3 22 v3 rfl rfl)
  have t3 := h3
  have lt3 : ∀ x ∈ p3, x.block < W.heap.size := by obtain ⟨m, hm⟩ := t3; exact DataW.trod_lt m _ _ _ hm
  obtain ⟨x3, hK3, w3⟩ := (opens_slice Tryd.underlying22 (by kernel_rfl) (opens_int Tryd.underlying5)).trod h3
  obtain ⟨A3_, c3_, e3, hc3, hr3⟩ := hK3
  injection (List.cons.inj (show [Value.slice b3 len3 cap3] = [Value.slice A3_ x3.length c3_] from e3)).1 with eb3 el3 ec3
  subst eb3; subst el3; subst ec3
  obtain ⟨a4, rfl, rfl, rfl, w4⟩ := open_int Tryd.underlying5 (hval 4 5 v4 rfl rfl) h4
  obtain ⟨a5, rfl, rfl, rfl, w5⟩ := open_int Tryd.underlying5 (hval 5 5 v5 rfl rfl) h5
  obtain ⟨k_, hp⟩ := Pure.SectorBack a0 a1 x2 x3 a4 a5 w0 w1 w2 w3 w4 w5
  refine (exchequerlaw04_SectorBack.calls k_ a0 a1 b2 cap2 x2 b3 cap3 x3 a4 a5 true W hr2 hc2 hr3 hc3 hG hp).mono fun e W' ⟨he, bel0⟩ => ?_
  have bel : Below W.heap.size W W' := bel0
  subst he
  exact ⟨_, rfl, _, _, _, [], _, [], hW', trodAll_mk1 (shut_bool Tryd.underlying4 _), (trodAll_cons_mk (shut_int Tryd.underlying3 w0) (trodAll_cons_mk (shut_int Tryd.underlying3 w1) (trodAll_cons_mk (Below.trod laidOut (by kernel_rfl) (of_decide_eq_true (by kernel_rfl)) t2 bel lt2) (trodAll_cons_mk (Below.trod laidOut (by kernel_rfl) (of_decide_eq_true (by kernel_rfl)) t3 bel lt3) (trodAll_cons_mk (shut_int Tryd.underlying5 w4) (trodAll_cons_mk (shut_int Tryd.underlying5 w5) trodAll_mk0)))))), rfl, bel.frame _, fun h => by cases h⟩
theorem over : Rows.sectorBackRow.holds Tryd.pinned (OpenSpec.ofChange Rows.sectorBackSpec) :=
  OpenClaim.holds_of_wide 5 Tryd.f5 rfl rfl rfl rfl rfl rfl rfl ⟨rfl, rfl, rfl, rfl, rfl⟩ rfl rfl rfl rfl rfl (by kernel_rfl) Tryd.func5 (by kernel_rfl)
    (of_decide_eq_true (by kernel_rfl)) (by unfold Func.isWrapper; first | (rw [if_pos (by decide +kernel)]; kernel_rfl) | (rw [if_neg (by decide +kernel)]; exact ⟨rfl, rfl⟩))
    (fun os started H enc _ => lifted os started H enc)
theorem said : Rows.SectorBackSaid := over
theorem proved : Rows.SectorBackCardSaid :=
  Claim7.holds_tied_plain_at .later [] [.data] true (true, "152241b3b8521d07c3912f7939a6cbb22fd04d39cafaa6e40355b90eee59a7a0") false
    said (fun _ h => by cases h) (by kernel_rfl) (fun _ h => by cases h) sectorBack_row_tie rfl ⟨rfl, rfl⟩ (by kernel_rfl) rfl
    (fun f fn hf hfn => by
      obtain rfl : f = 5 := Option.some.inj ((show Tryd.prog.funcNamed "exchequer/exchequerlaw04.SectorBack" = some 5 by kernel_rfl).symm.trans hf) |>.symm
      obtain rfl : fn = Tryd.f5 := (Option.some.inj (Tryd.func5.symm.trans hfn)).symm
      exact ⟨by kernel_rfl, fun j t ht => by
        rw [Tryd.params5] at ht
        have hm : t ∈ [3, 3, 22, 22, 5, 5] := by simpa using Array.mem_of_getElem? ht
        have hall : ([3, 3, 22, 22, 5, 5].all fun u => !Tryd.prog.wantsStandIn u) = true := by kernel_rfl
        exact (show Tryd.prog.wantsStandIn t = false by simpa using List.all_eq_true.1 hall t hm)⟩)
    (by kernel_rfl)
#print axioms proved
end Go.Proofs.YtkahpaipciooiaaDoor.sectorBack
namespace Go.Proofs.YtkahpaipciooiaaDoor
/-- The row, under a short name, for the claim. -/
theorem sectorBack_holds : Rows.SectorBackCardSaid := sectorBack.proved
end Go.Proofs.YtkahpaipciooiaaDoor

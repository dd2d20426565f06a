/- The law PagerAborts holds of the program, for every input that its row lets in. -/
import Derived.Test.YtmpiggcooboenaaGreatDoorRows
import Derived.Test.YtmpiggcooboenaaGreatDoorMgPagerAbortsLaw
import Derived.Test.YtmpiggcooboenaaGreatDoorMgPagerAbortsP
import Derived.WalkKit
import Derived.ProofKit
import Derived.OpenShut
import Derived.ShutString
import Derived.ChangeOld
import Derived.Below
import Derived.SizedLaws
import Derived.Carry
import Derived.LaidMore
import Derived.Stop.Joined
import Derived.SevenTiedAt
import Derived.Test.YtmpiggcooboenaaGreatDoorTie
import Derived.Test.YtmpiggcooboenaaGreatDoorCards
namespace Go.Proofs.YtmpiggcooboenaaGreatDoor.pagerAborts
open Go.ChangeShapes Go.WideShapes Go.ChangeAt Go.RowKit Go.Al
open Go.ChangeMaps (open_string shut_string)
set_option linter.unusedVariables false
theorem own : ownKnob Tryz.prog.godebug = none := by kernel_rfl
theorem laidOut : laidOutB Tryz.prog = true := by kernel_rfl
theorem gTab : Tryz.prog.globalNamed "exchequer/crc.nibbles" = some 1 := by kernel_rfl
theorem tTab : (Tryz.prog.globals[1]?).map (·.type) = some 163 := by kernel_rfl
/-- What the listed variable's reading gives the walks. -/
theorem of_laid {W : World} (h : laidMetH Tryz.prog [("exchequer/crc.nibbles", Rows.laid_exchequer_crc_nibbles)] W) : Go.Proofs.YtmpiggcooboenaaGreatDoor.Al.NibAt (whole W) := by
  rw [MakeChecks.laidMetH_plain _ _ _ (by kernel_rfl)] at h
  obtain ⟨ps, ⟨g0, t0, cs0, f0, p0, q0, hg0, ht0, hv0, hd0, _⟩, _⟩ := h
  obtain rfl := Option.some.inj (gTab.symm.trans hg0)
  obtain rfl := Option.some.inj (tTab.symm.trans ht0)
  exact Go.Proofs.YtmpiggcooboenaaGreatDoor.Al.nib_whole hg0 hv0 (Go.Proofs.YtmpiggcooboenaaGreatDoor.Al.array_ints (zs := Go.Proofs.YtmpiggcooboenaaGreatDoor.Al.nibL.map fun x : Nat => (x : Int)) Tryz.underlying163 Tryz.underlying126 (by kernel_rfl) (by kernel_rfl) hd0)
theorem door_met (os : Os) (args : Array Value) : laidMetH Tryz.prog [("exchequer/crc.nibbles", Rows.laid_exchequer_crc_nibbles)] ((World.doorLaid Tryz.prog 4000 os).forCall (fun _ _ => 0) ⟨#[], args, []⟩).memory :=
  laidMetH_of_parts3 (fuel := 8) (laidMet_of_run' 8 (by kernel_rfl) (by kernel_rfl)) (by kernel_rfl) (by kernel_rfl)
set_option maxRecDepth 100000 in
theorem lifted (os : Os) (started : os.Started) (H : Type) (enc : TypeId × Value → H) :
    ReturnsInHanded {} Tryz.checked os 3 .any (fun w args => (Rows.pagerAbortsSpec.pre enc Tryz.prog Tryz.f3 [] false w args ∧ laidMetH Tryz.prog [("exchequer/crc.nibbles", Rows.laid_exchequer_crc_nibbles)] w) ∧ sizedMet enc Tryz.prog Tryz.f3 (OpenSpec.ofChange Rows.pagerAbortsSpec) false w args)
      (Rows.pagerAbortsSpec.post enc Tryz.prog Tryz.f3 false true false false) := by
  refine returnsInHanded_of_change_and (C := Tryz.checked) (X := fun w _ => laidMetH Tryz.prog [("exchequer/crc.nibbles", Rows.laid_exchequer_crc_nibbles)] w) (fun _ _ _ hh h => h.of_heap hh) own started (by kernel_rfl) Tryz.func3
    (ChangeSpec.witness_shaped (enc := enc) (C := Tryz.checked) (os := os) (X := fun w _ => laidMetH Tryz.prog [("exchequer/crc.nibbles", Rows.laid_exchequer_crc_nibbles)] w) false (World.doorLaid Tryz.prog 4000 os) #[.slice none 0 0, .slice none 0 0] 16 rfl (World.shaped_of_RefB (by kernel_rfl) (by kernel_rfl)) (by kernel_rfl) (by kernel_rfl) (by kernel_rfl) (door_met os _)) ?_
  intro W base args ds gs before hval0 hW hcnd hsz0 hL _
  have hG := of_laid hL
  have hval : ∀ (j : Nat) t v, Tryz.f3.params[j]? = some t → args[j]? = some v → Value.okWide Tryz.prog W .any base t v := hval0
  have hW' := hW
  obtain ⟨p, q, hA0, hV, rfl, hfz, hnd⟩ := hW
  have hA : DataW.TrodAll enc Tryz.prog W 0 (fun _ => true) true Tryz.f3.params.toList args.toList ds p := hA0
  rw [Tryz.params3] at hA hval
  obtain ⟨v0, vs0, d0, ds0, p0, q0, hargs, rfl, rfl, h0, r0⟩ := trodAll_cons hA
  obtain ⟨v1, vs1, d1, ds1, p1, q1, rfl, rfl, rfl, h1, r1⟩ := trodAll_cons r0
  obtain ⟨rfl, rfl, rfl⟩ := trodAll_nil r1
  obtain rfl : args = #[v0, v1] := by cases args; simp_all
  obtain ⟨rfl, rfl⟩ := trodVars_none hV
  obtain ⟨b0, len0, cap0, rfl⟩ := okWide_slice Tryz.underlying22 (hval 0 22 v0 rfl rfl)
  have t0 := h0
  have lt0 : ∀ x ∈ p0, x.block < W.heap.size := by obtain ⟨m, hm⟩ := t0; exact DataW.trod_lt m _ _ _ hm
  obtain ⟨x0, hK0, w0⟩ := Opens.trod (opens_slice 3 Tryz.underlying22 (by kernel_rfl) (opens_struct 3 Tryz.underlying30 (by kernel_rfl) (part_cons 1 rfl (by kernel_rfl) (opens_int Tryz.underlying3) (part_cons 1 rfl (by kernel_rfl) (opens_int Tryz.underlying3) (part_one 1 rfl (by kernel_rfl) (opens_int Tryz.underlying5)))))) h0
  obtain ⟨A0, c0, e0, hc0, hE0⟩ := hK0
  injection (List.cons.inj (show [Value.slice b0 len0 cap0] = [Value.slice A0 x0.length c0] from e0)).1 with eb0 el0 ec0
  subst eb0; subst el0; subst ec0
  obtain ⟨b1, len1, cap1, rfl⟩ := okWide_slice Tryz.underlying22 (hval 1 22 v1 rfl rfl)
  have t1 := h1
  have lt1 : ∀ x ∈ p1, x.block < W.heap.size := by obtain ⟨m, hm⟩ := t1; exact DataW.trod_lt m _ _ _ hm
  obtain ⟨x1, hK1, w1⟩ := Opens.trod (opens_slice 3 Tryz.underlying22 (by kernel_rfl) (opens_struct 3 Tryz.underlying30 (by kernel_rfl) (part_cons 1 rfl (by kernel_rfl) (opens_int Tryz.underlying3) (part_cons 1 rfl (by kernel_rfl) (opens_int Tryz.underlying3) (part_one 1 rfl (by kernel_rfl) (opens_int Tryz.underlying5)))))) h1
  obtain ⟨A1, c1, e1, hc1, hE1⟩ := hK1
  injection (List.cons.inj (show [Value.slice b1 len1 cap1] = [Value.slice A1 x1.length c1] from e1)).1 with eb1 el1 ec1
  subst eb1; subst el1; subst ec1
  refine ((AlPagerAborts.law (whole W) hG x0 w0 b0 cap0 hc0 hE0 x1 w1 b1 cap1 hc1 hE1).2 W (has_whole W)).mono fun e W' he_ => ?_
  obtain ⟨v_, F', he, hF', hr', rfl, hext⟩ := he_
  have bel : Below W.heap.size W W' := below_whole hext hF' hr'
  subst he
  exact ⟨_, rfl, _, _, _, [], _, [], hW', trodAll_mk1 (shut_bool Tryz.underlying4 _), (trodAll_cons_mk (Below.trod laidOut (by kernel_rfl) (of_decide_eq_true (by kernel_rfl)) t0 bel lt0) (trodAll_cons_mk (Below.trod laidOut (by kernel_rfl) (of_decide_eq_true (by kernel_rfl)) t1 bel lt1) trodAll_mk0)), rfl, bel.frame _, fun h => by cases h⟩
theorem over : Rows.pagerAbortsRow.holds Tryz.pinned (OpenSpec.ofChange Rows.pagerAbortsSpec) :=
  OpenClaim.holds_of_wide 3 Tryz.f3 rfl rfl rfl rfl rfl rfl rfl ⟨rfl, rfl, rfl, rfl, rfl⟩ rfl rfl rfl rfl rfl (by kernel_rfl) Tryz.func3 (by kernel_rfl)
    (of_decide_eq_true (by kernel_rfl)) (by unfold Func.isWrapper; first | (rw [if_pos (by decide +kernel)]; kernel_rfl) | (rw [if_neg (by decide +kernel)]; exact ⟨rfl, rfl⟩))
    (fun os started H enc _ => lifted os started H enc)
theorem said : Rows.PagerAbortsSaid := over
theorem proved : Rows.PagerAbortsCardSaid :=
  Claim7.holds_tied_plain_at .later [] [.data] true (true, "2341a2add8f3edda659ecf8ddaa5f37b27b81dd4857d74dd82b08bd6633dc3e7") false
    said (fun _ h => by cases h) (by kernel_rfl) (fun _ h => by cases h) pagerAborts_row_tie rfl ⟨rfl, rfl⟩ (by kernel_rfl) rfl
    (fun f fn hf hfn => by
      obtain rfl : f = 3 := Option.some.inj ((show Tryz.prog.funcNamed "exchequer/exchequerlaw07.PagerAborts" = some 3 by kernel_rfl).symm.trans hf) |>.symm
      obtain rfl : fn = Tryz.f3 := (Option.some.inj (Tryz.func3.symm.trans hfn)).symm
      exact ⟨by kernel_rfl, fun j t ht => by
        rw [Tryz.params3] at ht
        have hm : t ∈ [22, 22] := by simpa using Array.mem_of_getElem? ht
        have hall : ([22, 22].all fun u => !Tryz.prog.wantsStandIn u) = true := by kernel_rfl
        exact (show Tryz.prog.wantsStandIn t = false by simpa using List.all_eq_true.1 hall t hm)⟩)
    (by kernel_rfl)
#print axioms proved
end Go.Proofs.YtmpiggcooboenaaGreatDoor.pagerAborts
namespace Go.Proofs.YtmpiggcooboenaaGreatDoor
/-- The row, under a short name, for the claim. -/
theorem pagerAborts_holds : Rows.PagerAbortsCardSaid := pagerAborts.proved
end Go.Proofs.YtmpiggcooboenaaGreatDoor

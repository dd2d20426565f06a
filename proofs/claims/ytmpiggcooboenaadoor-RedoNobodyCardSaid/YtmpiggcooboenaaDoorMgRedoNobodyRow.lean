/- The law RedoNobody holds of the program, for every input that its row lets in. -/
import Derived.Test.YtmpiggcooboenaaDoorRows
import Derived.Test.YtmpiggcooboenaaDoorMgRedoNobodyLaw
import Derived.Test.YtmpiggcooboenaaDoorMgRedoNobodyP
import Derived.WalkKit
import Derived.ProofKit
import Derived.OpenShut
import Derived.ShutString
import Derived.ChangeOld
import Derived.Below
import Derived.SizedLaws
import Derived.Carry
import Derived.LaidMore
import Derived.Stop.Joined
import Derived.SevenTiedAt
import Derived.Test.YtmpiggcooboenaaDoorTie
import Derived.Test.YtmpiggcooboenaaDoorCards
namespace Go.Proofs.YtmpiggcooboenaaDoor.redoNobody
open Go.ChangeShapes Go.WideShapes Go.ChangeAt Go.RowKit Go.Al
open Go.ChangeMaps (open_string shut_string)
set_option linter.unusedVariables false
theorem own : ownKnob Tryd.prog.godebug = none := by kernel_rfl
theorem laidOut : laidOutB Tryd.prog = true := by kernel_rfl
theorem gTab : Tryd.prog.globalNamed "exchequer/crc.nibbles" = some 1 := by kernel_rfl
theorem tTab : (Tryd.prog.globals[1]?).map (·.type) = some 171 := by kernel_rfl
/-- What the listed variable's reading gives the walks. -/
theorem of_laid {W : World} (h : laidMetH Tryd.prog [("exchequer/crc.nibbles", Rows.laid_exchequer_crc_nibbles)] W) : Go.Proofs.YtmpiggcooboenaaDoor.Al.NibAt (whole W) := by
  rw [MakeChecks.laidMetH_plain _ _ _ (by kernel_rfl)] at h
  obtain ⟨ps, ⟨g0, t0, cs0, f0, p0, q0, hg0, ht0, hv0, hd0, _⟩, _⟩ := h
  obtain rfl := Option.some.inj (gTab.symm.trans hg0)
  obtain rfl := Option.some.inj (tTab.symm.trans ht0)
  exact Go.Proofs.YtmpiggcooboenaaDoor.Al.nib_whole hg0 hv0 (Go.Proofs.YtmpiggcooboenaaDoor.Al.array_ints (zs := Go.Proofs.YtmpiggcooboenaaDoor.Al.nibL.map fun x : Nat => (x : Int)) Tryd.underlying171 Tryd.underlying43 (by kernel_rfl) (by kernel_rfl) hd0)
theorem door_met (os : Os) (args : Array Value) : laidMetH Tryd.prog [("exchequer/crc.nibbles", Rows.laid_exchequer_crc_nibbles)] ((World.doorLaid Tryd.prog 4000 os).forCall (fun _ _ => 0) ⟨#[], args, []⟩).memory :=
  laidMetH_of_parts3 (fuel := 8) (laidMet_of_run' 8 (by kernel_rfl) (by kernel_rfl)) (by kernel_rfl) (by kernel_rfl)
set_option maxRecDepth 100000 in
theorem lifted (os : Os) (started : os.Started) (H : Type) (enc : TypeId × Value → H) :
    ReturnsInHanded {} Tryd.checked os 5 .any (fun w args => (Rows.redoNobodySpec.pre enc Tryd.prog Tryd.f5 [] false w args ∧ laidMetH Tryd.prog [("exchequer/crc.nibbles", Rows.laid_exchequer_crc_nibbles)] w) ∧ sizedMet enc Tryd.prog Tryd.f5 (OpenSpec.ofChange Rows.redoNobodySpec) false w args)
      (Rows.redoNobodySpec.post enc Tryd.prog Tryd.f5 false true false false) := by
  refine returnsInHanded_of_change_and (C := Tryd.checked) (X := fun w _ => laidMetH Tryd.prog [("exchequer/crc.nibbles", Rows.laid_exchequer_crc_nibbles)] w) (fun _ _ _ hh h => h.of_heap hh) own started (by kernel_rfl) Tryd.func5
    (ChangeSpec.witness_shaped (enc := enc) (C := Tryd.checked) (os := os) (X := fun w _ => laidMetH Tryd.prog [("exchequer/crc.nibbles", Rows.laid_exchequer_crc_nibbles)] w) false (World.doorLaid Tryd.prog 4000 os) #[.int .i64 0] 16 rfl (World.shaped_of_RefB (by kernel_rfl) (by kernel_rfl)) (by kernel_rfl) (by kernel_rfl) (by kernel_rfl) (door_met os _)) ?_
  intro W base args ds gs before hval0 hW hcnd hsz0 hL _
  have hG := of_laid hL
  have hval : ∀ (j : Nat) t v, Tryd.f5.params[j]? = some t → args[j]? = some v → Value.okWide Tryd.prog W .any base t v := hval0
  have hW' := hW
  obtain ⟨p, q, hA0, hV, rfl, hfz, hnd⟩ := hW
  have hA : DataW.TrodAll enc Tryd.prog W 0 (fun _ => true) true Tryd.f5.params.toList args.toList ds p := hA0
  rw [Tryd.params5] at hA hval
  obtain ⟨v0, vs0, d0, ds0, p0, q0, hargs, rfl, rfl, h0, r0⟩ := trodAll_cons hA
  obtain ⟨rfl, rfl, rfl⟩ := trodAll_nil r0
  obtain rfl : args = #[v0] := by cases args; simp_all
  obtain ⟨rfl, rfl⟩ := trodVars_none hV
  obtain ⟨a0, rfl, rfl, rfl, w0⟩ := open_int Tryd.underlying3 (hval 0 3 v0 rfl rfl) h0
  refine ((AlRedoNobody.law (whole W) hG a0 w0).2 W (has_whole W)).mono fun e W' he_ => ?_
  obtain ⟨v_, F', he, hF', hr', rfl, hext⟩ := he_
  have bel : Below W.heap.size W W' := below_whole hext hF' hr'
  subst he
  exact ⟨_, rfl, _, _, _, [], _, [], hW', trodAll_mk1 (shut_bool Tryd.underlying4 _), (trodAll_cons_mk (shut_int Tryd.underlying3 w0) trodAll_mk0), rfl, bel.frame _, fun h => by cases h⟩
theorem over : Rows.redoNobodyRow.holds Tryd.pinned (OpenSpec.ofChange Rows.redoNobodySpec) :=
  OpenClaim.holds_of_wide 5 Tryd.f5 rfl rfl rfl rfl rfl rfl rfl ⟨rfl, rfl, rfl, rfl, rfl⟩ rfl rfl rfl rfl rfl (by kernel_rfl) Tryd.func5 (by kernel_rfl)
    (of_decide_eq_true (by kernel_rfl)) (by unfold Func.isWrapper; first | (rw [if_pos (by decide +kernel)]; kernel_rfl) | (rw [if_neg (by decide +kernel)]; exact ⟨rfl, rfl⟩))
    (fun os started H enc _ => lifted os started H enc)
theorem said : Rows.RedoNobodySaid := over
theorem proved : Rows.RedoNobodyCardSaid :=
  Claim7.holds_tied_plain_at .later [] [.data] true (true, "c624f1197ee88d9ad11ccb39edb3505ebc8274becba041da099518222914e6f8") false
    said (fun _ h => by cases h) (by kernel_rfl) (fun _ h => by cases h) redoNobody_row_tie rfl ⟨rfl, rfl⟩ (by kernel_rfl) rfl
    (fun f fn hf hfn => by
      obtain rfl : f = 5 := Option.some.inj ((show Tryd.prog.funcNamed "exchequer/exchequerlaw06.RedoNobody" = some 5 by kernel_rfl).symm.trans hf) |>.symm
      obtain rfl : fn = Tryd.f5 := (Option.some.inj (Tryd.func5.symm.trans hfn)).symm
      exact ⟨by kernel_rfl, fun j t ht => by
        rw [Tryd.params5] at ht
        have hm : t ∈ [3] := by simpa using Array.mem_of_getElem? ht
        have hall : ([3].all fun u => !Tryd.prog.wantsStandIn u) = true := by kernel_rfl
        exact (show Tryd.prog.wantsStandIn t = false by simpa using List.all_eq_true.1 hall t hm)⟩)
    (by kernel_rfl)
#print axioms proved
end Go.Proofs.YtmpiggcooboenaaDoor.redoNobody
namespace Go.Proofs.YtmpiggcooboenaaDoor
/-- The row, under a short name, for the claim. -/
theorem redoNobody_holds : Rows.RedoNobodyCardSaid := redoNobody.proved
end Go.Proofs.YtmpiggcooboenaaDoor

/- The law PagerLives holds of the program, for every input that its row lets in. -/
import Derived.Test.YtmpiggcooboenaaGreatDoorRows
import Derived.Test.YtmpiggcooboenaaGreatDoorMgPagerLivesLaw
import Derived.Test.YtmpiggcooboenaaGreatDoorMgPagerLivesP
import Derived.WalkKit
import Derived.ProofKit
import Derived.OpenShut
import Derived.ShutString
import Derived.ChangeOld
import Derived.Below
import Derived.SizedLaws
import Derived.Carry
import Derived.LaidMore
import Derived.Stop.Joined
import Derived.SevenTiedAt
import Derived.Test.YtmpiggcooboenaaGreatDoorTie
import Derived.Test.YtmpiggcooboenaaGreatDoorCards
namespace Go.Proofs.YtmpiggcooboenaaGreatDoor.pagerLives
open Go.ChangeShapes Go.WideShapes Go.ChangeAt Go.RowKit Go.Al
open Go.ChangeMaps (open_string shut_string)
set_option linter.unusedVariables false
theorem own : ownKnob Tryz.prog.godebug = none := by kernel_rfl
theorem laidOut : laidOutB Tryz.prog = true := by kernel_rfl
theorem gTab : Tryz.prog.globalNamed "exchequer/crc.nibbles" = some 1 := by kernel_rfl
theorem tTab : (Tryz.prog.globals[1]?).map (·.type) = some 163 := by kernel_rfl
/-- What the listed variable's reading gives the walks. -/
theorem of_laid {W : World} (h : laidMetH Tryz.prog [("exchequer/crc.nibbles", Rows.laid_exchequer_crc_nibbles)] W) : Go.Proofs.YtmpiggcooboenaaGreatDoor.Al.NibAt (whole W) := by
  rw [MakeChecks.laidMetH_plain _ _ _ (by kernel_rfl)] at h
  obtain ⟨ps, ⟨g0, t0, cs0, f0, p0, q0, hg0, ht0, hv0, hd0, _⟩, _⟩ := h
  obtain rfl := Option.some.inj (gTab.symm.trans hg0)
  obtain rfl := Option.some.inj (tTab.symm.trans ht0)
  exact Go.Proofs.YtmpiggcooboenaaGreatDoor.Al.nib_whole hg0 hv0 (Go.Proofs.YtmpiggcooboenaaGreatDoor.Al.array_ints (zs := Go.Proofs.YtmpiggcooboenaaGreatDoor.Al.nibL.map fun x : Nat => (x : Int)) Tryz.underlying163 Tryz.underlying126 (by kernel_rfl) (by kernel_rfl) hd0)
theorem door_met (os : Os) (args : Array Value) : laidMetH Tryz.prog [("exchequer/crc.nibbles", Rows.laid_exchequer_crc_nibbles)] ((World.doorLaid Tryz.prog 4000 os).forCall (fun _ _ => 0) ⟨#[], args, []⟩).memory :=
  laidMetH_of_parts3 (fuel := 8) (laidMet_of_run' 8 (by kernel_rfl) (by kernel_rfl)) (by kernel_rfl) (by kernel_rfl)
set_option maxRecDepth 100000 in
theorem lifted (os : Os) (started : os.Started) (H : Type) (enc : TypeId × Value → H) :
    ReturnsInHanded {} Tryz.checked os 5 .any (fun w args => (Rows.pagerLivesSpec.pre enc Tryz.prog Tryz.f5 [] false w args ∧ laidMetH Tryz.prog [("exchequer/crc.nibbles", Rows.laid_exchequer_crc_nibbles)] w) ∧ sizedMet enc Tryz.prog Tryz.f5 (OpenSpec.ofChange Rows.pagerLivesSpec) false w args)
      (Rows.pagerLivesSpec.post enc Tryz.prog Tryz.f5 false true false false) := by
  refine returnsInHanded_of_change_and (C := Tryz.checked) (X := fun w _ => laidMetH Tryz.prog [("exchequer/crc.nibbles", Rows.laid_exchequer_crc_nibbles)] w) (fun _ _ _ hh h => h.of_heap hh) own started (by kernel_rfl) Tryz.func5
    (ChangeSpec.witness_shaped (enc := enc) (C := Tryz.checked) (os := os) (X := fun w _ => laidMetH Tryz.prog [("exchequer/crc.nibbles", Rows.laid_exchequer_crc_nibbles)] w) false (World.doorLaid Tryz.prog 4000 os) #[.int .u8 0, .slice none 0 0] 16 rfl (World.shaped_of_RefB (by kernel_rfl) (by kernel_rfl)) (by kernel_rfl) (by kernel_rfl) (by kernel_rfl) (door_met os _)) ?_
  intro W base args ds gs before hval0 hW hcnd hsz0 hL _
  have hG := of_laid hL
  have hval : ∀ (j : Nat) t v, Tryz.f5.params[j]? = some t → args[j]? = some v → Value.okWide Tryz.prog W .any base t v := hval0
  have hW' := hW
  obtain ⟨p, q, hA0, hV, rfl, hfz, hnd⟩ := hW
  have hA : DataW.TrodAll enc Tryz.prog W 0 (fun _ => true) true Tryz.f5.params.toList args.toList ds p := hA0
  rw [Tryz.params5] at hA hval
  obtain ⟨v0, vs0, d0, ds0, p0, q0, hargs, rfl, rfl, h0, r0⟩ := trodAll_cons hA
  obtain ⟨v1, vs1, d1, ds1, p1, q1, rfl, rfl, rfl, h1, r1⟩ := trodAll_cons r0
  obtain ⟨rfl, rfl, rfl⟩ := trodAll_nil r1
  obtain rfl : args = #[v0, v1] := by cases args; simp_all
  obtain ⟨rfl, rfl⟩ := trodVars_none hV
  obtain ⟨a0, rfl, rfl, rfl, w0⟩ := open_int Tryz.underlying5 (hval 0 5 v0 rfl rfl) h0
  obtain ⟨b1, len1, cap1, rfl⟩ := okWide_slice Tryz.underlying22 (hval 1 22 v1 rfl rfl)
  have t1 := h1
  have lt1 : ∀ x ∈ p1, x.block < W.heap.size := by obtain ⟨m, hm⟩ := t1; exact DataW.trod_lt m _ _ _ hm
  obtain ⟨x1, hK1, w1⟩ := Opens.trod (opens_slice 3 Tryz.underlying22 (by kernel_rfl) (opens_struct 3 Tryz.underlying30 (by kernel_rfl) (part_cons 1 rfl (by kernel_rfl) (opens_int Tryz.underlying3) (part_cons 1 rfl (by kernel_rfl) (opens_int Tryz.underlying3) (part_one 1 rfl (by kernel_rfl) (opens_int Tryz.underlying5)))))) h1
  obtain ⟨A1, c1, e1, hc1, hE1⟩ := hK1
  injection (List.cons.inj (show [Value.slice b1 len1 cap1] = [Value.slice A1 x1.length c1] from e1)).1 with eb1 el1 ec1
  subst eb1; subst el1; subst ec1
  refine ((AlPagerLives.law (whole W) hG a0 w0 x1 w1 b1 cap1 hc1 hE1).2 W (has_whole W)).mono fun e W' he_ => ?_
  obtain ⟨v_, F', he, hF', hr', rfl, hext⟩ := he_
  have bel : Below W.heap.size W W' := below_whole hext hF' hr'
  subst he
  exact ⟨_, rfl, _, _, _, [], _, [], hW', trodAll_mk1 (shut_bool Tryz.underlying4 _), (trodAll_cons_mk (shut_int Tryz.underlying5 w0) (trodAll_cons_mk (Below.trod laidOut (by kernel_rfl) (of_decide_eq_true (by kernel_rfl)) t1 bel lt1) trodAll_mk0)), rfl, bel.frame _, fun h => by cases h⟩
theorem over : Rows.pagerLivesRow.holds Tryz.pinned (OpenSpec.ofChange Rows.pagerLivesSpec) :=
  OpenClaim.holds_of_wide 5 Tryz.f5 rfl rfl rfl rfl rfl rfl rfl ⟨rfl, rfl, rfl, rfl, rfl⟩ rfl rfl rfl rfl rfl (by kernel_rfl) Tryz.func5 (by kernel_rfl)
    (of_decide_eq_true (by kernel_rfl)) (by unfold Func.isWrapper; first | (rw [if_pos (by decide +kernel)]; kernel_rfl) | (rw [if_neg (by decide +kernel)]; exact ⟨rfl, rfl⟩))
    (fun os started H enc _ => lifted os started H enc)
theorem said : Rows.PagerLivesSaid := over
theorem proved : Rows.PagerLivesCardSaid :=
  Claim7.holds_tied_plain_at .later [] [.data] true (true, "2341a2add8f3edda659ecf8ddaa5f37b27b81dd4857d74dd82b08bd6633dc3e7") false
    said (fun _ h => by cases h) (by kernel_rfl) (fun _ h => by cases h) pagerLives_row_tie rfl ⟨rfl, rfl⟩ (by kernel_rfl) rfl
    (fun f fn hf hfn => by
      obtain rfl : f = 5 := Option.some.inj ((show Tryz.prog.funcNamed "exchequer/exchequerlaw07.PagerLives" = some 5 by kernel_rfl).symm.trans hf) |>.symm
      obtain rfl : fn = Tryz.f5 := (Option.some.inj (Tryz.func5.symm.trans hfn)).symm
      exact ⟨by kernel_rfl, fun j t ht => by
        rw [Tryz.params5] at ht
        have hm : t ∈ [5, 22] := by simpa using Array.mem_of_getElem? ht
        have hall : ([5, 22].all fun u => !Tryz.prog.wantsStandIn u) = true := by kernel_rfl
        exact (show Tryz.prog.wantsStandIn t = false by simpa using List.all_eq_true.1 hall t hm)⟩)
    (by kernel_rfl)
#print axioms proved
end Go.Proofs.YtmpiggcooboenaaGreatDoor.pagerLives
namespace Go.Proofs.YtmpiggcooboenaaGreatDoor
/-- The row, under a short name, for the claim. -/
theorem pagerLives_holds : Rows.PagerLivesCardSaid := pagerLives.proved
end Go.Proofs.YtmpiggcooboenaaGreatDoor

/- The law RedoAtomic holds of the program, for every input that its row lets in. -/
import Derived.Test.YtmpiggcooboenaaDoorRows
import Derived.Test.YtmpiggcooboenaaDoorMgRedoAtomicLaw
import Derived.Test.YtmpiggcooboenaaDoorMgRedoAtomicP
import Derived.WalkKit
import Derived.ProofKit
import Derived.OpenShut
import Derived.ShutString
import Derived.ChangeOld
import Derived.Below
import Derived.SizedLaws
import Derived.Carry
import Derived.LaidMore
import Derived.Stop.Joined
import Derived.SevenTiedAt
import Derived.Test.YtmpiggcooboenaaDoorTie
import Derived.Test.YtmpiggcooboenaaDoorCards
namespace Go.Proofs.YtmpiggcooboenaaDoor.redoAtomic
open Go.ChangeShapes Go.WideShapes Go.ChangeAt Go.RowKit Go.Al
open Go.ChangeMaps (open_string shut_string)
set_option linter.unusedVariables false
theorem own : ownKnob Tryd.prog.godebug = none := by kernel_rfl
theorem laidOut : laidOutB Tryd.prog = true := by kernel_rfl
theorem gTab : Tryd.prog.globalNamed "exchequer/crc.nibbles" = some 1 := by kernel_rfl
theorem tTab : (Tryd.prog.globals[1]?).map (·.type) = some 171 := by kernel_rfl
/-- What the listed variable's reading gives the walks. -/
theorem of_laid {W : World} (h : laidMetH Tryd.prog [("exchequer/crc.nibbles", Rows.laid_exchequer_crc_nibbles)] W) : Go.Proofs.YtmpiggcooboenaaDoor.Al.NibAt (whole W) := by
  rw [MakeChecks.laidMetH_plain _ _ _ (by kernel_rfl)] at h
  obtain ⟨ps, ⟨g0, t0, cs0, f0, p0, q0, hg0, ht0, hv0, hd0, _⟩, _⟩ := h
  obtain rfl := Option.some.inj (gTab.symm.trans hg0)
  obtain rfl := Option.some.inj (tTab.symm.trans ht0)
  exact Go.Proofs.YtmpiggcooboenaaDoor.Al.nib_whole hg0 hv0 (Go.Proofs.YtmpiggcooboenaaDoor.Al.array_ints (zs := Go.Proofs.YtmpiggcooboenaaDoor.Al.nibL.map fun x : Nat => (x : Int)) Tryd.underlying171 Tryd.underlying43 (by kernel_rfl) (by kernel_rfl) hd0)
theorem door_met (os : Os) (args : Array Value) : laidMetH Tryd.prog [("exchequer/crc.nibbles", Rows.laid_exchequer_crc_nibbles)] ((World.doorLaid Tryd.prog 4000 os).forCall (fun _ _ => 0) ⟨#[], args, []⟩).memory :=
  laidMetH_of_parts3 (fuel := 8) (laidMet_of_run' 8 (by kernel_rfl) (by kernel_rfl)) (by kernel_rfl) (by kernel_rfl)
set_option maxRecDepth 100000 in
theorem lifted (os : Os) (started : os.Started) (H : Type) (enc : TypeId × Value → H) :
    ReturnsInHanded {} Tryd.checked os 7 .any (fun w args => (Rows.redoAtomicSpec.pre enc Tryd.prog Tryd.f7 [] false w args ∧ laidMetH Tryd.prog [("exchequer/crc.nibbles", Rows.laid_exchequer_crc_nibbles)] w) ∧ sizedMet enc Tryd.prog Tryd.f7 (OpenSpec.ofChange Rows.redoAtomicSpec) false w args)
      (Rows.redoAtomicSpec.post enc Tryd.prog Tryd.f7 false true false false) := by
  refine returnsInHanded_of_change_and (C := Tryd.checked) (X := fun w _ => laidMetH Tryd.prog [("exchequer/crc.nibbles", Rows.laid_exchequer_crc_nibbles)] w) (fun _ _ _ hh h => h.of_heap hh) own started (by kernel_rfl) Tryd.func7
    (ChangeSpec.witness_shaped (enc := enc) (C := Tryd.checked) (os := os) (X := fun w _ => laidMetH Tryd.prog [("exchequer/crc.nibbles", Rows.laid_exchequer_crc_nibbles)] w) false (World.doorLaid Tryd.prog 4000 os) #[.slice none 0 0, .slice none 0 0, .int .u8 0, .int .u8 0, .slice none 0 0, .slice none 0 0] 16 rfl (World.shaped_of_RefB (by kernel_rfl) (by kernel_rfl)) (by kernel_rfl) (by kernel_rfl) (by kernel_rfl) (door_met os _)) ?_
  intro W base args ds gs before hval0 hW hcnd hsz0 hL _
  have hG := of_laid hL
  have hval : ∀ (j : Nat) t v, Tryd.f7.params[j]? = some t → args[j]? = some v → Value.okWide Tryd.prog W .any base t v := hval0
  have hW' := hW
  obtain ⟨p, q, hA0, hV, rfl, hfz, hnd⟩ := hW
  have hA : DataW.TrodAll enc Tryd.prog W 0 (fun _ => true) true Tryd.f7.params.toList args.toList ds p := hA0
  rw [Tryd.params7] at hA hval
  obtain ⟨v0, vs0, d0, ds0, p0, q0, hargs, rfl, rfl, h0, r0⟩ := trodAll_cons hA
  obtain ⟨v1, vs1, d1, ds1, p1, q1, rfl, rfl, rfl, h1, r1⟩ := trodAll_cons r0
  obtain ⟨v2, vs2, d2, ds2, p2, q2, rfl, rfl, rfl, h2, r2⟩ := trodAll_cons r1
  obtain ⟨v3, vs3, d3, ds3, p3, q3, rfl, rfl, rfl, h3, r3⟩ := trodAll_cons r2
  obtain ⟨v4, vs4, d4, ds4, p4, q4, rfl, rfl, rfl, h4, r4⟩ := trodAll_cons r3
  obtain ⟨v5, vs5, d5, ds5, p5, q5, rfl, rfl, rfl, h5, r5⟩ := trodAll_cons r4
  obtain ⟨rfl, rfl, rfl⟩ := trodAll_nil r5
  obtain rfl : args = #[v0, v1, v2, v3, v4, v5] := by cases args; simp_all
  obtain ⟨rfl, rfl⟩ := trodVars_none hV
  obtain ⟨b0, len0, cap0, rfl⟩ := okWide_slice Tryd.underlying49 (hval 0 49 v0 rfl rfl)
  have t0 := h0
  have lt0 : ∀ x ∈ p0, x.block < W.heap.size := by obtain ⟨m, hm⟩ := t0; exact DataW.trod_lt m _ _ _ hm
  obtain ⟨x0, hK0, w0⟩ := Opens.trod (opens_slice 1 Tryd.underlying49 (by kernel_rfl) (opens_int Tryd.underlying5)) h0
  obtain ⟨A0, c0, e0, hc0, hE0⟩ := hK0
  injection (List.cons.inj (show [Value.slice b0 len0 cap0] = [Value.slice A0 x0.length c0] from e0)).1 with eb0 el0 ec0
  subst eb0; subst el0; subst ec0
  obtain ⟨b1, len1, cap1, rfl⟩ := okWide_slice Tryd.underlying49 (hval 1 49 v1 rfl rfl)
  have t1 := h1
  have lt1 : ∀ x ∈ p1, x.block < W.heap.size := by obtain ⟨m, hm⟩ := t1; exact DataW.trod_lt m _ _ _ hm
  obtain ⟨x1, hK1, w1⟩ := Opens.trod (opens_slice 1 Tryd.underlying49 (by kernel_rfl) (opens_int Tryd.underlying5)) h1
  obtain ⟨A1, c1, e1, hc1, hE1⟩ := hK1
  injection (List.cons.inj (show [Value.slice b1 len1 cap1] = [Value.slice A1 x1.length c1] from e1)).1 with eb1 el1 ec1
  subst eb1; subst el1; subst ec1
  obtain ⟨a2, rfl, rfl, rfl, w2⟩ := open_int Tryd.underlying5 (hval 2 5 v2 rfl rfl) h2
  obtain ⟨a3, rfl, rfl, rfl, w3⟩ := open_int Tryd.underlying5 (hval 3 5 v3 rfl rfl) h3
  obtain ⟨b4, len4, cap4, rfl⟩ := okWide_slice Tryd.underlying22 (hval 4 22 v4 rfl rfl)
  have t4 := h4
  have lt4 : ∀ x ∈ p4, x.block < W.heap.size := by obtain ⟨m, hm⟩ := t4; exact DataW.trod_lt m _ _ _ hm
  obtain ⟨x4, hK4, w4⟩ := Opens.trod (opens_slice 1 Tryd.underlying22 (by kernel_rfl) (opens_int Tryd.underlying3)) h4
  obtain ⟨A4, c4, e4, hc4, hE4⟩ := hK4
  injection (List.cons.inj (show [Value.slice b4 len4 cap4] = [Value.slice A4 x4.length c4] from e4)).1 with eb4 el4 ec4
  subst eb4; subst el4; subst ec4
  obtain ⟨b5, len5, cap5, rfl⟩ := okWide_slice Tryd.underlying22 (hval 5 22 v5 rfl rfl)
  have t5 := h5
  have lt5 : ∀ x ∈ p5, x.block < W.heap.size := by obtain ⟨m, hm⟩ := t5; exact DataW.trod_lt m _ _ _ hm
  obtain ⟨x5, hK5, w5⟩ := Opens.trod (opens_slice 1 Tryd.underlying22 (by kernel_rfl) (opens_int Tryd.underlying3)) h5
  obtain ⟨A5, c5, e5, hc5, hE5⟩ := hK5
  injection (List.cons.inj (show [Value.slice b5 len5 cap5] = [Value.slice A5 x5.length c5] from e5)).1 with eb5 el5 ec5
  subst eb5; subst el5; subst ec5
  refine ((AlRedoAtomic.law (whole W) hG x0 w0 b0 cap0 hc0 hE0 x1 w1 b1 cap1 hc1 hE1 a2 w2 a3 w3 x4 w4 b4 cap4 hc4 hE4 x5 w5 b5 cap5 hc5 hE5).2 W (has_whole W)).mono fun e W' he_ => ?_
  obtain ⟨v_, F', he, hF', hr', rfl, hext⟩ := he_
  have bel : Below W.heap.size W W' := below_whole hext hF' hr'
  subst he
  exact ⟨_, rfl, _, _, _, [], _, [], hW', trodAll_mk1 (shut_bool Tryd.underlying4 _), (trodAll_cons_mk (Below.trod laidOut (by kernel_rfl) (of_decide_eq_true (by kernel_rfl)) t0 bel lt0) (trodAll_cons_mk (Below.trod laidOut (by kernel_rfl) (of_decide_eq_true (by kernel_rfl)) t1 bel lt1) (trodAll_cons_mk (shut_int Tryd.underlying5 w2) (trodAll_cons_mk (shut_int Tryd.underlying5 w3) (trodAll_cons_mk (Below.trod laidOut (by kernel_rfl) (of_decide_eq_true (by kernel_rfl)) t4 bel lt4) (trodAll_cons_mk (Below.trod laidOut (by kernel_rfl) (of_decide_eq_true (by kernel_rfl)) t5 bel lt5) trodAll_mk0)))))), rfl, bel.frame _, fun h => by cases h⟩
theorem over : Rows.redoAtomicRow.holds Tryd.pinned (OpenSpec.ofChange Rows.redoAtomicSpec) :=
  OpenClaim.holds_of_wide 7 Tryd.f7 rfl rfl rfl rfl rfl rfl rfl ⟨rfl, rfl, rfl, rfl, rfl⟩ rfl rfl rfl rfl rfl (by kernel_rfl) Tryd.func7 (by kernel_rfl)
    (of_decide_eq_true (by kernel_rfl)) (by unfold Func.isWrapper; first | (rw [if_pos (by decide +kernel)]; kernel_rfl) | (rw [if_neg (by decide +kernel)]; exact ⟨rfl, rfl⟩))
    (fun os started H enc _ => lifted os started H enc)
theorem said : Rows.RedoAtomicSaid := over
theorem proved : Rows.RedoAtomicCardSaid :=
  Claim7.holds_tied_plain_at .later [] [.data] true (true, "c624f1197ee88d9ad11ccb39edb3505ebc8274becba041da099518222914e6f8") false
    said (fun _ h => by cases h) (by kernel_rfl) (fun _ h => by cases h) redoAtomic_row_tie rfl ⟨rfl, rfl⟩ (by kernel_rfl) rfl
    (fun f fn hf hfn => by
      obtain rfl : f = 7 := Option.some.inj ((show Tryd.prog.funcNamed "exchequer/exchequerlaw06.RedoAtomic" = some 7 by kernel_rfl).symm.trans hf) |>.symm
      obtain rfl : fn = Tryd.f7 := (Option.some.inj (Tryd.func7.symm.trans hfn)).symm
      exact ⟨by kernel_rfl, fun j t ht => by
        rw [Tryd.params7] at ht
        have hm : t ∈ [49, 49, 5, 5, 22, 22] := by simpa using Array.mem_of_getElem? ht
        have hall : ([49, 49, 5, 5, 22, 22].all fun u => !Tryd.prog.wantsStandIn u) = true := by kernel_rfl
        exact (show Tryd.prog.wantsStandIn t = false by simpa using List.all_eq_true.1 hall t hm)⟩)
    (by kernel_rfl)
#print axioms proved
end Go.Proofs.YtmpiggcooboenaaDoor.redoAtomic
namespace Go.Proofs.YtmpiggcooboenaaDoor
/-- The row, under a short name, for the claim. -/
theorem redoAtomic_holds : Rows.RedoAtomicCardSaid := redoAtomic.proved
end Go.Proofs.YtmpiggcooboenaaDoor

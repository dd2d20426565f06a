/- What the two ways of reading a code have in common, and the contract of the laws' awake. -/
import Derived.Test.YtkahpaipciooiabCode
namespace Go.Proofs.Ytkahpaipciooiab.Al
open Go Go.Al Go.Proofs Go.RowKit
set_option maxHeartbeats 8000000
set_option maxRecDepth 100000
set_option linter.unusedVariables false
set_option linter.unusedSimpArgs false
theorem wf64 {a : Int} (w : (Lit.int .i64 a).wf = true) : -9223372036854775808 ≤ a ∧ a < 9223372036854775808 := by
  simp [Lit.wf, IntKind.min, IntKind.max, IntKind.signed, IntKind.bits] at w
  omega
def digB (c : UInt8) : Prop := 48 ≤ c.toNat ∧ c.toNat ≤ 57
theorem stepI_dig (n : Int) (c : UInt8) (h0 : 0 ≤ n) (h1 : n ≤ 1000000) (hc : digB c) : stepI n c = 10 * n + (c.toNat - 48 : Nat) := by
  obtain ⟨c0, c1⟩ := hc
  unfold stepI
  have : IntKind.u8.wrap ((c.toNat : Int) - 48) = ((c.toNat - 48 : Nat) : Int) := by
    simp only [IntKind.wrap, IntKind.signed, IntKind.bits]
    simp
    omega
  rw [this, IntKind.wrap_i64, IntKind.wrap_i64, IntKind.wrap_i64]
  omega
theorem stepR_dig (n : Int) (c : UInt8) (h0 : 0 ≤ n) (h1 : n ≤ 1000000) (hc : digB c) : stepR n c = 10 * n + (c.toNat - 48 : Nat) := by
  obtain ⟨c0, c1⟩ := hc
  unfold stepR
  rw [IntKind.wrap_i64, IntKind.wrap_i64, IntKind.wrap_i64, IntKind.wrap_i64]
  omega
def v3 (a b c : UInt8) : Int := 10 * (10 * (10 * 0 + (a.toNat - 48 : Nat)) + (b.toNat - 48 : Nat)) + (c.toNat - 48 : Nat)
def v4 (a b c d : UInt8) : Int := 10 * v3 a b c + (d.toNat - 48 : Nat)
theorem v3_le {a b c : UInt8} (ha : digB a) (hb : digB b) (hc : digB c) : 0 ≤ v3 a b c ∧ v3 a b c ≤ 999 := by
  unfold digB at ha hb hc
  unfold v3
  omega
theorem numI3 {a b c : UInt8} (ha : digB a) (hb : digB b) (hc : digB c) : numI [a, b, c] = v3 a b c := by
  have ha' := ha; have hb' := hb
  unfold digB at ha' hb'
  show stepI (stepI (stepI 0 a) b) c = _
  rw [stepI_dig 0 a (by omega) (by omega) ha, stepI_dig _ b (by omega) (by omega) hb, stepI_dig _ c (by omega) (by omega) hc]
  rfl
theorem numR3 {a b c : UInt8} (ha : digB a) (hb : digB b) (hc : digB c) : numR [a, b, c] = v3 a b c := by
  have ha' := ha; have hb' := hb
  unfold digB at ha' hb'
  show stepR (stepR (stepR 0 a) b) c = _
  rw [stepR_dig 0 a (by omega) (by omega) ha, stepR_dig _ b (by omega) (by omega) hb, stepR_dig _ c (by omega) (by omega) hc]
  rfl
theorem numI4 {a b c d : UInt8} (ha : digB a) (hb : digB b) (hc : digB c) (hd : digB d) : numI [a, b, c, d] = v4 a b c d := by
  have := v3_le ha hb hc
  show stepI (numI [a, b, c]) d = _
  rw [numI3 ha hb hc, stepI_dig _ d (by omega) (by omega) hd]
  rfl
theorem numR4 {a b c d : UInt8} (ha : digB a) (hb : digB b) (hc : digB c) (hd : digB d) : numR [a, b, c, d] = v4 a b c d := by
  have := v3_le ha hb hc
  show stepR (numR [a, b, c]) d = _
  rw [numR3 ha hb hc, stepR_dig _ d (by omega) (by omega) hd]
  rfl
def dg (k : Nat) : UInt8 := UInt8.ofNat (48 + k % 10)
theorem dg_nat (k : Nat) : (dg k).toNat = 48 + k % 10 := by
  unfold dg
  rw [UInt8.toNat_ofNat']
  omega
theorem dg_dig (k : Nat) : digB (dg k) := by unfold digB; rw [dg_nat]; omega
theorem txt3 (n : Int) (h0 : 100 ≤ n) (h1 : n ≤ 999) : txt n = [dg (n.toNat / 10 / 10), dg (n.toNat / 10), dg n.toNat] := by
  rw [txt_pos n (by omega), digsR_step, if_neg (by omega), digsR_step, if_neg (by omega), digsR_step, if_pos (by omega)]
  rfl
theorem txt4 (n : Int) (h0 : 1000 ≤ n) (h1 : n ≤ 5999) : txt n = [dg (n.toNat / 10 / 10 / 10), dg (n.toNat / 10 / 10), dg (n.toNat / 10), dg n.toNat] := by
  rw [txt_pos n (by omega), digsR_step, if_neg (by omega), digsR_step, if_neg (by omega), digsR_step, if_neg (by omega), digsR_step, if_pos (by omega)]
  rfl
theorem say_dig {n m : Int} {l : List UInt8} (h : printS n m = l) (hl : l ≠ []) :
    ∃ a b c e f g k, l = [a, b, c, 46, e, f, g, k] ∧ digB a ∧ digB b ∧ digB c ∧ digB e ∧ digB f ∧ digB g ∧ digB k ∧ n = v3 a b c ∧ m = v4 e f g k := by
  unfold printS at h
  cases hn : inB 100 999 n with
  | false => rw [hn] at h; exact absurd h.symm hl
  | true =>
    cases hm : inB 1000 5999 m with
    | false => rw [hn, hm] at h; exact absurd h.symm hl
    | true =>
      rw [hn, hm] at h
      obtain ⟨n0, n1⟩ := (inB_iff _ _ _).1 hn
      obtain ⟨m0, m1⟩ := (inB_iff _ _ _).1 hm
      simp only [Bool.and_self, cond_true] at h
      rw [txt3 n n0 n1, txt4 m m0 m1] at h
      refine ⟨_, _, _, _, _, _, _, h.symm, dg_dig _, dg_dig _, dg_dig _, dg_dig _, dg_dig _, dg_dig _, dg_dig _, ?_, ?_⟩
      · unfold v3; simp only [dg_nat]; omega
      · unfold v4 v3; simp only [dg_nat]; omega
theorem print_parse (a b : Int) (h : printS a b ≠ []) : parseV (printS a b) = (a, b, true) := by
  obtain ⟨x, y, z, e, f, g, k, hl, h1, h2, h3, h4, h5, h6, h7, rfl, rfl⟩ := say_dig rfl h
  unfold parseV
  rw [hl, if_pos (show [x, y, z, 46, e, f, g, k].length = 8 from rfl)]
  show sayS (numI [x, y, z]) (numI [e, f, g, k]) _ = _
  rw [numI3 h1 h2 h3, numI4 h4 h5 h6 h7]
  unfold sayS
  rw [hl]
  simp
theorem parse_eq (l : List UInt8) : parseR l = parseV l := by
  unfold parseV parseR
  by_cases h8 : l.length = 8
  · rw [if_pos h8, if_pos h8]
    have hl : l ≠ [] := by rintro rfl; cases h8
    have key : ∀ n m, printS n m = l → numI (l.take 3) = numR (l.take 3) ∧ numI (l.drop 4) = numR ((l.drop 4).take 4) := by
      intro n m h
      obtain ⟨x, y, z, e, f, g, k, rfl, h1, h2, h3, h4, h5, h6, h7, _, _⟩ := say_dig h hl
      exact ⟨(numI3 h1 h2 h3).trans (numR3 h1 h2 h3).symm, (numI4 h4 h5 h6 h7).trans (numR4 h4 h5 h6 h7).symm⟩
    by_cases h : printS (numI (l.take 3)) (numI (l.drop 4)) = l
    · obtain ⟨e1, e2⟩ := key _ _ h
      rw [← e1, ← e2]
    · by_cases h' : printS (numR (l.take 3)) (numR ((l.drop 4).take 4)) = l
      · obtain ⟨e1, e2⟩ := key _ _ h'
        rw [← e1, ← e2]
      · unfold sayS
        rw [beq_eq_false_iff_ne.2 h, beq_eq_false_iff_ne.2 h']
        rfl
  · rw [if_neg h8, if_neg h8]
theorem print_hi : printS 100 5010 = [49, 48, 48, 46, 53, 48, 49, 48] := by
  have h1 : inB 100 999 100 = true := by decide
  have h2 : inB 1000 5999 5010 = true := by decide
  unfold printS
  rw [h1, h2, txt3 100 (by decide) (by decide), txt4 5010 (by decide) (by decide)]
  decide
theorem awake (F : Heap) : FnK Try.prog 37 #[] F (fun v F' => v = .bool true ∧ Ext F F') := by
  have hp : parseV [49, 48, 48, 46, 53, 48, 49, 48] = (100, 5010, true) := by
    rw [← print_hi]
    exact print_parse 100 5010 (by rw [print_hi]; decide)
  have h1 := parse [49, 48, 48, 46, 53, 48, 49, 48] (by decide) F
  rw [hp] at h1
  have h2 := fun F => class_ 5010 F
  rw [show classI 5010 = 5 by decide +kernel] at h2
  have h3 := fun F => print 100 5010 F
  rw [print_hi] at h3
  (refine fn_walk tab_ok Try.func37 rfl rfl rfl rfl ?_; (conv => whnf))
  refine call_of h1 ?_
  rintro v F1 ⟨rfl, hF1⟩
  (conv => whnf)
  refine call_of (h2 _) ?_
  rintro v _ ⟨rfl, rfl⟩
  (conv => whnf)
  refine call_of (h3 _) ?_
  rintro v F2 ⟨rfl, hF2⟩
  (conv => whnf)
  (refine cond_split (fun _ => ?_) (fun h_ => absurd h_ (by simp)); (conv => whnf))
  refine call_of (fixed 1010 _) ?_
  rintro v _ ⟨rfl, rfl⟩
  (conv => whnf)
  exact ⟨congrArg Value.bool (show fixedB 1010 = true by decide), hF1.trans hF2⟩
end Go.Proofs.Ytkahpaipciooiab.Al
